/- The equations that every walk uses, in one. No condition. -/
import Derived.Test.YtnfdakclfmchfaaGreatMD
namespace Go.Proofs.YtnfdakclfmchfaaGreat
noncomputable section
set_option linter.unusedSimpArgs false
set_option linter.unusedVariables false
open Go Go.RowKit
def vH(H:Heap):Option AV->Option (AV × Heap)
 |some v=>some (v,H)
 |none=>none
def b2{α:Type} (f:AV->AV->Option α):Option AV->Option AV->Option α
 |some x,some y=>f x y
 |_,_=>none
def b3{α:Type} (f:AV->AV->AV->Option α):Option AV->Option AV->Option AV->Option α
 |some x,some y,some z=>f x y z
 |_,_,_=>none
def b1{α:Type} (f:AV->Option α):Option AV->Option α
 |some x=>f x
 |none=>none
def stV:Option Heap->Option (AV × Heap)
 |some H=>some (.undef,H)
 |none=>none
def clrV:Option Heap->Option (AV × Heap)
 |some H=>some (.tup [],H)
 |none=>none
def qy8(H:Heap):Option AV->Option AV->Option AV->Option (AV × Heap)
 |some (.bool true),a,_=>vH H a
 |some (.bool false),_,b=>vH H b
 |_,_,_=>none
def mkF(fn:Go.Fn) (H:Heap):Option (List AV)->Option (List AV)->Option (AV × Heap)
 |some a,some b=>some (.func fn a b,H)
 |_,_=>none
def slV(P:Program) (H:Heap) (t:TypeId):Option AV->Option (Option AV)->Option (Option AV)->Option (Option AV)->Option AV
 |some x,some lo,some hi,some mx=>qcs P H t x lo hi mx
 |_,_,_,_=>none
def faV(P:Program) (t:TypeId) (i:Nat):Option AV->Option AV
 |some x=>qaw P t x i
 |none=>none
def fdV(P:Program) (t:TypeId) (i:Nat):Option AV->Option AV
 |some x=>qc9 P t x i
 |none=>none
def luV(P:Program) (H:Heap) (t:TypeId) (ok:Bool):Option AV->Option AV->Option AV
 |some m,some k=>qia P H t m k ok
 |_,_=>none
def exV(i:Nat):Option AV->Option AV
 |some (.tup vs)=>qca vs i
 |_=>none
def ncV(H:Heap):Option AV->Option (AV × Heap)
 |some (.ptr b o)=>some (.ptr b o,H)
 |some (.fptr cs o)=>some (.fptr cs o,H)
 |some (.func (.func f) a b)=>some (.func (.func f) a b,H)
 |some (.func (.yield f) a b)=>some (.func (.yield f) a b,H)
 |some (.yld b)=>some (.yld b,H)
 |_=>none
def bltV(P:Program) (H:Heap) (b:Builtin) (ts:Array TypeId):Option (List AV)->Option (AV × Heap)
 |some args=>qc0 P H b ts args
 |none=>none
def clV(call:qc5) (H:Heap):Option AV->Option (List AV)->Option (AV × Heap)
 |some (.func (.func f) first cap),some args=>call (.fn f) (first++args++cap) H
 |some (.yld b),some args=>call (.yl b) args H
 |_,_=>none
def alV(P:Program) (H:Heap) (t:TypeId):Option (AV × Heap):=(qbq P t).bind fun z=>(qc1 P t).bind fun n=>match Nat.beq z.cells.length n with
  |true=>some (.ptr H.n 0,H.new (match memT t objs with
   |true=>.obj t z.cells
   |false=>.cells z.cells))
  |false=>none
def rgV(H:Heap):Option TypeDesc->Option AV->Option (AV × Heap)
 |some .string,some (.str l)=>some (.ptr H.n 0,H.new (.iter l 0))
 |some (.map _ _),some (.map b)=>zae H b
 |_,_=>none
def nxV(H:Heap) (isS:Bool):Option AV->Option (AV × Heap)
 |some (.ptr b 0)=>match isS with
  |true=>qsn H b
  |false=>none
 |_=>none
def boxV(H:Heap):Option AV->Option (AV × Heap)
 |some x=>match allSingle x.cells with
  |true=>some (.ptr H.n 0,H.new (.cells x.cells))
  |false=>none
 |none=>none
def bsW(P:Program) (H:Heap) (d:Option Tmp) (t:TypeId) (len:Nat):Option (List AV)->Option (AV × Heap)
 |some cs=>some (.slc H.n 0 len (.ex len),H.new (qz2 P t d cs))
 |none=>none
def bsV(P:Program) (H:Heap) (d:Option Tmp) (t:TypeId) (len:Nat):Option (List (Nat × AV))->Option (AV × Heap)
 |some ps=>bsW P H d t len (sliceParts P t len ps)
 |none=>none
def bldV(P:Program) (t:TypeId):Option (List (Nat × AV))->Option AV
 |some ps=>qdw P t ps
 |none=>none
def consO{α:Type}:Option α->Option (List α)->Option (List α)
 |some x,some r=>some (x::r)
 |_,_=>none
def consP(i:Nat):Option AV->Option (List (Nat × AV))->Option (List (Nat × AV))
 |some x,some r=>some ((i,x)::r)
 |_,_=>none
def putV(s:St) (d:Option Tmp):Option (AV × Heap)->Option St
 |some (v,H)=>St.put { s with H:=H } d v
 |none=>none
def gd2(w:Bool):Option AV->Option Bool
 |some (.bool b)=>some (b == w)
 |some (.tup [])=>some false
 |_=>none
def gd1(s:St) (w:Bool):Option Oper->Option Bool
 |some p=>match p.dst with
  |some t=>gd2 w (s.get t)
  |none=>none
 |none=>none
def qut(C:Ctx) (call:qc5) (s:St) (o:Oper):Option Bool->Option St
 |some true=>putV s o.dst (qae C call o s)
 |some false=>s.put o.dst (.tup [])
 |none=>none
def qhy(C:Ctx) (call:qc5) (ops:Array Oper):Option St->List Oper->Option St
 |some s,l=>qej C call ops l s
 |none,_=>none
def lnV(H:Heap):Option Nat->Option (AV × Heap)
 |some n=>some (.int .i64 n,H)
 |none=>none
def apV(P:Program) (H:Heap) (s x:AV):Option TypeDesc->Option TypeDesc->Option (AV × Heap)
 |some (.slice e),some (.slice _)=>qby P H e s x
 |some (.slice e),some .string=>qby P H e s x
 |some (.slice e),some (.int _)=>qyh P H e s x
 |_,_=>none
def cpV(P:Program) (H:Heap) (s x:AV):Option TypeDesc->Option (AV × Heap)
 |some (.slice e)=>copyA P H e s x
 |_=>none
def frV(s:St):Option AV->St
 |some (.ptr b 0)=>match s.H.get b with
  |some (.cells [_])=>s
  |_=>{ s with H:=s.H.kill b }
 |_=>s
@[simp]theorem qfc(cs:List AV):(Blk.cells cs).rd=some cs:=rfl
@[simp]theorem rd_obj(t:TypeId) (cs:List AV):(Blk.obj t cs).rd=some cs:=rfl
@[simp]theorem rd_buf(t:TypeId) (fz:Nat) (cs:List AV):(Blk.buf t fz cs).rd=some cs:=rfl
@[simp]theorem rd_map(es:List (AV × AV)):(Blk.map es).rd=none:=rfl
@[simp]theorem wt_cells(o:Nat) (cs:List AV):(Blk.cells cs).wt o=some cs:=rfl
@[simp]theorem wt_obj(o:Nat) (t:TypeId) (cs:List AV):(Blk.obj t cs).wt o=some cs:=rfl
@[simp]theorem wt_map(o:Nat) (es:List (AV × AV)):(Blk.map es).wt o=none:=rfl
@[simp]theorem re_cells(cs cs':List AV):(Blk.cells cs).re cs'=.cells cs':=rfl
@[simp]theorem re_obj(t:TypeId) (cs cs':List AV):(Blk.obj t cs).re cs'=.obj t cs':=rfl
@[simp]theorem re_buf(t:TypeId) (fz:Nat) (cs cs':List AV):(Blk.buf t fz cs).re cs'=.buf t fz cs':=rfl
@[simp]theorem qpr(cs cs':List AV) (e:TypeId) (o:Nat):goOn (.cells cs) e o cs'=some (.cells cs'):=rfl
section
variable {C:Ctx} {call:qc5} {ops:Array Oper} {s:St} {P:Program} {H H':Heap} {d:Option Tmp} {ty:TypeId} {pos:String} {af:Array Edge} {g:Option (Nat × Bool)} {t u:TypeId} {a b c x y z v w:AV} {f fo l m k:Operand} {n i j:Nat}
@[simp]theorem vH_some:vH H (some v)=some (v,H):=rfl
@[simp]theorem zct{α:Type} {f:AV->Option α}:b1 f (some x)=f x:=rfl
@[simp]theorem qrn{α:Type} {f:AV->AV->Option α}:b2 f (some x) (some y)=f x y:=rfl
@[simp]theorem zcs{α:Type} {f:AV->AV->AV->Option α}:b3 f (some x) (some y) (some z)=f x y z:=rfl
@[simp]theorem stV_some:stV (some H)=some (.undef,H):=rfl
@[simp]theorem clrV_some:clrV (some H)=some (.tup [],H):=rfl
@[simp]theorem pickV_t{p q:Option AV}:qy8 H (some (.bool true)) p q=vH H p:=rfl
@[simp]theorem pickV_f{p q:Option AV}:qy8 H (some (.bool false)) p q=vH H q:=rfl
@[simp]theorem mkF_some{fn:Go.Fn} {p q:List AV}:mkF fn H (some p) (some q)=some (.func fn p q,H):=rfl
@[simp]theorem slV_some{lo hi mx:Option AV}:slV P H t (some x) (some lo) (some hi) (some mx)=qcs P H t x lo hi mx:=rfl
@[simp]theorem faV_some:faV P t i (some x)=qaw P t x i:=rfl
@[simp]theorem fdV_some:fdV P t i (some x)=qc9 P t x i:=rfl
@[simp]theorem luV_some{ok:Bool}:luV P H t ok (some x) (some y)=qia P H t x y ok:=rfl
@[simp]theorem exV_some{vs:List AV}:exV i (some (.tup vs))=qca vs i:=rfl
@[simp]theorem ncV_ptr{o:Nat}:ncV H (some (.ptr n o))=some (.ptr n o,H):=rfl
@[simp]theorem ncV_fptr{cs:List AV} {o:Nat}:ncV H (some (.fptr cs o))=some (.fptr cs o,H):=rfl
@[simp]theorem ncV_func{f:FuncId} {p q:List AV}:ncV H (some (.func (.func f) p q))=some (.func (.func f) p q,H):=rfl
@[simp]theorem bltV_some{bu:Builtin} {ts:Array TypeId} {args:List AV}:bltV P H bu ts (some args)=qc0 P H bu ts args:=rfl
@[simp]theorem clV_some{f:FuncId} {first cap args:List AV}:clV call H (some (.func (.func f) first cap)) (some args)=call (.fn f) (first++args++cap) H:=rfl
@[simp]theorem clV_yld{b:Nat} {args:List AV}:clV call H (some (.yld b)) (some args)=call (.yl b) args H:=rfl
@[simp]theorem boxV_some:boxV H (some x)=match allSingle x.cells with
  |true=>some (.ptr H.n 0,H.new (.cells x.cells))
  |false=>none:=rfl
@[simp]theorem bsW_some{cs:List AV} {d:Option Tmp}:bsW P H d t n (some cs)=some (.slc H.n 0 n (.ex n),H.new (qz2 P t d cs)):=rfl
@[simp]theorem memP_nil{d:Nat}:memP n d []=false:=by simp only[memP]
@[simp]theorem memP_cons{d:Nat} {m:Nat × Nat} {r:List (Nat × Nat)}:memP n d (m::r)=((m.1 == n && m.2 == d) || memP n d r):=by
 have e:∀a b:Nat,Nat.beq a b=(a == b):=fun a b=>by
  cases h:Nat.beq a b
  ·cases h2:(a == b)
   ·rfl
   ·rw[eq_of_beq h2,Nat.beq_refl]at h;cases h
  ·rw[Nat.eq_of_beq_eq_true h];simp
 show (match Nat.beq m.1 n && Nat.beq m.2 d with|true=>true|false=>memP n d r)=_;rw[e,e];cases (m.1 == n && m.2 == d)<;>rfl
@[simp]theorem memB{d:Nat}:memP n d bufs=memP n d [(38,59),(38,15)]:=by simp only[bufs]
@[simp]theorem rowB_none{cs:List AV}:qz2 P t none cs=.cells cs:=rfl
@[simp]theorem rowB_no{cs:List AV} {d:Nat} (h:memP t d bufs=false):qz2 P t (some d) cs=.cells cs:=by unfold qz2;simp only[h]
@[simp]theorem bsV_some{ps:List (Nat × AV)} {d:Option Tmp}:bsV P H d t n (some ps)=bsW P H d t n (sliceParts P t n ps):=rfl
@[simp]theorem zcq{ps:List (Nat × AV)}:bldV P t (some ps)=qdw P t ps:=rfl
@[simp]theorem consO_some{α:Type} {x:α} {r:List α}:consO (some x) (some r)=some (x::r):=rfl
@[simp]theorem consP_some{r:List (Nat × AV)}:consP i (some x) (some r)=some ((i,x)::r):=rfl
@[simp]theorem putV_some:putV s d (some (v,H))=St.put { s with H:=H } d v:=rfl
@[simp]theorem gd2_bool{w p:Bool}:gd2 w (some (.bool p))=some (p == w):=rfl
@[simp]theorem gd2_tup{w:Bool}:gd2 w (some (.tup []))=some false:=rfl
@[simp]theorem gd1_some{w:Bool} {op:Op}:gd1 s w (some ⟨some t,op,ty,pos,af,g⟩)=gd2 w (s.get t):=rfl
@[simp]theorem gate_t{o:Oper}:qut C call s o (some true)=putV s o.dst (qae C call o s):=rfl
@[simp]theorem gate_f{o:Oper}:qut C call s o (some false)=s.put o.dst (.tup []):=rfl
@[simp]theorem thenOps_some{l:List Oper}:qhy C call ops (some s) l=qej C call ops l s:=rfl
@[simp]theorem lnV_some:lnV H (some n)=some (.int .i64 n,H):=rfl
@[simp]theorem apV_ss{e e':TypeId}:apV P H x y (some (.slice e)) (some (.slice e'))=qby P H e x y:=rfl
@[simp]theorem apV_gr{e:TypeId} {k:IntKind}:apV P H x y (some (.slice e)) (some (.int k))=qyh P H e x y:=rfl
@[simp]theorem apV_st{e:TypeId}:apV P H x y (some (.slice e)) (some .string)=qby P H e x y:=rfl
@[simp]theorem cpV_s{e:TypeId}:cpV P H x y (some (.slice e))=copyA P H e x y:=rfl
@[simp]theorem frV_ptr:frV s (some (.ptr n 0))=match s.H.get n with
  |some (.cells [_])=>s
  |_=>{ s with H:=s.H.kill n }:=rfl
@[simp]theorem frV_undef:frV s (some .undef)=s:=rfl
@[simp]theorem frV_none:frV s none=s:=rfl
@[simp]theorem opnds_c{r:List Operand}:qex s (l::r)=consO (qbr s l) (qex s r):=by rw[qya];cases qbr s l<;>cases qex s r<;>rfl
@[simp]theorem opndP_n:qgs s []=some []:=rfl
@[simp]theorem opndP_c{r:List (Nat × Operand)}:qgs s ((i,l)::r)=consP i (qbr s l) (qgs s r):=by
 show ((qbr s l).bind fun v=>(qgs s r).bind fun vs=>some ((i,v)::vs))=_;cases qbr s l with
 |none=>rfl
 |some v=>cases qgs s r<;>rfl
@[simp]theorem opndO_n:qg2 s none=some none:=rfl
theorem opndO_s:qg2 s (some l)=(qbr s l).map some:=by show ((qbr s l).bind fun v=>some (some v))=_;cases qbr s l<;>rfl
@[simp]theorem ops_n:qej C call ops [] s=some s:=rfl
@[simp]theorem ops_c{o:Oper} {r:List Oper}:qej C call ops (o::r) s=qhy C call ops (qdt C call ops o (qbn s o)) r:=by rw[qth];cases qdt C call ops o (qbn s o)<;>rfl
@[simp]theorem evo_n{op:Op}:qdt C call ops ⟨d,op,ty,pos,af,none⟩ s=putV s d (qae C call ⟨d,op,ty,pos,af,none⟩ s):=by unfold qdt qaz;simp only[Option.bind_some];cases qae C call ⟨d,op,ty,pos,af,none⟩ s<;>rfl
@[simp]theorem evo_g{op:Op} {wt:Bool}:qdt C call ops ⟨d,op,ty,pos,af,some (j,wt)⟩ s=qut C call s ⟨d,op,ty,pos,af,some (j,wt)⟩ (gd1 s wt ops[j]?):=by
 unfold qdt qaz;simp only;cases ops[j]? with
 |none=>rfl
 |some p=>
  simp only[Option.bind_some,gd1];cases p.dst with
  |none=>rfl
  |some t=>
   simp only[Option.bind_some];cases s.get t with
   |none=>rfl
   |some v=>
    have key:∀gg:Option Bool,(gg.bind fun g=>match g with
     |true=>(qae C call ⟨d,op,ty,pos,af,some (j,wt)⟩ s).bind fun r=>St.put { s with H:=r.2 } d r.1
     |false=>s.put d (.tup []))=qut C call s ⟨d,op,ty,pos,af,some (j,wt)⟩ gg:=fun gg=>by
     cases gg with
     |none=>rfl
     |some q=>
      cases q with
      |false=>rfl
      |true=>simp only[Option.bind_some,gate_t];cases qae C call ⟨d,op,ty,pos,af,some (j,wt)⟩ s<;>rfl
    simp only[Option.bind_some];rw[<- key (gd2 wt (some v))];cases v<;>try rfl
    rename_i l;cases l<;>rfl
@[simp]theorem fr_move:qbn s ⟨d,.move l,ty,pos,af,g⟩=s:=rfl
@[simp]theorem fr_assign:qbn s ⟨d,.assign l,ty,pos,af,g⟩=s:=rfl
@[simp]theorem fr_pick:qbn s ⟨d,.pick l m k,ty,pos,af,g⟩=s:=rfl
@[simp]theorem fr_buildSlice{ps:Array (Nat × Operand)}:qbn s ⟨d,.buildSlice t n ps,ty,pos,af,g⟩=s:=rfl
@[simp]theorem fr_makeMap{ro:Option Operand}:qbn s ⟨d,.makeMap t ro,ty,pos,af,g⟩=s:=rfl
@[simp]theorem fr_build{ps:Array (Nat × Operand)}:qbn s ⟨d,.build t ps,ty,pos,af,g⟩=s:=rfl
@[simp]theorem fr_load:qbn s ⟨d,.load t l,ty,pos,af,g⟩=s:=rfl
@[simp]theorem fr_store:qbn s ⟨d,.store t l m,ty,pos,af,g⟩=s:=rfl
@[simp]theorem fr_nilCheck:qbn s ⟨d,.nilCheck l,ty,pos,af,g⟩=s:=rfl
@[simp]theorem fr_binOp{bo:BinOp}:qbn s ⟨d,.binOp bo t l m u,ty,pos,af,g⟩=s:=rfl
@[simp]theorem fr_unOp{uo:UnOp}:qbn s ⟨d,.unOp uo t l,ty,pos,af,g⟩=s:=rfl
@[simp]theorem fr_convert:qbn s ⟨d,.convert t u l,ty,pos,af,g⟩=s:=rfl
@[simp]theorem fr_makeFunc{fn:Go.Fn} {p q:Array Operand}:qbn s ⟨d,.makeFunc fn p q,ty,pos,af,g⟩=s:=rfl
@[simp]theorem fr_makeSlice:qbn s ⟨d,.makeSlice t l m,ty,pos,af,g⟩=s:=rfl
@[simp]theorem fr_slice{lo hi mx:Option Operand}:qbn s ⟨d,.slice t l lo hi mx,ty,pos,af,g⟩=s:=rfl
@[simp]theorem fr_fieldAddr:qbn s ⟨d,.fieldAddr t l i,ty,pos,af,g⟩=s:=rfl
@[simp]theorem fr_field:qbn s ⟨d,.field t l i,ty,pos,af,g⟩=s:=rfl
@[simp]theorem fr_indexAddr:qbn s ⟨d,.indexAddr t l m,ty,pos,af,g⟩=s:=rfl
@[simp]theorem fr_index:qbn s ⟨d,.index t l m,ty,pos,af,g⟩=s:=rfl
@[simp]theorem fr_lookup{ok:Bool}:qbn s ⟨d,.lookup t l m ok,ty,pos,af,g⟩=s:=rfl
@[simp]theorem fr_mapUpdate:qbn s ⟨d,.mapUpdate t l m k,ty,pos,af,g⟩=s:=rfl
@[simp]theorem fr_insert:qbn s ⟨d,.insert t l m k,ty,pos,af,g⟩=s:=rfl
@[simp]theorem fr_extract:qbn s ⟨d,.extract l i,ty,pos,af,g⟩=s:=rfl
@[simp]theorem fr_call{cc:Call}:qbn s ⟨d,.call cc,ty,pos,af,g⟩=s:=rfl
@[simp]theorem fr_alloc:qbn s ⟨some n,.alloc t,ty,pos,af,g⟩=frV s (s.get n):=by
 unfold qbn;simp only;cases s.get n with
 |none=>rfl
 |some v=>cases v<;>rfl
@[simp]theorem fr_box:qbn s ⟨some n,.box t l,ty,pos,af,g⟩=frV s (s.get n):=by
 unfold qbn;simp only;cases s.get n with
 |none=>rfl
 |some v=>cases v<;>rfl
@[simp]theorem ev_move:qae C call ⟨d,.move l,ty,pos,af,g⟩ s=vH s.H (qbr s l):=by unfold qae;simp only;cases qbr s l<;>rfl
@[simp]theorem ev_assign:qae C call ⟨d,.assign l,ty,pos,af,g⟩ s=vH s.H (qbr s l):=by unfold qae;simp only;cases qbr s l<;>rfl
@[simp]theorem ev_pick:qae C call ⟨d,.pick l m k,ty,pos,af,g⟩ s=qy8 s.H (qbr s l) (qbr s m) (qbr s k):=by
 unfold qae;simp only;cases qbr s l with
 |none=>rfl
 |some v=>
  cases v<;>try rfl
  rename_i q;cases q
  ·cases qbr s k<;>rfl
  ·cases qbr s m<;>rfl
@[simp]theorem ev_alloc:qae C call ⟨d,.alloc t,ty,pos,af,g⟩ s=alV C.P s.H t:=by
 unfold qae qbt alV;simp only;cases qbq C.P t with
 |none=>rfl
 |some z=>cases qc1 C.P t with
  |none=>rfl
  |some n=>simp only[Option.bind_some];cases Nat.beq z.cells.length n<;>rfl
@[simp]theorem ev_box:qae C call ⟨d,.box t l,ty,pos,af,g⟩ s=boxV s.H (qbr s l):=by
 unfold qae qbt boxV;simp only;cases qbr s l with
 |none=>rfl
 |some v=>simp only[Option.bind_some];cases allSingle v.cells<;>rfl
@[simp]theorem ev_bs{ps:Array (Nat × Operand)}:qae C call ⟨d,.buildSlice t n ps,ty,pos,af,g⟩ s=bsV C.P s.H d t n (qgs s ps.toList):=by
 unfold qae qbt;simp only;cases qgs s ps.toList with
 |none=>rfl
 |some q=>simp only[Option.bind_some,bsV_some];cases sliceParts C.P t n q<;>rfl
@[simp]theorem ev_mm:qae C call ⟨d,.makeMap t none,ty,pos,af,g⟩ s=some (.map s.H.n,s.H.new (.map [])):=rfl
@[simp]theorem ev_bld{ps:Array (Nat × Operand)}:qae C call ⟨d,.build t ps,ty,pos,af,g⟩ s=vH s.H (bldV C.P t (qgs s ps.toList)):=by
 unfold qae;simp only;cases qgs s ps.toList with
 |none=>rfl
 |some q=>simp only[Option.bind_some,zcq];cases qdw C.P t q<;>rfl
@[simp]theorem ev_load:qae C call ⟨d,.load t l,ty,pos,af,g⟩ s=vH s.H (b1 (qaq C.P s.H t) (qbr s l)):=by
 unfold qae;simp only;cases qbr s l with
 |none=>rfl
 |some v=>simp only[Option.bind_some,zct];cases qaq C.P s.H t v<;>rfl
@[simp]theorem ev_store:qae C call ⟨d,.store t l m,ty,pos,af,g⟩ s=stV (b2 (writeVar C.P s.H t) (qbr s l) (qbr s m)):=by
 unfold qae;simp only;cases qbr s l with
 |none=>rfl
 |some v=>cases qbr s m with
  |none=>rfl
  |some v2=>simp only[Option.bind_some,qrn];cases writeVar C.P s.H t v v2<;>rfl
@[simp]theorem ev_nc:qae C call ⟨d,.nilCheck l,ty,pos,af,g⟩ s=ncV s.H (qbr s l):=by
 unfold qae;simp only;cases qbr s l with
 |none=>rfl
 | some v => cases v <;> try rfl
             rename_i fn _ _;cases fn<;>rfl
@[simp]theorem ev_bin{op:BinOp} {e:TypeId}:qae C call ⟨d,.binOp op t l m e,ty,pos,af,g⟩ s=vH s.H (b2 (qke C.P op t (qxe l || qxe m)) (qbr s l) (qbr s m)):=by
 unfold qae;simp only;cases qbr s l with
 |none=>rfl
 |some v=>cases qbr s m with
  |none=>rfl
  |some v2=>simp only[Option.bind_some,qrn];cases qke C.P op t (qxe l || qxe m) v v2<;>rfl
@[simp]theorem cst_c{v:Value}:qxe (.const v)=true:=rfl
@[simp]theorem cst_t{v:Tmp}:qxe (.tmp v)=false:=rfl
@[simp]theorem cst_f{v:FuncId}:qxe (.func v)=false:=rfl
@[simp]theorem bk_int{op:BinOp} {t:TypeId} {c:Bool} {k:IntKind} {n:Int} {y:AV}:qke P op t c (.int k n) y=qda P op t (.int k n) y:=rfl
@[simp]theorem bk_str{op:BinOp} {t:TypeId} {c:Bool} {n:List UInt8} {y:AV}:qke P op t c (.str n) y=qda P op t (.str n) y:=rfl
@[simp]theorem bk_bool{op:BinOp} {t:TypeId} {c:Bool} {b:Bool} {y:AV}:qke P op t c (.bool b) y=qda P op t (.bool b) y:=rfl
@[simp]theorem bk_flt{op:BinOp} {t:TypeId} {c:Bool} {k:FloatKind} {n:Nat} {y:AV}:qke P op t c (.float k n) y=qda P op t (.float k n) y:=rfl
@[simp]theorem bk_cplx{op:BinOp} {t:TypeId} {c:Bool} {k:FloatKind} {n m:Nat} {y:AV}:qke P op t c (.cplx k n m) y=qda P op t (.cplx k n m) y:=rfl
@[simp]theorem bk_nilP{op:BinOp} {t:TypeId} {c:Bool} {y:AV}:qke P op t c (.nilP) y=qda P op t (.nilP) y:=rfl
@[simp]theorem bk_ptr{op:BinOp} {t:TypeId} {c:Bool} {b o:Nat} {y:AV}:qke P op t c (.ptr b o) y=qda P op t (.ptr b o) y:=rfl
@[simp]theorem bk_fptr{op:BinOp} {t:TypeId} {c:Bool} {cs:List AV} {o:Nat} {y:AV}:qke P op t c (.fptr cs o) y=qda P op t (.fptr cs o) y:=rfl
@[simp]theorem bk_nilS{op:BinOp} {t:TypeId} {c:Bool} {y:AV}:qke P op t c (.nilS) y=qda P op t (.nilS) y:=rfl
@[simp]theorem bk_eslc{op:BinOp} {t:TypeId} {c:Bool} {y:AV}:qke P op t c (.eslc) y=qda P op t (.eslc) y:=rfl
@[simp]theorem bk_zslc{op:BinOp} {t:TypeId} {c:Bool} {y:AV}:qke P op t c (.zslc) y=qda P op t (.zslc) y:=rfl
@[simp]theorem bk_slc{op:BinOp} {t:TypeId} {c:Bool} {b o n:Nat} {q:Cap} {y:AV}:qke P op t c (.slc b o n q) y=qda P op t (.slc b o n q) y:=rfl
@[simp]theorem bk_fslc{op:BinOp} {t:TypeId} {c:Bool} {z:Nat} {es:List AV} {y:AV}:qke P op t c (.fslc z es) y=qda P op t (.fslc z es) y:=rfl
@[simp]theorem bk_nilM{op:BinOp} {t:TypeId} {c:Bool} {y:AV}:qke P op t c (.nilM) y=qda P op t (.nilM) y:=rfl
@[simp]theorem bk_map{op:BinOp} {t:TypeId} {c:Bool} {b:Nat} {y:AV}:qke P op t c (.map b) y=qda P op t (.map b) y:=rfl
@[simp]theorem bk_nilF{op:BinOp} {t:TypeId} {c:Bool} {y:AV}:qke P op t c (.nilF) y=qda P op t (.nilF) y:=rfl
@[simp]theorem bk_func{op:BinOp} {t:TypeId} {c:Bool} {f:Fn} {a d:List AV} {y:AV}:qke P op t c (.func f a d) y=qda P op t (.func f a d) y:=rfl
@[simp]theorem bk_agg{op:BinOp} {t:TypeId} {c:Bool} {cs:List AV} {y:AV}:qke P op t c (.agg cs) y=qda P op t (.agg cs) y:=rfl
@[simp]theorem bk_tup{op:BinOp} {t:TypeId} {c:Bool} {cs:List AV} {y:AV}:qke P op t c (.tup cs) y=qda P op t (.tup cs) y:=rfl
@[simp]theorem bk_yld{op:BinOp} {t:TypeId} {c:Bool} {b:Nat} {y:AV}:qke P op t c (.yld b) y=qda P op t (.yld b) y:=rfl
@[simp]theorem bk_zptr{op:BinOp} {t:TypeId} {c:Bool} {b o:Nat} {y:AV}:qke P op t c (.zptr b o) y=qda P op t (.zptr b o) y:=rfl
@[simp]theorem bk_undef{op:BinOp} {t:TypeId} {c:Bool} {y:AV}:qke P op t c (.undef) y=qda P op t (.undef) y:=rfl
@[simp]theorem bk_nn{op:BinOp} {t:TypeId}:qke P op t true .nilI .nilI=ifA P op t true:=rfl
@[simp]theorem bk_ni{op:BinOp} {t u:TypeId} {c:Bool} {x:AV}:qke P op t c .nilI (.iface u x)=ifA P op t false:=rfl
@[simp]theorem bk_in{op:BinOp} {t u:TypeId} {c:Bool} {x:AV}:qke P op t c (.iface u x) .nilI=ifA P op t false:=rfl
@[simp]theorem ev_un{op:UnOp}:qae C call ⟨d,.unOp op t l,ty,pos,af,g⟩ s=vH s.H (b1 (unA op) (qbr s l)):=by
 unfold qae;simp only;cases qbr s l with
 |none=>rfl
 |some v=>simp only[Option.bind_some,zct];cases unA op v<;>rfl
@[simp]theorem ev_conv:qae C call ⟨d,.convert t u l,ty,pos,af,g⟩ s=b1 (qrk C.P s.H t u) (qbr s l):=by unfold qae;simp only;cases qbr s l<;>rfl
@[simp]theorem ev_mf{fn:Go.Fn} {p q:Array Operand}:qae C call ⟨d,.makeFunc fn p q,ty,pos,af,g⟩ s=mkF fn s.H (qex s p.toList) (qex s q.toList):=by unfold qae;simp only;cases qex s p.toList<;>cases qex s q.toList<;>rfl
@[simp]theorem ev_ms:qae C call ⟨d,.makeSlice t l m,ty,pos,af,g⟩ s=b2 (qh4 C.P s.H t) (qbr s l) (qbr s m):=by
 unfold qae qbt qh4;simp only;cases qbr s l with
 |none=>rfl
 |some x=>cases qbr s m with
  |none=>rfl
  |some y=>rfl
@[simp]theorem ev_slice{lo hi mx:Option Operand}:qae C call ⟨d,.slice t l lo hi mx,ty,pos,af,g⟩ s=vH s.H (slV C.P s.H t (qbr s l) (qg2 s lo) (qg2 s hi) (qg2 s mx)):=by
 unfold qae;simp only;cases qbr s l with
 |none=>rfl
 |some v=>cases qg2 s lo with
  |none=>rfl
  |some p=>cases qg2 s hi with
   |none=>rfl
   |some q=>cases qg2 s mx with
    |none=>rfl
    |some r=>simp only[Option.bind_some,slV_some];cases qcs C.P s.H t v p q r<;>rfl
@[simp]theorem ev_range:qae C call ⟨d,.range t l,ty,pos,af,g⟩ s=rgV s.H (C.P.underlying t) (qbr s l):=by
 unfold qae;simp only;cases qbr s l with
 |none=>cases C.P.underlying t with
  |none=>rfl
  |some d=>cases d<;>rfl
 |some x=>cases C.P.underlying t with
  |none=>rfl
  |some d=>cases d<;>cases x<;>rfl
def enV(H:Heap):Option AV->Option AV
 |some (.ptr b 0)=>qxa H b
 |_=>none
@[simp]theorem ev_entry:qae C call ⟨d,.entry l,ty,pos,af,g⟩ s=vH s.H (enV s.H (qbr s l)):=by
 unfold qae;simp only;cases qbr s l with
 |none=>rfl
 |some x=>cases x<;>first|rfl|(rename_i b o;cases o<;>first|rfl|(simp only[Option.bind_some,enV];cases qxa s.H b<;>rfl))
@[simp]theorem ev_next{isS:Bool}:qae C call ⟨d,.next l isS,ty,pos,af,g⟩ s=nxV s.H isS (qbr s l):=by
 unfold qae;simp only;cases qbr s l with
 |none=>rfl
 |some x=>cases x<;>cases isS<;>first|rfl|(rename_i b o;cases o<;>rfl)
@[simp]theorem ev_fa:qae C call ⟨d,.fieldAddr t l i,ty,pos,af,g⟩ s=vH s.H (faV C.P t i (qbr s l)):=by
 unfold qae;simp only;cases qbr s l with
 |none=>rfl
 |some v=>simp only[Option.bind_some,faV_some];cases qaw C.P t v i<;>rfl
@[simp]theorem ev_fd:qae C call ⟨d,.field t l i,ty,pos,af,g⟩ s=vH s.H (fdV C.P t i (qbr s l)):=by
 unfold qae;simp only;cases qbr s l with
 |none=>rfl
 |some v=>simp only[Option.bind_some,fdV_some];cases qc9 C.P t v i<;>rfl
@[simp]theorem ev_ia:qae C call ⟨d,.indexAddr t l m,ty,pos,af,g⟩ s=vH s.H (b2 (qan C.P t) (qbr s l) (qbr s m)):=by
 unfold qae;simp only;cases qbr s l with
 |none=>rfl
 |some v=>cases qbr s m with
  |none=>rfl
  |some v2=>simp only[Option.bind_some,qrn];cases qan C.P t v v2<;>rfl
@[simp]theorem ev_ix:qae C call ⟨d,.index t l m,ty,pos,af,g⟩ s=vH s.H (b2 (ql1 C.P t) (qbr s l) (qbr s m)):=by
 unfold qae;simp only;cases qbr s l with
 |none=>rfl
 |some v=>cases qbr s m with
  |none=>rfl
  |some v2=>simp only[Option.bind_some,qrn];cases ql1 C.P t v v2<;>rfl
@[simp]theorem ev_lu{ok:Bool}:qae C call ⟨d,.lookup t l m ok,ty,pos,af,g⟩ s=vH s.H (luV C.P s.H t ok (qbr s l) (qbr s m)):=by
 unfold qae;simp only;cases qbr s l with
 |none=>rfl
 |some v=>cases qbr s m with
  |none=>rfl
  |some v2=>simp only[Option.bind_some,luV_some];cases qia C.P s.H t v v2 ok<;>rfl
@[simp]theorem ev_mu:qae C call ⟨d,.mapUpdate t l m k,ty,pos,af,g⟩ s=stV (b3 (qi9 C.P s.H t) (qbr s l) (qbr s m) (qbr s k)):=by
 unfold qae;simp only;cases qbr s l with
 |none=>rfl
 |some v=>cases qbr s m with
  |none=>rfl
  |some v2=>cases qbr s k with
   |none=>rfl
   |some v3=>simp only[Option.bind_some,zcs];cases qi9 C.P s.H t v v2 v3<;>rfl
@[simp]theorem ev_in:qae C call ⟨d,.insert t l m k,ty,pos,af,g⟩ s=stV (b3 (qi9 C.P s.H t) (qbr s l) (qbr s m) (qbr s k)):=by
 unfold qae;simp only;cases qbr s l with
 |none=>rfl
 |some v=>cases qbr s m with
  |none=>rfl
  |some v2=>cases qbr s k with
   |none=>rfl
   |some v3=>simp only[Option.bind_some,zcs];cases qi9 C.P s.H t v v2 v3<;>rfl
@[simp]theorem ev_ex:qae C call ⟨d,.extract l i,ty,pos,af,g⟩ s=vH s.H (exV i (qbr s l)):=by
 unfold qae;simp only;cases qbr s l with
 |none=>rfl
 | some v => cases v <;> try rfl
             rename_i vs;simp only[Option.bind_some,exV_some];cases qca vs i<;>rfl
@[simp]theorem ev_blt{bu:Builtin} {args:Array Operand} {ts:Array TypeId}:qae C call ⟨d,.call ⟨.builtin bu,args,ts⟩,ty,pos,af,g⟩ s=bltV C.P s.H bu ts (qex s args.toList):=by unfold qae;simp only;cases qex s args.toList<;>rfl
@[simp]theorem ev_cl{args:Array Operand} {ts:Array TypeId}:qae C call ⟨d,.call ⟨.value fo,args,ts⟩,ty,pos,af,g⟩ s=clV call s.H (qbr s fo) (qex s args.toList):=by
 unfold qae;simp only;cases qex s args.toList with
 |none=>cases qbr s fo with
  |none=>rfl
  | some v => cases v <;> try rfl
              rename_i fn _ _;cases fn<;>rfl
 |some q=>cases qbr s fo with
  |none=>rfl
  | some v => cases v <;> try rfl
              rename_i fn _ _;cases fn<;>rfl
@[simp]theorem blt_len:qc0 P H .len #[t] [x]=lnV H (qeq P H t x):=by simp only[qc0,List.getElem?_toArray,List.getElem?_cons_zero,Option.bind_some];cases qeq P H t x<;>rfl
@[simp]theorem blt_append:qc0 P H .append #[t,u] [x,y]=apV P H x y (P.underlying t) (P.underlying u):=by
 simp only[qc0,List.getElem?_toArray,List.getElem?_cons_zero,List.getElem?_cons_succ,Option.bind_some];cases P.underlying t with
 |none=>rfl
 |some dd=>
  cases dd<;>try (cases P.underlying u<;>rfl)
  simp only[Option.bind_some];cases P.underlying u with
  |none=>rfl
  |some ud=>cases ud<;>rfl
@[simp]theorem blt_copy:qc0 P H .copy #[t,u] [x,y]=cpV P H x y (P.underlying t):=by
 simp only[qc0,List.getElem?_toArray,List.getElem?_cons_zero,Option.bind_some];cases P.underlying t with
 |none=>rfl
 |some dd=>cases dd<;>rfl
@[simp]theorem blt_clear:qc0 P H .clear #[t] [x]=clrV (qq0 P H t x):=by simp only[qc0,List.getElem?_toArray,List.getElem?_cons_zero,Option.bind_some];cases qq0 P H t x<;>rfl
@[simp]theorem blt_delete:qc0 P H .delete #[t,u] [x,y]=clrV (qm0 P H t x y):=by simp only[qc0,List.getElem?_toArray,List.getElem?_cons_zero,Option.bind_some];cases qm0 P H t x y<;>rfl
@[simp]theorem blt_max{ts:Array TypeId} {r:List AV}:qc0 P H .max ts (x::r)=vH H (qnx false x r):=by show (qnx false x r).bind _=_;cases qnx false x r<;>rfl
@[simp]theorem blt_min{ts:Array TypeId} {r:List AV}:qc0 P H .min ts (x::r)=vH H (qnx true x r):=by show (qnx true x r).bind _=_;cases qnx true x r<;>rfl
end
mutual
def qa2:AV->Bool
 |.ptr _ _=>false
 |.slc _ _ _ _=>false
 |.map _=>false
 |.yld _=>false
 |.zptr _ _=>false
 |.func _ a c=>qa3 a && qa3 c
 |.iface _ v=>qa2 v
 |.agg cs=>qa3 cs
 |.tup cs=>qa3 cs
 |_=>true
def qa3:List AV->Bool
 |[]=>true
 |a::r=>qa2 a && qa3 r
end
mutual
def qf7:AV->Bool
 |.bool _ | .int _ _ | .float _ _ | .cplx _ _ _ | .str _ | .nilP | .nilS | .zslc | .nilM | .nilF | .nilI=>true
 |.fslc _ es=>match es with
  |[]=>true
  |_::_=>false
 |.agg cs=>qi2 cs
 |.tup cs=>qi2 cs
 |_=>false
def qi2:List AV->Bool
 |[]=>true
 |a::r=>qf7 a && qi2 r
end
theorem qec:∀{l:List AV},qa3 l=true->∀i (h:i < l.length),qa2 l[i]=true
 |[],_,i,hi=>absurd hi (Nat.not_lt_zero i)
 |a::r,h,i,hi=>by
  simp only[qa3,Bool.and_eq_true]at h;cases i with
  |zero=>exact h.1
  |succ i=>exact qec h.2 i (by simpa using hi)
theorem qhg:∀{l:List AV},qi2 l=true->∀i (h:i < l.length),qf7 l[i]=true
 |[],_,i,hi=>absurd hi (Nat.not_lt_zero i)
 |a::r,h,i,hi=>by
  simp only[qi2,Bool.and_eq_true]at h;cases i with
  |zero=>exact h.1
  |succ i=>exact qhg h.2 i (by simpa using hi)
@[simp]theorem qdn{a b:List AV}:qa3 (a++b)=(qa3 a && qa3 b):=by
 induction a with
 |nil=>simp[qa3]
 |cons x r ih=>simp[qa3,ih,Bool.and_assoc]
theorem qwc{l:List AV} (h:∀v,v∈l->qa2 v=true):qa3 l=true:=by
 induction l with
 |nil=>rfl
 |cons x r ih=>simp only[qa3,Bool.and_eq_true];exact⟨h x (by simp),ih fun v hv=>h v (by simp[hv])⟩
theorem VR.pure{ρ:Place} {v:AV} {x:Value} (r:VR ρ v x):qa2 v=true->VR ρ.bare v x:=by
 induction r with
 |undef x=>exact fun _=>.undef x
 |bool b=>exact fun _=>.bool b
 |int k n=>exact fun _=>.int k n
 |float k n=>exact fun _=>.float k n
 |cplx k a b=>exact fun _=>.cplx k a b
 |str s=>exact fun _=>.str s
 |nilP=>exact fun _=>.nilP
 |ptr b o l e=>exact fun h=>by simp[qa2]at h
 |fptr cs o cb off vs hB hc hv ih=>exact fun _=>.fptr cs o cb off vs hB hc hv
 |nilS=>exact fun _=>.nilS
 |eslc a c=>exact fun _=>.eslc a c
 |zslcN=>exact fun _=>.zslcN
 |zslcE a=>exact fun _=>.zslcE a
 |slcE b o len c l e hc=>exact fun h=>by simp[qa2]at h
 |slcR b o len sz c l e hc hf=>exact fun h=>by simp[qa2]at h
 |fslc sz es cb off cap vs hB hcap hz hc hv ih=>exact fun _=>.fslc sz es cb off cap vs hB hcap hz hc hv
 |xslc sz es cb off vs hB hz hc hv ih=>exact fun _=>.xslc sz es cb off vs hB hz hc hv
 |fnil sz=>exact fun _=>.fnil sz
 |fnone sz a c=>exact fun _=>.fnone sz a c
 |nilM=>exact fun _=>.nilM
 |map b l e=>exact fun h=>by simp[qa2]at h
 |nilF=>exact fun _=>.nilF
 |func fn a c a' c' ha hc hav hcv iha ihc=>intro h;simp only[qa2,Bool.and_eq_true]at h;exact .func fn a c a' c' ha hc (fun i h1 h2=>iha i h1 h2 (qec h.1 i h1)) (fun i h1 h2=>ihc i h1 h2 (qec h.2 i h1))
 |nilI=>exact fun _=>.nilI
 |iface t v x _ ih=>exact fun h=>.iface t v x (ih (by simpa[qa2]using h))
 |agg cs vs hl hv ih=>exact fun h=>.agg cs vs hl fun i h1 h2=>ih i h1 h2 (qec (by simpa[qa2]using h) i h1)
 |tup cs vs hl hv ih=>exact fun h=>.tup cs vs hl fun i h1 h2=>ih i h1 h2 (qec (by simpa[qa2]using h) i h1)
 |yld b l e=>exact fun h=>by simp[qa2]at h
 |zptrN b o=>exact fun h=>by simp[qa2]at h
 |zptrP b o l e=>exact fun h=>by simp[qa2]at h
 |val v e=>exact fun _=>.val v e
theorem VR.scalar{ρ ρ':Place} {v:AV} {x:Value} (r:VR ρ v x):qf7 v=true->VR ρ' v x:=by
 induction r with
 |bool b=>exact fun _=>.bool b
 |int k n=>exact fun _=>.int k n
 |float k n=>exact fun _=>.float k n
 |cplx k a b=>exact fun _=>.cplx k a b
 |str s=>exact fun _=>.str s
 |nilP=>exact fun _=>.nilP
 |nilS=>exact fun _=>.nilS
 |zslcN=>exact fun _=>.zslcN
 |zslcE a=>exact fun _=>.zslcE a
 |nilM=>exact fun _=>.nilM
 |nilF=>exact fun _=>.nilF
 |nilI=>exact fun _=>.nilI
 |fnil sz=>exact fun _=>.fnil sz
 |fnone sz a c=>exact fun _=>.fnone sz a c
 |fslc sz es cb off cap vs hB hcap hz hc hv ih=>
  cases es with
  |nil=>exact fun _=>.fnone sz _ cap
  |cons _ _=>exact fun h=>by simp[qf7]at h
 |agg cs vs hl hv ih=>exact fun h=>.agg cs vs hl fun i h1 h2=>ih i h1 h2 (qhg (by simpa[qf7]using h) i h1)
 |tup cs vs hl hv ih=>exact fun h=>.tup cs vs hl fun i h1 h2=>ih i h1 h2 (qhg (by simpa[qf7]using h) i h1)
 |_=>exact fun h=>by simp[qf7]at h
theorem VRs.pure{ρ:Place} {vs:List AV} {xs:List Value} (r:VRs ρ vs xs) (h:qa3 vs=true):VRs ρ.bare vs xs:=⟨r.1,fun i h1 h2=>(r.2 i h1 h2).pure (qec h i h1)⟩
def qav(b:Nat):List (Nat × Nat)->Option Nat
 |[]=>none
 |x::r=>if x.1=b then some x.2 else qav b r
def qf3(b:Nat):List (Nat × Nat)->Option Nat
 |[]=>none
 |x::r=>if x.2=b then some x.1 else qf3 b r
def qcn(b:Nat):List (Nat × List AV)->Option (List AV)
 |[]=>none
 |x::r=>if x.1=b then some x.2 else qcn b r
mutual
def qap(σ:List (Nat × Nat)) (Φ:List (Nat × List AV)):AV->AV->Prop
 |.ptr b o,v'=>match v' with
  |.undef=>True
  |.ptr b' o'=>qav b σ=some b'/\o'=o
  |.zptr b' o'=>qav b σ=some b'/\o'=o
  |.fptr cs o'=>qcn b Φ=some cs/\o'=o
  |_=>False
 |.slc b o len cap,v'=>match v' with
  |.undef=>True
  |.slc b' o' len' cap'=>qav b σ=some b'/\o'=o/\len'=len/\cap'=cap
  |.fslc sz es=>(∃cs,qcn b Φ=some cs/\qf1 o (len * sz) cs=some (qa8 es)/\es.length=len/\qfl sz es=true)\/(len=0/\es=[])
  |.zslc=>len=0/\cap=.ex 0
  |_=>False
 |.map b,v'=>match v' with
  |.undef=>True
  |.map b'=>qav b σ=some b'
  |_=>False
 |.nilP,v'=>match v' with
  |.undef=>True
  |.nilP=>True
  |.zptr _ _=>True
  |_=>False
 |.zptr b o,v'=>match v' with
  |.undef=>True
  |.zptr b' o'=>qav b σ=some b'/\o'=o
  |_=>False
 |.yld b,v'=>match v' with
  |.undef=>True
  |.yld b'=>qav b σ=some b'
  |_=>False
 |.nilS,v'=>match v' with
  |.undef=>True
  |.nilS=>True
  |.zslc=>True
  |.fslc _ es=>es=[]
  |_=>False
 |.zslc,v'=>match v' with
  |.undef=>True
  |.zslc=>True
  |.fslc _ es=>es=[]
  |_=>False
 |.eslc,v'=>match v' with
  |.undef=>True
  |.eslc=>True
  |.fslc _ es=>es=[]
  |_=>False
 |.func fn a c,v'=>match v' with
  |.undef=>True
  |.func fn' a' c'=>(fn'=fn/\qax σ Φ a a'/\qax σ Φ c c')\/(fn'=fn/\a'=a/\c'=c/\qa3 a=true/\qa3 c=true)
  |_=>False
 |.agg cs,v'=>match v' with
  |.undef=>True
  |.agg cs'=>qax σ Φ cs cs'\/(cs'=cs/\qa3 cs=true)
  |_=>False
 |.tup cs,v'=>match v' with
  |.undef=>True
  |.tup cs'=>qax σ Φ cs cs'\/(cs'=cs/\qa3 cs=true)
  |_=>False
 |v,v'=>v'=.undef\/(v'=v/\qa2 v=true)
def qax(σ:List (Nat × Nat)) (Φ:List (Nat × List AV)):List AV->List AV->Prop
 |[],l'=>l'=[]
 |a::r,l'=>match l' with
  |[]=>False
  |a'::r'=>qap σ Φ a a'/\qax σ Φ r r'
end
theorem qco{σ:List (Nat × Nat)} {Φ:List (Nat × List AV)}:∀{l l':List AV},qax σ Φ l l'->l'.length=l.length/\∀i (h:i < l.length) (h':i < l'.length),qap σ Φ l[i] l'[i]
 |[],l',h=>by simp only[qax]at h;subst h;exact⟨rfl,fun i h=>absurd h (Nat.not_lt_zero i)⟩
 |a::r,[],h=>by simp[qax]at h
 |a::r,a'::r',h=>by
  simp only[qax]at h;obtain⟨h1,h2⟩:=qco h.2;refine⟨by simp[h1],fun i a b=>?_⟩;cases i with
  |zero=>exact h.1
  |succ i=>exact h2 i (by simpa using a) (by simpa using b)
theorem qbd{σ:List (Nat × Nat)} {Φ:List (Nat × List AV)} {v:AV} (h:qa2 v=true):qap σ Φ v v:=by cases v<;>simp_all [qap,qa2]
theorem qao{σ:List (Nat × Nat)} {Φ:List (Nat × List AV)}:∀{l:List AV},qa3 l=true->qax σ Φ l l
 |[],_=>by simp[qax]
 |a::r,h=>by simp only[qa3,Bool.and_eq_true]at h;simp only[qax];exact⟨qbd h.1,qao h.2⟩
theorem qdc{l:List AV} {i:Nat} (h:i < l.length):SizeOf.sizeOf l[i] < SizeOf.sizeOf l:=List.sizeOf_lt_of_mem (List.getElem_mem h)
theorem qs5{v:AV} {j:Nat} (h:j < v.cells.length):SizeOf.sizeOf v.cells[j]<=SizeOf.sizeOf v:=by
 cases v
 case agg cs=>
  have h':j < cs.length:=h;have:=qdc h';simp[AV.cells];omega
 all_goals (have:j=0:=by simp[AV.cells]at h;omega);subst this;exact Nat.le_refl _
theorem zbs{sz:Nat} {es:List AV} (hz:∀i (h:i < es.length),es[i].cells.length=sz) (i j:Nat) (hi:i < es.length) (hj:j < es[i].cells.length) :
  ∃h:i * sz+j < (qa8 es).length,(qa8 es)[i * sz+j]=es[i].cells[j]:=by
 induction es generalizing i with
 |nil=>exact absurd hi (Nat.not_lt_zero i)
 |cons e r ih=>
  have hz0:e.cells.length=sz:=hz 0 (by simp);cases i with
  |zero=>have hj':j < e.cells.length:=hj;refine⟨by simp only[qa8,List.length_append];omega,?_⟩;simp only[qa8,Nat.zero_mul,Nat.zero_add,List.getElem_cons_zero];exact List.getElem_append_left hj'
  |succ i=>obtain⟨h1,h2⟩:=ih (fun k hk=>hz (k+1) (by simpa using hk)) i (by simpa using hi) hj;have e1:(i+1) * sz+j=e.cells.length+(i * sz+j):=(by rw[Nat.add_mul,hz0];omega);refine⟨by simp only[qa8,List.length_append];omega,?_⟩;simp only[qa8,List.getElem_cons_succ,e1];rw[List.getElem_append_right (by omega)];simpa using h2
section
variable {σ:List (Nat × Nat)} {Φ:List (Nat × List AV)} {ρ ρ':Place} {H:Heap} {w:World}
structure Fits (σ:List (Nat × Nat)) (Φ:List (Nat × List AV)) (ρ ρ':Place) (H:Heap) (w:World):Prop where
 le:ρ.bare.le ρ'
 now:∀k,ρ'.B k->w.heap[k]? = ρ'.W.heap[k]?
 ren:∀b b',qav b σ=some b'->∀l,ρ b=some l->ρ' b'=some l
 frz:∀b cs',qcn b Φ=some cs'->∃cs l,H.get b=some (.cells cs)/\ρ b=some l/\ρ'.B l.cb/\qax σ Φ cs cs'/\qa3 cs'=true
theorem Fits.slc(f:Fits σ Φ ρ ρ' H w) (sm:Sim ρ H w) (n:Nat) (ih:∀{v v':AV} {x:Value},SizeOf.sizeOf v'<=n->VR ρ v x->qap σ Φ v v'->VR ρ' v' x) {b o len c sz:Nat} {es:List AV} {l:Loc} (hn:SizeOf.sizeOf (AV.fslc sz es)<=n+1) (hl:ρ b=some l) (hc:len<=c)
  (hf:∃cs,qcn b Φ=some cs/\qf1 o (len * sz) cs=some (qa8 es)/\es.length=len/\qfl sz es=true):VR ρ' (.fslc sz es) (.slice (some ⟨l.cb,l.off+o,none⟩) len c):=by
 obtain⟨cs',h1,h2,h3,h4⟩:=hf;obtain⟨cs,l',g1,g2,g3,g4,g5⟩:=f.frz _ _ h1;rw[hl]at g2;cases g2;obtain⟨l',hl',_,hlt,hr⟩:=sm.block g1;rw[hl]at hl';cases hl';obtain⟨k1,k2⟩:=qco g4;have hz:=qiv h4;obtain⟨e1,e2⟩:=qkl h2;subst h3;have key:∀i (hi:i < es.length) j (hj:j < es[i].cells.length),∃(q:o+(i * sz+j) < cs'.length),cs'[o+(i * sz+j)]=es[i].cells[j]:=by
  intro i hi j hj;obtain⟨p1,p2⟩:=zbs hz i j hi hj;have e3:(qa8 es)[i * sz+j]? = some es[i].cells[j]:=by rw[List.getElem?_eq_getElem p1,p2]
  rw[e2,List.getElem?_take]at e3;split at e3
  ·rw[List.getElem?_drop]at e3;obtain⟨q1,q2⟩:=List.getElem?_eq_some_iff.1 e3;exact⟨q1,q2⟩
  ·cases e3
 refine .fslc sz es l.cb (l.off+o) c (fun i j=>(ρ'.W.cell? ⟨l.cb,l.off+o+i * sz+j,none⟩).getD undef) g3 hc hz (fun i hi j hj=>?_) fun i hi j hj=>?_
 ·obtain⟨q1,q2⟩:=key i hi j (by rw[hz i hi];exact hj);obtain⟨y,hy,hyv⟩:=hr.2.2 (o+(i * sz+j)) (by omega);have hw:ρ'.W.cell? ⟨l.cb,l.off+o+i * sz+j,none⟩=some y:=by rw[<- hy];simp only[World.cell?,f.now _ g3];congr 1;simp only[<- Nat.add_assoc]
  rw[hw];rfl
 ·obtain⟨q1,q2⟩:=key i hi j hj;obtain⟨y,hy,hyv⟩:=hr.2.2 (o+(i * sz+j)) (by omega);have hw:ρ'.W.cell? ⟨l.cb,l.off+o+i * sz+j,none⟩=some y:=by rw[<- hy];simp only[World.cell?,f.now _ g3];congr 1;simp only[<- Nat.add_assoc]
  rw[hw];have hs:=qs5 hj;have hs2:=qdc hi;have:=ih (v':=es[i].cells[j]) (by simp at hn;omega) hyv (by rw[<- q2];exact k2 _ (by omega) q1);refine this.pure ?_;rw[<- q2];exact qec g5 _ q1
theorem Fits.run(f:Fits σ Φ ρ ρ' H w) (sm:Sim ρ H w):∀(n:Nat) {v v':AV} {x:Value},SizeOf.sizeOf v'<=n->VR ρ v x->qap σ Φ v v'->VR ρ' v' x
 |0,v,v',x,hn,_,_=>by cases v'<;>simp at hn
 |n+1,v,v',x,hn,hv,hf=>by
  have pure_:∀{u:AV},VR ρ u x->qa2 u=true->VR ρ' u x:=fun h1 h2=>(h1.pure h2).mono f.le;by_cases hu:v'=.undef
  ·subst hu;exact .undef x
  cases hv with
  |ptr b o l hl=>
   cases v'<;>simp only[qap]at hf<;>try exact hf.elim
   ·exact absurd rfl hu
   ·obtain⟨h1,rfl⟩:=hf;exact .ptr _ _ l (f.ren _ _ h1 l hl)
   rotate_left
   ·obtain⟨h1,rfl⟩:=hf;exact .zptrP _ _ l (f.ren _ _ h1 l hl)
   ·rename_i cs' o';obtain⟨h1,rfl⟩:=hf;obtain⟨cs,l',g1,g2,g3,g4,g5⟩:=f.frz _ _ h1;rw[hl]at g2;cases g2;obtain⟨l',hl',_,hlt,hr⟩:=sm.block g1;rw[hl]at hl';cases hl';obtain⟨k1,k2⟩:=qco g4;refine .fptr cs' o' l.cb l.off (fun i=>(ρ'.W.cell? ⟨l.cb,l.off+i,none⟩).getD undef) g3 (fun i hi=>?_) fun i hi=>?_;all_goals
     obtain⟨y,hy,hyv⟩:=hr.2.2 i (by omega);have hw:ρ'.W.cell? ⟨l.cb,l.off+i,none⟩=some y:=(by rw[<- hy];simp only[World.cell?,f.now _ g3]);rw[hw]
    ·rfl
    ·have hs:=qdc hi;have:=Fits.run f sm n (v':=cs'[i]) (by simp at hn;omega) hyv (k2 i (by omega) hi);exact this.pure (qec g5 i hi)
  |slcE b o len c l hl hc=>
   cases v'<;>simp only[qap]at hf<;>try exact hf.elim
   ·exact absurd rfl hu
   ·obtain⟨rfl,h2⟩:=hf;simp only[Cap.ex.injEq]at h2;subst h2;exact .zslcE _
   ·obtain⟨h1,rfl,rfl,rfl⟩:=hf;exact .slcE _ _ _ c l (f.ren _ _ h1 l hl) hc
   ·rcases hf with hf|⟨rfl,rfl⟩
    ·exact Fits.slc f sm n (Fits.run f sm n) hn hl hc hf
    ·exact .fnone _ _ _
  |slcR b o len sz c l hl hc hfin=>
   cases v'<;>simp only[qap]at hf<;>try exact hf.elim
   ·exact absurd rfl hu
   ·exact absurd hf.2 (by simp)
   ·obtain⟨h1,rfl,rfl,rfl⟩:=hf;exact .slcR _ _ _ _ c l (f.ren _ _ h1 l hl) hc hfin
   ·rcases hf with hf|⟨rfl,rfl⟩
    ·exact Fits.slc f sm n (Fits.run f sm n) hn hl hc hf
    ·exact .fnone _ _ _
  |zslcN=>
   cases v'<;>simp only[qap]at hf<;>try exact hf.elim
   ·exact absurd rfl hu
   ·exact .zslcN
   ·subst hf;exact .fnil _
  |zslcE a=>
   cases v'<;>simp only[qap]at hf<;>try exact hf.elim
   ·exact absurd rfl hu
   ·exact .zslcE a
   ·subst hf;exact .fnone _ _ _
  |map b l hl=>
   cases v'<;>simp only[qap]at hf<;>try exact hf.elim
   ·exact absurd rfl hu
   ·exact .map _ l (f.ren _ _ hf l hl)
  |nilP=>
   cases v'<;>simp only[qap]at hf<;>try exact hf.elim
   ·exact absurd rfl hu
   ·exact .nilP
   ·exact .zptrN _ _
  |yld b l hl=>
   cases v'<;>simp only[qap]at hf<;>try exact hf.elim
   ·exact absurd rfl hu
   ·exact .yld _ l (f.ren _ _ hf l hl)
  |zptrN b o=>
   cases v'<;>simp only[qap]at hf<;>try exact hf.elim
   ·exact absurd rfl hu
   ·exact .zptrN _ _
  |zptrP b o l hl=>
   cases v'<;>simp only[qap]at hf<;>try exact hf.elim
   ·exact absurd rfl hu
   ·obtain⟨h1,rfl⟩:=hf;exact .zptrP _ _ l (f.ren _ _ h1 l hl)
  |nilS=>
   cases v'<;>simp only[qap]at hf<;>try exact hf.elim
   ·exact absurd rfl hu
   ·exact .nilS
   ·exact .zslcN
   ·subst hf;exact .fnil _
  |eslc a c=>
   cases v'<;>simp only[qap]at hf<;>try exact hf.elim
   ·exact absurd rfl hu
   ·exact .eslc _ _
   ·subst hf;exact .fnone _ _ _
  |func fn a c a' c' ha hc hav hcv=>
   cases v'<;>simp only[qap]at hf<;>try exact hf.elim
   ·exact absurd rfl hu
   ·rename_i fn' b d;rcases hf with⟨rfl,h1,h2⟩|⟨rfl,rfl,rfl,h1,h2⟩
    ·obtain⟨k1,k2⟩:=qco h1;obtain⟨m1,m2⟩:=qco h2;refine .func _ b d a' c' (by omega) (by omega) (fun i g g'=>?_) (fun i g g'=>?_)
     ·have:=qdc g;exact Fits.run f sm n (by simp at hn;omega) (hav i (by omega) g') (k2 i (by omega) g)
     ·have:=qdc g;exact Fits.run f sm n (by simp at hn;omega) (hcv i (by omega) g') (m2 i (by omega) g)
    ·exact pure_ (.func _ _ _ a' c' ha hc hav hcv) (by simp[qa2,h1,h2])
  |agg cs vs hl hv=>
   cases v'<;>simp only[qap]at hf<;>try exact hf.elim
   ·exact absurd rfl hu
   ·rename_i ds;rcases hf with h1|⟨rfl,h1⟩
    ·obtain⟨k1,k2⟩:=qco h1;refine .agg ds vs (by omega) fun i g g'=>?_;have:=qdc g;exact Fits.run f sm n (by simp at hn;omega) (hv i (by omega) g') (k2 i (by omega) g)
    ·exact pure_ (.agg _ vs hl hv) (by simp[qa2,h1])
  |tup cs vs hl hv=>
   cases v'<;>simp only[qap]at hf<;>try exact hf.elim
   ·exact absurd rfl hu
   ·rename_i ds;rcases hf with h1|⟨rfl,h1⟩
    ·obtain⟨k1,k2⟩:=qco h1;refine .tup ds vs (by omega) fun i g g'=>?_;have:=qdc g;exact Fits.run f sm n (by simp at hn;omega) (hv i (by omega) g') (k2 i (by omega) g)
    ·exact pure_ (.tup _ vs hl hv) (by simp[qa2,h1])
  |_=>
   simp only[qap]at hf;rcases hf with hf|⟨rfl,hp⟩
   ·exact absurd hf hu
   ·exact pure_ (by constructor<;>assumption) hp
end
structure Base where
 n:Nat
 FP:Nat->Prop
 ρ:Place
 w:World
 ds:List Deferred
structure Since (b:Base) (ρ:Place) (H:Heap) (w:World):Prop where
 fz:∀k,b.ρ.B k->ρ.B k/\ρ.W.heap[k]? = b.ρ.W.heap[k]?
 os:ρ.W.os=b.ρ.W.os
 tape:ρ.W.tape=b.ρ.W.tape
 output:ρ.W.output=b.ρ.W.output
 size:b.w.heap.size<=w.heap.size
 keeps:∀k,k < b.w.heap.size->¬ b.FP k->w.heap[k]? = b.w.heap[k]?
 rows:∀e,e∈H.ents->∀l,ρ e.1=some l->b.FP l.cb\/b.w.heap.size<=l.cb
 cold:∀k,ρ.B k->b.ρ.B k\/b.FP k\/b.w.heap.size<=k
 low:∀k,k < b.n->ρ k=b.ρ k
 num:b.n<=H.n
theorem Since.step{b:Base} {ρ ρ':Place} {H H':Heap} {w w':World} (h:Since b ρ H w) (t:Step ρ H w ρ' H' w'):Since b ρ' H' w' where
 fz:=fun k hk=>let ⟨h1,h2⟩:=h.fz k hk;let ⟨t1,t2⟩:=t.le.fz k h1;⟨t1,t2.trans h2⟩
 os:=t.le.os.trans h.os
 tape:=t.le.tape.trans h.tape
 output:=t.le.output.trans h.output
 size:=Nat.le_trans h.size t.size
 keeps:=fun k hk hf=>by
  rw[t.keeps k (Nat.lt_of_lt_of_le hk h.size) (fun e he l hl hlk=>?_),h.keeps k hk hf];rcases h.rows e he l hl with h1|h1
  ·exact hf (hlk ▸ h1)
  ·omega
 rows:=fun e he l hl=>by
  rcases t.rows e he l hl with⟨e0,he0,l0,hl0,hcb⟩|hge
  ·rw[<- hcb];exact h.rows e0 he0 l0 hl0
  ·exact .inr (Nat.le_trans h.size hge)
 cold:=fun k hk=>by
  rcases t.cold k hk with h1|⟨e,he,l,hl,hlk⟩|hge
  ·exact h.cold k h1
  ·rw[<- hlk];exact .inr (h.rows e he l hl)
  ·exact .inr (.inr (Nat.le_trans h.size hge))
 low:=fun k hk=>(t.low k (Nat.lt_of_lt_of_le hk h.num)).trans (h.low k hk)
 num:=Nat.le_trans h.num t.num
def At(b:Base) (s:St) (a:Act) (w:World):Prop:=∃ρ,Since b ρ s.H w/\Sim ρ s.H w/\EnvR ρ s a/\Dfr b.w.heap.size ρ s.H w a.defers b.ds
theorem qsw{b b':Nat}:∀{σ:List (Nat × Nat)},qav b σ=some b'->(b,b')∈σ
 |[],h=>by simp[qav]at h
 |x::r,h=>by
  unfold qav at h;split at h
  next hx=>simp only[sj]at h;subst hx;subst h;exact List.mem_cons_self
  ·exact List.mem_cons_of_mem _ (qsw h)
theorem qo0{b b':Nat}:∀{σ:List (Nat × Nat)},qf3 b' σ=some b->(b,b')∈σ
 |[],h=>by simp[qf3]at h
 |x::r,h=>by
  unfold qf3 at h;split at h
  next hx=>simp only[sj]at h;subst hx;subst h;exact List.mem_cons_self
  ·exact List.mem_cons_of_mem _ (qo0 h)
theorem qqt{b b':Nat}:∀{σ:List (Nat × Nat)},(σ.map (·.2)).Nodup->(b,b')∈σ->qf3 b' σ=some b
 |[],_,h=>by cases h
 |x::r,hn,h=>by
  rw[List.map_cons,List.nodup_cons]at hn;unfold qf3;rcases List.mem_cons.1 h with rfl|h
  ·simp
  ·have:x.2≠b':=fun hx=>hn.1 (List.mem_map.2 ⟨_,h,hx.symm⟩);rw[if_neg this];exact qqt hn.2 h
theorem zal{b x y:Nat}:∀{σ:List (Nat × Nat)},(σ.map (·.1)).Nodup->(b,x)∈σ->(b,y)∈σ->x=y
 |[],_,h,_=>by cases h
 |z::r,hn,h,h'=>by
  rw[List.map_cons,List.nodup_cons]at hn;rcases List.mem_cons.1 h with h1|h1<;>rcases List.mem_cons.1 h' with h2|h2
  ·rw[<- h1]at h2;cases h2;rfl
  ·exact absurd (List.mem_map.2 ⟨_,h2,by rw[<- h1]⟩) hn.1
  ·exact absurd (List.mem_map.2 ⟨_,h1,by rw[<- h2]⟩) hn.1
  ·exact zal hn.2 h1 h2
theorem qo2{b:Nat} {cs:List AV}:∀{Φ:List (Nat × List AV)},qcn b Φ=some cs->(b,cs)∈Φ
 |[],h=>by simp[qcn]at h
 |x::r,h=>by
  unfold qcn at h;split at h
  next hx=>simp only[sj]at h;subst hx;subst h;exact List.mem_cons_self
  ·exact List.mem_cons_of_mem _ (qo2 h)
def qji(σ:List (Nat × Nat)) (Φ:List (Nat × List AV)):Blk->Blk->Prop
 |.cells cs,.cells cs'=>qax σ Φ cs cs'
 |.map es,.map es'=>qax σ Φ (es.map (·.1)) (es'.map (·.1))/\qax σ Φ (es.map (·.2)) (es'.map (·.2))
 |.obj t cs,.obj t' cs'=>t'=t/\qax σ Φ cs cs'
 |.buf t fz cs,.buf t' fz' cs'=>t'=t/\fz<=fz'/\fz'<=cs'.length/\qax σ Φ cs cs'
 |.iter s p,.iter s' p'=>s'=s/\p'=p
 |.rng l c,.rng l' c'=>l'=l/\c'=c
 |.loop st pend ks vs ts sz ps a b,.loop st' pend' ks' vs' ts' sz' ps' a' b'=>st'=st/\pend'=pend/\ks'=ks/\qax σ Φ vs vs'/\ts'=[]/\sz'=sz/\ps'=ps/\a'=a/\b'=b
 |_,_=>False
structure FitH (n:Nat) (σ:List (Nat × Nat)) (Φ:List (Nat × List AV)) (H H':Heap):Prop where
 nd1:(σ.map (·.1)++Φ.map (·.1)).Nodup
 nd2:(σ.map (·.2)).Nodup
 nd3:(H'.ents.map (·.1)).Nodup
 lt:∀x,x∈σ->x.2 < H'.n
 idn:∀x,x∈σ->x.2 < n->x.1=x.2
 num:n<=H'.n
 src:∀e,e∈H'.ents->∃b k,(b,e.1)∈σ/\H.get b=some k/\qji σ Φ k e.2
 frz:∀x,x∈Φ->∃cs,H.get x.1=some (.cells cs)/\qax σ Φ cs x.2/\qa3 x.2=true
theorem FitH.nothing{H:Heap}:FitH 0 [] [] H ⟨0,[[]]⟩ where
 nd1:=List.nodup_nil
 nd2:=List.nodup_nil
 nd3:=List.nodup_nil
 lt:=fun x h=>by cases h
 idn:=fun x h=>by cases h
 num:=Nat.le_refl _
 src:=fun e he=>by simp[Heap.ents]at he
 frz:=fun x h=>by cases h
section
variable {n:Nat} {σ:List (Nat × Nat)} {Φ:List (Nat × List AV)} {ρ:Place} {H H':Heap} {w:World}
def qbl(n:Nat) (σ:List (Nat × Nat)) (Φ:List (Nat × List AV)) (ρ:Place) (w:World) (hw:∀k,ρ.B k->w.heap[k]? = ρ.W.heap[k]?):Place:=
 ⟨fun b=>if b < n then ρ b else (qf3 b σ).bind ρ.at_,w,fun k=>ρ.B k\/∃b cs l,(b,cs)∈Φ/\ρ b=some l/\l.cb=k,
  fun g hg=>⟨.inl (ρ.gl g hg).1,let ⟨m,hm⟩:=(ρ.gl g hg).2;⟨m,by rw[World.cell?,hw g (ρ.gl g hg).1];exact hm⟩⟩,
  fun g hg=>⟨.inl (ρ.gi g hg).1,let ⟨v,hm,hv⟩:=(ρ.gi g hg).2;⟨v,by rw[World.cell?,hw g (ρ.gi g hg).1];exact hm,hv⟩⟩,
  fun x hx=>⟨.inl (ρ.gp x hx).1,fun i n hi=>by rw[World.cell?,hw x.1 (ρ.gp x hx).1];exact(ρ.gp x hx).2 i n hi⟩,
  fun x hx=>⟨.inl (ρ.gx x hx).1,let ⟨t,fz,h⟩:=(ρ.gx x hx).2;⟨t,fz,(hw x.1 (ρ.gx x hx).1).trans h⟩⟩⟩
theorem FitH.fits(f:FitH n σ Φ H H') (sm:Sim ρ H w):Fits σ Φ ρ (qbl n σ Φ ρ w sm.below) H w where
 le:=⟨fun _ _ h=>by simp[Place.bare]at h,fun k hk=>⟨.inl hk,sm.below k hk⟩,sm.os,sm.tape,sm.output⟩
 now:=fun _ _=>rfl
 ren:=fun b b' h l hl=>by
  have hm:=qsw h;show (if b' < n then ρ b' else (qf3 b' σ).bind ρ.at_)=some l;split
  next hlt=>have:=f.idn _ hm hlt;simp only at this;subst this;exact hl
  ·rw[qqt f.nd2 hm];exact hl
 frz:=fun b cs' h=>by obtain⟨cs,h1,h2,h3⟩:=f.frz _ (qo2 h);obtain⟨l,hl,_⟩:=sm.block h1;exact⟨cs,l,h1,hl,.inr ⟨b,cs',l,qo2 h,hl,rfl⟩,h2,h3⟩
theorem qdy{hw:∀k,ρ.B k->w.heap[k]? = ρ.W.heap[k]?} (f:FitH n σ Φ H H') {b b':Nat} (h:(b,b')∈σ):(qbl n σ Φ ρ w hw) b'=ρ b:=by
 show (if b' < n then ρ b' else (qf3 b' σ).bind ρ.at_)=ρ b;split
 next hlt=>have:=f.idn _ h hlt;simp only at this;rw[this]
 ·rw[qqt f.nd2 h];rfl
theorem qo1{t:Nat}:∀{ks:List Nat} {vs vs':List AV} {v:AV},qax σ Φ vs vs'->qfi t ks vs'=some v->∃u,qfi t ks vs=some u/\qap σ Φ u v
 |[],_,_,_,_,h=>by simp[qdk,qic]at h
 |k::ks,[],vs',v,hf,h=>by simp only[qax]at hf;subst hf;simp[qdk,qic]at h
 |k::ks,a::r,[],v,hf,h=>by simp[qax]at hf
 |k::ks,a::r,a'::r',v,hf,h=>by
  simp only[qax]at hf;rw[qdk]at h ⊢;simp only at h ⊢;split at h
  next hb=>simp only[sj]at h;subst h;exact⟨a,by simp[hb],hf.1⟩
  next hb=>obtain⟨u,h1,h2⟩:=qo1 hf.2 h;exact⟨u,by simp[hb,h1],h2⟩
theorem FitH.sim(f:FitH n σ Φ H H') (sm:Sim ρ H w) (hn:n<=H.n):Sim (qbl n σ Φ ρ w sm.below) H' w where
 base:=fun k hk=>by
  rcases hk with hk|⟨b,cs,l,h1,h2,rfl⟩
  ·exact sm.base k hk
  ·obtain⟨cs0,g1,_⟩:=f.frz _ h1;obtain⟨l',hl',_,hlt,_⟩:=sm.block g1;simp only at hl';rw[h2]at hl';cases hl';exact hlt
 below:=fun _ _=>rfl
 os:=rfl
 tape:=rfl
 output:=rfl
 dom:=fun b hb=>by
  show (if b < n then ρ b else (qf3 b σ).bind ρ.at_)=none;have:=f.num;rw[if_neg (by omega)];cases h:qf3 b σ with
  |none=>rfl
  |some c=>have:=f.lt _ (qo0 h);simp only at this;omega
 nodup:=f.nd3
 live:=fun e he=>by
  obtain⟨b,k,h1,h2,h3⟩:=f.src e he;obtain⟨l,g1,g2,g3,g4⟩:=sm.block h2;refine⟨l,by rw[qdy f h1];exact g1,?_,g3,?_⟩
  ·rintro(h|⟨b2,cs,l2,m1,m2,m3⟩)
   ·exact g2 h
   ·obtain⟨cs0,q1,_⟩:=f.frz _ m1;have:=sm.inj _ _ (Heap.get_mem h2) (Heap.get_mem q1) l l2 g1 m2 m3.symm;simp only at this;have hd:=(List.nodup_append.1 f.nd1).2.2 b (List.mem_map.2 ⟨_,h1,rfl⟩) b2 (List.mem_map.2 ⟨_,m1,rfl⟩);exact hd this
  ·have run:=fun {v v':AV} {x:Value}=>Fits.run (f.fits sm) sm (SizeOf.sizeOf v') (v:=v) (v':=v') (x:=x) (Nat.le_refl _);have cellsF:∀{cs cs':List AV},qax σ Φ cs cs'->(∀i (h:i < cs.length),∃x,w.cell? ⟨l.cb,l.off+i,none⟩=some x/\VR ρ cs[i] x)->cs'.length=cs.length /\
     ∀i (h:i < cs'.length),∃x,w.cell? ⟨l.cb,l.off+i,none⟩=some x/\VR (qbl n σ Φ ρ w sm.below) cs'[i] x:=fun {cs cs'} h3 hv=>by
    obtain⟨k1,k2⟩:=qco h3;exact⟨k1,fun i hi=>let ⟨x,hx,hxv⟩:=hv i (by omega);⟨x,hx,run hxv (k2 i (by omega) hi)⟩⟩
   generalize he2:e.2=k' at h3 ⊢;cases k<;>cases k'<;>simp only[qji]at h3
   ·obtain⟨k1,k2⟩:=cellsF h3 g4.2.2;exact⟨by rw[k1];exact g4.1,g4.2.1,k2⟩
   next es es'=>obtain⟨ents,clock,q1,q2,q3,q4⟩:=g4;obtain⟨k1,k2⟩:=qco h3.1;obtain⟨m1,m2⟩:=qco h3.2;simp only[List.length_map]at k1;refine⟨ents,clock,q1,by omega,fun i a b=>?_,q4⟩;have r1:=k2 i (by simpa using(by omega:i < es.length)) (by simpa using a);have r2:=m2 i (by simpa using(by omega:i < es.length)) (by simpa using a);simp only[List.getElem_map]at r1 r2;exact⟨run (q3 i (by omega) b).1 r1,run (q3 i (by omega) b).2 r2⟩
   ·obtain⟨rfl,h3⟩:=h3;obtain⟨k1,k2⟩:=cellsF h3 g4.1.2.2;exact⟨⟨by rw[k1];exact g4.1.1,g4.1.2.1,k2⟩,g4.2.1,by rw[k1];exact g4.2.2⟩
   ·obtain⟨rfl,h4,h5,h3⟩:=h3;obtain⟨k1,k2⟩:=cellsF h3 g4.1.2.2;obtain⟨c,lo,hi,q1,q2⟩:=g4.2.2.2;exact⟨⟨by rw[k1];exact g4.1.1,g4.1.2.1,k2⟩,g4.2.1,h5,c,lo,hi,q1,q2.imp id fun h=>Nat.le_trans h h4⟩
   ·obtain⟨rfl,rfl⟩:=h3;exact g4
   ·obtain⟨rfl,rfl⟩:=h3;obtain⟨h0,q,a1,a2,a3,a4,a5⟩:=g4;exact⟨h0,q,.inl a1,(sm.below _ a1).trans a2,a3,a4,RngR.says_mono (f.fits sm).le.bare a5⟩
   ·obtain⟨rfl,rfl,rfl,h3,rfl,rfl,rfl,rfl,rfl⟩:=h3;obtain⟨r,q1,q2,q3,q4,q5,q6,q7,q8⟩:=g4;refine⟨r,q1,q2,q3,q4,q5,q6,q7,fun t v hv=>?_⟩;split at hv
    next u hu=>simp only[sj]at hv;subst hv;obtain⟨x,p1,p2⟩:=qo1 h3 hu;exact run (q8 t x (by simp[p1])) p2
    ·simp[qgm,qma]at hv
 inj:=fun e e' he he' l l' hl hl' hc=>by obtain⟨b,k,h1,h2,_⟩:=f.src e he;obtain⟨b',k',h1',h2',_⟩:=f.src e' he';rw[qdy f h1]at hl;rw[qdy f h1']at hl';have:=sm.inj _ _ (Heap.get_mem h2) (Heap.get_mem h2') l l' hl hl' hc;simp only at this;subst this;exact zal (List.nodup_append.1 f.nd1).1 h1 h1'
theorem FitH.since{b:Base} (f:FitH b.n σ Φ H H') (sm:Sim ρ H w) (h:Since b ρ H w):Since b (qbl b.n σ Φ ρ w sm.below) H' w where
 fz:=fun k hk=>let ⟨h1,h2⟩:=h.fz k hk;⟨.inl h1,(sm.below k h1).trans h2⟩
 os:=sm.os.trans h.os
 tape:=sm.tape.trans h.tape
 output:=sm.output.trans h.output
 size:=h.size
 keeps:=h.keeps
 rows:=fun e he l hl=>by obtain⟨c,k,h1,h2,_⟩:=f.src e he;rw[qdy f h1]at hl;exact h.rows _ (Heap.get_mem h2) l hl
 cold:=fun k hk=>by
  rcases hk with hk|⟨c,cs,l,h1,h2,rfl⟩
  ·exact h.cold k hk
  ·obtain⟨cs0,g1,_⟩:=f.frz _ h1;exact .inr (h.rows _ (Heap.get_mem g1) l h2)
 low:=fun k hk=>by show (if k < b.n then ρ k else _)=_;rw[if_pos hk];exact h.low k hk
 num:=f.num
end
def Fit(n:Nat) (σ:List (Nat × Nat)) (Φ:List (Nat × List AV)) (s s':St):Prop:=s'.ks=s.ks/\s'.sz=s.sz/\s'.ts=[]/\qax σ Φ s.vs s'.vs/\FitH n σ Φ s.H s'.H
theorem FitH.mark{n n0 r:Nat} {σ:List (Nat × Nat)} {Φ:List (Nat × List AV)} {ρ:Place} {H H':Heap} {w:World} (f:FitH n σ Φ H H') (sm:Sim ρ H w) (m:Mk n0 ρ H w r):Mk n0 (qbl n σ Φ ρ w sm.below) H' w r where
 ge:=m.ge
 obj:=m.obj
 cold:=by
  rintro(h|⟨b,cs,l,h1,h2,rfl⟩)
  ·exact m.cold h
  ·obtain⟨cs0,g1,_⟩:=f.frz _ h1;exact m.apart _ (Heap.get_mem g1) l h2 rfl
 apart:=fun e he l hl=>by obtain⟨b,k,h1,h2,_⟩:=f.src e he;rw[qdy f h1]at hl;exact m.apart _ (Heap.get_mem h2) l hl
theorem At.fit{b:Base} {s s':St} {a:Act} {w:World} {σ:List (Nat × Nat)} {Φ:List (Nat × List AV)} (h:At b s a w) (f:Fit b.n σ Φ s s'):At b s' a w:=by
 obtain⟨ρ,h1,h2,h3,h4⟩:=h;obtain⟨f1,f2,f3,f4,f5⟩:=f;refine⟨_,f5.since h2 h1,f5.sim h2 h1.num,⟨by rw[f2];exact h3.size,fun t v hv=>?_⟩,let ⟨rs,q1,q2,q3⟩:=h4;⟨rs,q1,q2,fun r hr=>f5.mark h2 (q3 r hr)⟩⟩;simp only[St.get,f3,f1,qgm]at hv;split at hv
 next u hu=>simp only[sj]at hv;subst hv;obtain⟨x,g1,g2⟩:=qo1 f4 hu;exact Fits.run (f5.fits h2) h2 _ (Nat.le_refl _) (h3.val t x (by simp[St.get,g1])) g2
 ·cases hv
def WpSr(C:Ctx) (n:Nat) (r:Option Nat) (c:Code) (s:St) (Q:Out->St->Prop):Prop:=∀b a w,b.n=n->At b s a w->∀K:Exit->Act->World->Prop,
 (∀x s' a' w',Q x s'->At b s' a' w'->K x.exit_ a' w')->Goes C r c K a w
section
abbrev WpS(C:Ctx) (n:Nat) (c:Code) (s:St) (Q:Out->St->Prop):Prop:=WpSr C n none c s Q
variable {C:Ctx} {n:Nat} {r:Option Nat} {s:St} {Q:Out->St->Prop}
theorem At.fresh{b:Base} {a:Act} {w:World} (h:At b s a w):At b { s with ts:=[] } a w:=let ⟨ρ,h1,h2,h3,h4⟩:=h;⟨ρ,h1,h2,h3.fresh,h4⟩
theorem qa6(h:Q .normal s):WpSr C n r .skip s Q:=fun _ a w _ ha _ hK=>wpIn_skip (hK .normal s a w h ha)
theorem qdq{l:Nat} (h:Q .normal s):WpSr C n r (.label l) s Q:=fun _ a w _ ha _ hK=>wpIn_label (hK .normal s a w h ha)
theorem qas{id:Nat} (h:Q (.exit id) s):WpSr C n r (.exit id) s Q:=fun _ a w _ ha _ hK=>wpIn_exit (hK (.exit id) s a w h ha)
theorem wps_goto{l:Nat} (h:Q (.goto l) s):WpSr C n r (.goto l) s Q:=fun _ a w _ ha _ hK=>wpIn_goto (hK (.goto l) s a w h ha)
theorem qa7(h:Q .ret s):WpSr C n r .ret s Q:=fun _ a w _ ha _ hK=>wpIn_ret (hK .ret s a w h ha)
theorem qam{call:qc5} {id:Nat} {ops:Array Oper} (hC:CallOK C call) (h:∃s',qej C call ops ops.toList { s with ts:=[] }=some s'/\Q .normal s'):WpSr C n r (.region id ops false) s Q:=by
 intro b a w hb ha K hK;obtain⟨s',h1,h2⟩:=h;obtain⟨ρ,g1,g2,g3,g4⟩:=ha;apply wpIn_region;have:=zaq hC (ops:=ops) (r:=r) (Q:=K) (l:=ops.toList) (i:=0) (s:={ s with ts:=[] }) (a:=a) (ρ:=ρ) (w:=w) (fun j=>by simp) h1 g2 g3.fresh
  fun a' w' ρ' k1 k2 k3 k4=>hK .normal s' a' w' h2 ⟨ρ',g1.step k2,k1,k3,k4 ▸ g4.step k2⟩
 rw[List.range_eq_range'];simpa using this
theorem wps_draw{call:qc5} {id:Nat} {ops:Array Oper} (hm:C.P.follows .mixedOrders=true) (hC:CallOK C call) (h:∃s',qj9 C call ops { s with ts:=[] }=some s'/\Q .normal s'):WpSr C n r (.region id ops true) s Q:=by intro b a w hb ha K hK;obtain⟨s',h1,h2⟩:=h;obtain⟨ρ,g1,g2,g3,g4⟩:=ha;have g2':Sim ρ ({ s with ts:=[] }:St).H w:=g2;exact zc9 hC hm h1 g2' g3.fresh fun a' w' ρ' k1 k2 k3 k4=>hK .normal s' a' w' h2 ⟨ρ',g1.step k2,k1,k3,k4 ▸ g4.step k2⟩
theorem qdh{call:qc5} {id:Nat} {ops:Array Oper} (hm:C.P.follows .mixedOrders=true) (hC:CallOK C call) (hd:qpz ops=true)
  (h:∀B:Array Nat,B=Region.before ops->∃d,qly C call ops B s.H.n 0 ops.toList ⟨qc7 (qar ops.toList { s with ts:=[] }) ops.size,[],[],[]⟩=some d /\
  qcp C call B (qc7 (qar ops.toList { s with ts:=[] }) ops.size).H d.hs d.rs=true/\Q .normal { d.s with H:=d.s.H.lay (allPend d.ps) }):WpSr C n r (.region id ops true) s Q:=by
 obtain⟨d,h1,h2,h3⟩:=h _ rfl;refine wps_draw hm hC ⟨{ d.s with H:=d.s.H.lay (allPend d.ps) },?_,h3⟩;unfold qj9;simp only[hd,h1,Option.bind_some,h2,St.wH_eq]
theorem qaa{c d:Code} (h:WpSr C n r c s (qab (fun s=>WpSr C n r d s Q) Q)):WpSr C n r (.seq c d) s Q:=by
 intro b a w hb ha K hK;refine wpIn_seq (h b a w hb ha _ fun x s' a' w' hq ha'=>?_).wp;cases x with
 |normal=>exact(hq b a' w' hb ha' K fun x s2 a2 w2 q1 q2=>hK x s2 a2 w2 q1 q2).wp
 |exit k=>exact hK _ s' a' w' hq ha'
 |goto k=>exact hK _ s' a' w' hq ha'
 |ret=>exact hK _ s' a' w' hq ha'
theorem qbf{c:Operand} {x y:Code} {t:Bool} (hc:qbr s c=some (.bool t)) (h1:t=true->WpSr C n r x s Q) (h2:t=false->WpSr C n r y s Q):WpSr C n r (.cond c x y) s Q:=by
 intro b a w hb ha K hK;obtain⟨ρ,g1,g2,g3,g4⟩:=ha;have hvr:=qb5 g3 hc;have hce:a.eval c=.bool t:=by cases hq:a.eval c<;>rw[hq]at hvr<;>cases hvr;rfl
 cases t with
 |true=>exact wpIn_cond_true hce (h1 rfl b a w hb ⟨ρ,g1,g2,g3,g4⟩ K hK).wp
 |false=>exact wpIn_cond_false hce (h2 rfl b a w hb ⟨ρ,g1,g2,g3,g4⟩ K hK).wp
theorem qah{c:Operand} {x y:Code} (hc:qbr s c=some (.bool true)) (h:WpSr C n r x s Q):WpSr C n r (.cond c x y) s Q:=qbf hc (fun _=>h) fun h=>by cases h
theorem qai{c:Operand} {x y:Code} (hc:qbr s c=some (.bool false)) (h:WpSr C n r y s Q):WpSr C n r (.cond c x y) s Q:=qbf hc (fun h=>by cases h) fun _=>h
theorem wq{c d:Code} (h:WpSr C n r c s (qab (fun s=>WpSr C n r d s Q) Q)):WpSr C n r (.seq c d) s Q:=qaa h
theorem qa4{id:Nat} {c:Code} (h:WpSr C n r c s (qa5 id Q)):WpSr C n r (.block id c) s Q:=by
 intro b a w hb ha K hK;refine wpIn_block (h b a w hb ha _ fun x s' a' w' hq ha'=>?_).wp;cases x with
 |exit k=>
  show Exit.inBlock id K (.exit k) a' w';unfold Exit.inBlock;simp only;rw[qve]at hq;split at hq
  next hk=>rw[if_pos hk];exact hK .normal s' a' w' hq ha'
  next hk=>rw[if_neg hk];exact hK (.exit k) s' a' w' hq ha'
 |normal=>exact hK _ s' a' w' hq ha'
 |goto k=>exact hK _ s' a' w' hq ha'
 |ret=>exact hK _ s' a' w' hq ha'
theorem WpSr.mono{c:Code} {Q':Out->St->Prop} (h:WpSr C n r c s Q) (hq:∀x s',Q x s'->Q' x s'):WpSr C n r c s Q':=
 fun b a w hb ha K hK=>h b a w hb ha K fun x s' a' w' h1 h2=>hK x s' a' w' (hq x s' h1) h2
theorem qk3{t:Nat} {u v:AV}:∀{ks:List Nat} {pre post:List AV} {x:AV},qfi t ks (pre++v::post)=some x->qfi t ks (pre++u::post)=some x\/(x=v/\qfi t ks (pre++u::post)=some u/\ks.getD pre.length 0=t)
 |[],_,_,_,h=>by simp[qdk,qic]at h
 |q::ks,[],post,x,h=>by
  simp only[List.nil_append]at h ⊢;rw[qdk]at h ⊢;simp only at h ⊢;split at h
  next hb=>simp only[sj]at h;exact .inr ⟨h.symm,by simp[hb],by simpa using Nat.eq_of_beq_eq_true hb⟩
  next hb=>exact .inl (by simp[hb,h])
 |q::ks,p::pre,post,x,h=>by
  simp only[List.cons_append]at h ⊢;rw[qdk]at h ⊢;simp only at h ⊢;split at h
  next hb=>exact .inl (by simp[hb,h])
  ·rename_i hb;rcases qk3 (u:=u) h with h1|⟨h1,h2,h3⟩
   ·exact .inl (by simp[hb,h1])
   ·exact .inr ⟨h1,by simp[hb,h2],by simpa using h3⟩
theorem qnd{ks:List Nat} {pre post:List AV} {sz z:Nat} {H:Heap} {c:Code} (h1:WpSr C n r c ⟨ks,pre++.nilS::post,[],z,H⟩ Q) (h2:WpSr C n r c ⟨ks,pre++.eslc::post,[],z,H⟩ Q) :
  WpSr C n r c ⟨ks,pre++.fslc sz []::post,[],z,H⟩ Q:=by
 intro b a w hb ha K hK;obtain⟨ρ,g1,g2,g3,g4⟩:=ha;have get:∀{vs:List AV} {t:Nat},St.get ⟨ks,vs,[],z,H⟩ t=qfi t ks vs:=fun {vs t}=>by simp only[St.get,qgm];cases qfi t ks vs<;>rfl
 by_cases hn:a.tmps.getD (ks.getD pre.length 0) undef=.slice none 0 0
 ·refine h1 b a w hb ⟨ρ,g1,g2,⟨g3.size,fun t v hv=>?_⟩,g4⟩ K hK;rw[get]at hv;rcases qk3 (u:=.fslc sz []) hv with h|⟨rfl,h,ht⟩
  ·exact g3.val t v (by rw[get];exact h)
  ·rw[<- ht,hn];exact .nilS
 ·refine h2 b a w hb ⟨ρ,g1,g2,⟨g3.size,fun t v hv=>?_⟩,g4⟩ K hK;rw[get]at hv;rcases qk3 (u:=.fslc sz []) hv with h|⟨rfl,h,ht⟩
  ·exact g3.val t v (by rw[get];exact h)
  ·have hv2:=g3.val t _ (by rw[get];exact h);rw[ht]at hn;revert hn hv2;generalize a.tmps.getD t undef=x;intro hn hv2;cases hv2 with
   |fslc _ _ cb off cap vs=>exact .eslc _ _
   |fnil=>exact absurd rfl hn
   |fnone=>exact .eslc _ _
theorem WpSr.fit{c:Code} {s':St} (σ:List (Nat × Nat)) (Φ:List (Nat × List AV)) (f:Fit n σ Φ s s') (h:WpSr C n r c s' Q):WpSr C n r c s Q:=
 fun b a w hb ha K hK=>h b a w hb (ha.fit (hb ▸ f)) K hK
theorem wps_loop{ι:Type} (inv:ι->St) (φ:ι->Prop) (m:ι->Nat) {c:Code} (step:∀x,φ x->∀B:St->Prop,(∀s' y,m y < m x->φ y->(∃σ Φ,Fit n σ Φ s' (inv y))->B s')->WpSr C n r c (inv x) (qab B Q)) :
  ∀x,φ x->WpSr C n r (.loop c) (inv x) Q:=by
 have key:∀k x,m x=k->φ x->WpSr C n r (.loop c) (inv x) Q:=by
  intro k;induction k using Nat.strongRecOn with
  |_ k ih=>
   intro x hm hx b a w hb ha K hK;refine LoopGoes.round (step x hx (fun s'=>∃y,m y < m x/\φ y/\∃σ Φ,Fit n σ Φ s' (inv y)) (fun s' y h1 h2 h3=>⟨y,h1,h2,h3⟩) b a w hb ha _ fun o s' a' w' hq ha'=>?_).wp;cases o with
   |normal=>obtain⟨y,hy,hφ,σ,Φ,hf⟩:=hq;exact ih (m y) (by omega) y rfl hφ b a' w' hb (ha'.fit (hb ▸ hf)) K fun x s2 a2 w2 q1 q2=>hK x s2 a2 w2 q1 q2
   |exit k=>exact hK _ s' a' w' hq ha'
   |goto k=>exact hK _ s' a' w' hq ha'
   |ret=>exact hK _ s' a' w' hq ha'
 exact fun x hx=>key _ x rfl hx
theorem qb1{ι:Type} (inv:ι->St) (φ:ι->Prop) (m:ι->Nat) (σ:List (Nat × Nat)) (Φ:List (Nat × List AV)) (x:ι) (hx:φ x) {c:Code} (hf:Fit n σ Φ s (inv x))
  (step:∀x,φ x->∀B:St->Prop,(∀s' y,m y < m x->φ y->(∃σ Φ,Fit n σ Φ s' (inv y))->B s')->WpSr C n r c (inv x) (qab B Q)):WpSr C n r (.loop c) s Q:=
 .fit σ Φ hf (wps_loop inv φ m step x hx)
def gotoQ(body:Code) (R:Code->St->Prop) (Q:Out->St->Prop):Out->St->Prop
 |.goto l,s=>match findLabel body l with
  |some rest=>R rest s
  |none=>Q (.goto l) s
 |x,s=>Q x s
theorem qzd{ι:Type} (at_:ι->Code) (inv:ι->St) (φ:ι->Prop) (m:ι->Nat) {body:Code} (x:ι) (hx:φ x) (h0:at_ x=body)
  (step:∀x,φ x->∀B:Code->St->Prop,(∀s' y,m y < m x->φ y->(∃σ Φ,Fit n σ Φ s' (inv y))->B (at_ y) s')->WpSr C n r (at_ x) (inv x) (gotoQ body B Q)):WpSr C n r (.scope body) (inv x) Q:=by
 have key:∀k x,m x=k->φ x->∀b a w,b.n=n->At b (inv x) a w->∀K:Exit->Act->World->Prop,
   (∀x s' a' w',Q x s'->At b s' a' w'->K x.exit_ a' w')->ScopeGoes (fen r) 0 C.P body K (at_ x) a w:=by
  intro k;induction k using Nat.strongRecOn with
  |_ k ih=>
   intro x hm hx b a w hb ha K hK;refine ScopeGoes.pass (step x hx (fun rest s'=>∃y,m y < m x/\φ y/\rest=at_ y/\∃σ Φ,Fit n σ Φ s' (inv y)) (fun s' y h1 h2 h3=>⟨y,h1,h2,rfl,h3⟩) b a w hb ha _ fun o s' a' w' hq ha'=>?_).wp;cases o with
   |goto l=>
    show Exit.inScope _ _ _ _ _ (.goto l) a' w';unfold Exit.inScope;simp only[gotoQ]at hq ⊢;cases hf:findLabel body l with
    |some rest=>simp only[hf]at hq ⊢;obtain⟨y,hy,hφ,rfl,σ,Φ,hft⟩:=hq;exact ih (m y) (by omega) y rfl hφ b a' w' hb (ha'.fit (hb ▸ hft)) K fun x s2 a2 w2 q1 q2=>hK x s2 a2 w2 q1 q2
    |none=>simp only[hf]at hq ⊢;exact hK _ s' a' w' hq ha'
   |normal=>exact hK _ s' a' w' hq ha'
   |exit k=>exact hK _ s' a' w' hq ha'
   |ret=>exact hK _ s' a' w' hq ha'
 intro b a w hb ha K hK;subst h0;exact ScopeGoes.wp (key _ x rfl hx b a w hb ha K hK)
end
section
variable {C:Ctx}
theorem qky{ρ ρ':Place} {H:Heap} {w:World} (sm:Sim ρ H w) (low:∀k,k < H.n->ρ' k=ρ k):∀b l,ρ b=some l->ρ' b=some l:=fun b l h=>by
 rcases Nat.lt_or_ge b H.n with hb|hb
 ·rw[low b hb];exact h
 ·rw[sm.dom b hb]at h;cases h
theorem Since.poke{b:Base} {ρ:Place} {H:Heap} {w:World} (h:Since b ρ H w) {k:Nat} (o:Obj) (hk:b.w.heap.size<=k):Since b ρ H (w.putObj k o) where
 fz:=h.fz
 os:=h.os
 tape:=h.tape
 output:=h.output
 size:=by rw[World.putObj_size];exact h.size
 keeps:=fun j hj hn=>by rw[World.putObj_heap_other (by omega)];exact h.keeps j hj hn
 rows:=h.rows
 cold:=h.cold
 low:=h.low
 num:=h.num
theorem qmb{P:Program} {fn:Func} {tmps:Array Value} {R:Ending->World->Prop} {b:Base} {ρ:Place} {H:Heap}:∀(rs:List Nat) (w:World),rs.Nodup->(∀r,r∈rs->Mk b.w.heap.size ρ H w r)->Sim ρ H w->Since b ρ H w ->
  (∀w',Sim ρ H w'->Since b ρ H w'->∃v,(results fn tmps).run P w'=.ok v w'/\R (.returned v) w')->LeavesInM Fence.wide 0 P fn tmps R (rs.map mkD) .returning w
 |[],w,_,_,s,t,h=>h w s t
 |r::rs,w,nd,hm,s,t,h=>by have m:=hm r List.mem_cons_self;rw[List.nodup_cons]at nd;refine⟨by simp,.inl ⟨r,w.putObj r (.deferred none),rfl,run_takeDeferred m.obj,?_⟩⟩;refine qmb rs _ nd.2 (fun q hq=>?_) (s.poke _ m.cold m.apart) (t.poke _ m.ge) h;have mq:=hm q (List.mem_cons_of_mem _ hq);exact⟨mq.ge,by rw[World.putObj_heap_other (show q≠r from fun e=>nd.1 (e ▸ hq))];exact mq.obj,mq.cold,mq.apart⟩
theorem qa0 {f : FuncId} {fn : Func} {body : Code} {args : List AV} {H H' : Heap} {v : AV} {s0 : St} (hf : C.P.funcs[f]? = some fn) (hname : (fn.name == "runtime.NumGoroutine") = false)
  (hb:fn.body=some body) (he:enterF C f fn args H=some s0)
  (h:WpS C H.n body s0 fun x s=>(x=.normal\/x=.ret)/\∃vs,retVal C s fn.results.toList=some vs/\∃σ Φ,qap σ Φ (oneOr vs) v/\FitH H.n σ Φ s.H H'):CallAt C f args H v H':=by
 intro ρ w xs sm hx;refine .inr ⟨f,xs.toArray,?_,?_⟩
 ·have hname' : ¬ fn.name = "runtime.NumGoroutine" := fun e => by rw [e] at hname; simp at hname
  simp[callFunc,hf,hname',hb]
 ·refine callsIn_of_wp_marks hf hb trivial ?_;obtain⟨o1,o2⟩:=sm.opened;have hlen:xs.length=args.length:=hx.1;have env0:EnvR ρ { ks:=C.keep f,vs:=qp9 (C.keep f),ts:=[],sz:=args.length+(fn.ntmps - args.length),H:=⟨H.n,[]::H.fs⟩ }
    { tmps:=xs.toArray++Array.replicate (fn.ntmps - xs.toArray.size) undef,defers:=[] }:=by
   refine⟨by simp[hlen],fun t u hu=>?_⟩;simp only[St.get]at hu;split at hu
   next hl=>have:=qib hl;simp only[sj]at hu;subst hu;subst this;exact .undef _
   ·simp[qgm,qma]at hu
  obtain⟨e1,hH1⟩:=qjz (i:=0) he env0 hx fun j hj=>by simp only[Nat.zero_add,Array.getD_eq_getD_getElem?];rw[Array.getElem?_append_left (by simpa using hj)];simp[hj]
  have hH:s0.H=⟨H.n,[]::H.fs⟩:=hH1
  let b:Base:=⟨H.n,fun k=>∃e,e∈H.ents/\∃l,ρ e.1=some l/\l.cb=k,ρ,w,[]⟩
  have since0:Since b ρ s0.H w:=by rw[hH];exact⟨fun k hk=>⟨hk,rfl⟩,rfl,rfl,rfl,Nat.le_refl _,fun _ _ _=>rfl,fun e he l hl=>.inl ⟨e,he,l,hl,rfl⟩,fun k hk=>.inl hk,fun _ _=>rfl,Nat.le_refl _⟩
  refine(h b _ w rfl ⟨ρ,since0,by rw[hH];exact o1,e1,.of_eq rfl⟩ _ fun x s a' w' hq ha'=>?_).wp;obtain⟨hx1,vs,hvs,σ,Φ,hfv,hfh⟩:=hq;obtain⟨ρ1,k1,k2,k3,rs,hrs,hnd,hmk⟩:=ha';have fin:LeavesInM Fence.wide 0 C.P fn a'.tmps (qvj ρ H w v H') a'.defers .returning w':=by
   have hrs:a'.defers=rs.map mkD:=(by rw[hrs];exact List.append_nil _);rw[hrs];refine qmb (b:=b) rs w' hnd hmk k2 k1 fun w' k2 k1=>?_;obtain⟨y,r1,r2⟩:=qnl k2 k3 hvs;have run:=Fits.run (hfh.fits k2) k2 _ (Nat.le_refl _) r2 hfv;have sim2:=hfh.sim k2 k1.num;have sin2:=FitH.since (b:=b) hfh k2 k1;refine⟨y,r1,y,_,rfl,run,sim2,?_⟩;exact⟨⟨qky sm sin2.low,sin2.fz,sin2.os,sin2.tape,sin2.output⟩,sin2.size,fun k hk hn=>sin2.keeps k hk fun⟨e,he,l,hl,hlk⟩=>hn e he l hl hlk,
    fun e he l hl=>sin2.rows e he l hl,sin2.num,sin2.low,sin2.cold⟩
  rcases hx1 with rfl|rfl
  ·exact fin
  ·exact fin
theorem qze{n:Nat} {s:St} {Q:Out->St->Prop} {call:qc5} {g:Operand} {ps:Array Tmp} {assign body:Code} (hC:CallOK C call) (h:∃x s',qh9 C call g ps assign body s=some (x,s')/\Q x s'):WpS C n (.rangeFunc g ps assign body) s Q:=by intro b a w hb ha K hK;obtain⟨x,s',h1,h2⟩:=h;obtain⟨ρ,g1,g2,g3,g4⟩:=ha;exact qw9 hC h1 ρ a w K g2 g3 fun a' w' ρ' k1 k2 k3 k4=>hK x s' a' w' h2 ⟨ρ',g1.step k2,k1,k3,g4.then g1.size k2 k4⟩
theorem qrv{b:Nat} {args:List AV} {H H':Heap} {v:AV} {pend:Option Code} {ks:List Nat} {vs:List AV} {ts:List (Nat × AV)} {sz:Nat} {ps:List Nat} {assign body:Code} {s1:St}
  (hg:H.get b=some (.loop .ready pend ks vs ts sz ps assign body)) (hp:qse ⟨ks,vs,ts,sz,⟨H.n,[]::H.fs⟩⟩ ps args=some s1)
  (h:∀l,WpSr C H.n (some l) assign s1 fun x s=>x=.normal/\∃pend ks vs ts sz ps as' bd H1,s.H.get b=some (.loop .ready pend ks vs ts sz ps as' bd)/\s.H.set b (.loop .busy pend ks vs ts sz ps as' bd)=some H1 /\
   WpSr C H.n (some l) body { s with H:=H1 } fun x s=>∃st pend ks vs ts sz ps as' bd H2,s.H.get b=some (.loop st pend ks vs ts sz ps as' bd)/\s.H.set b (.loop (qh5 x).2.1 (qh5 x).2.2 ks vs ts sz ps as' bd)=some H2 /\
    v=.bool (qh5 x).1/\∃σ Φ,FitH H.n σ Φ H2 H'):qg8 C b args H v H':=by
 intro ρ w xs l sm hx hl;obtain⟨l',hl',_,hlt,r,hr,q1,q2,q3,q4,q5,q6,q7⟩:=sm.block hg;rw[hl]at hl';cases hl';obtain⟨o1,o2⟩:=sm.opened;have env0:EnvR ρ ⟨ks,vs,ts,sz,⟨H.n,[]::H.fs⟩⟩ { tmps:=r.tmps,defers:=[] }:=⟨q6.symm,q7⟩;obtain⟨f1,f2,f3⟩:=qof (fun tmps p=>tmps.setIfInBounds p.1 p.2) rfl (n:=0) hp hx env0;have f2:s1.H=⟨H.n,[]::H.fs⟩:=f2;have hps:xs.toArray.size=r.params.size:=by rw[<- q3]at f1;simpa using f1.symm
 refine⟨r.fn,_,r.assign,r.body,run_yield hr hps,?_⟩;have hz:(r.params.zip xs.toArray).foldl (fun tmps (x:Tmp × Value)=>match x with|(t,a)=>tmps.setIfInBounds t a) r.tmps=(ps.zip xs).foldl (fun tmps p=>tmps.setIfInBounds p.1 p.2) r.tmps:=by rw[<- Array.foldl_toList,Array.toList_zip,q3]
 rw[hz,q4,q5];refine roundIn_of_wpIn trivial ?_
 let b0:Base:=⟨H.n,fun k=>∃e,e∈H.ents/\∃l,ρ e.1=some l/\l.cb=k,ρ,w,[]⟩
 have since0:Since b0 ρ s1.H w:=by rw[f2];exact⟨fun k hk=>⟨hk,rfl⟩,rfl,rfl,rfl,Nat.le_refl _,fun _ _ _=>rfl,fun e he l hl=>.inl ⟨e,he,l,hl,rfl⟩,fun k hk=>.inl hk,fun _ _=>rfl,Nat.le_refl _⟩
 refine(h l.cb b0 _ w rfl ⟨ρ,since0,by rw[f2];exact o1,f3,.of_eq rfl⟩ _ fun x s a1 w1 hq ha1=>?_).wp;obtain⟨rfl,pend1,ks1,vs1,ts1,sz1,ps1,as1,bd1,H1,hk1,hset1,hw⟩:=hq;obtain⟨ρ1,k1,k2,k3,k4⟩:=ha1;obtain⟨l1,hl1,_,hlt1,r1,hr1,u1,u2,_⟩:=k2.block hk1;have hbn:b < H.n:=by
  rcases Nat.lt_or_ge b H.n with hh|hh
  ·exact hh
  ·rw[sm.dom b hh]at hl;cases hl
 have hl1':ρ1 b=some l:=by rw[k1.low b hbn];exact hl
 rw[hl1']at hl1;cases hl1;refine⟨w1.putObj l.cb (.loop { r1 with state:=.busy }),run_beginRound hr1 u1,?_⟩;have hset1':s.H.set b (.loop .busy r1.pending ks1 vs1 ts1 sz1 ps1 as1 bd1)=some H1:=by rw[u2];exact hset1
 obtain⟨s4,t4⟩:=k2.turnLoop hk1 hl1' hr1 hset1';refine(hw b0 a1 _ rfl ⟨ρ1,k1.step t4,s4,k3.heap H1,k4.step t4⟩ _ fun x3 s3 a2 w2 hq2 ha2=>?_).wp;obtain⟨st2,pend2,ks2,vs2,ts2,sz2,ps2,as2,bd2,H2,hk2,hset2,hv,σ,Φ,hfh⟩:=hq2;obtain⟨ρ2,m1,m2,m3,m4⟩:=ha2;have hl2':ρ2 b=some l:=by rw[m1.low b hbn];exact hl
 obtain⟨l2,hl2,_,hlt2,r2,hr2,_⟩:=m2.block hk2;rw[hl2']at hl2;cases hl2;have fin:∀(jump:Option Code) (st':LoopState),st'=(if jump.isNone then .ready else .done)->s3.H.set b (.loop st' jump ks2 vs2 ts2 sz2 ps2 as2 bd2)=some H2->v=.bool jump.isNone ->
   ∃v' w',(Instr.endRound l.cb jump).run C.P w2=.ok v' w'/\qvj ρ H w v H' (.returned v') w':=by
  intro jump st' hst' hset hv;obtain⟨s5,t5⟩:=m2.turnLoop hk2 hl2' hr2 hset;rw[hst']at s5 t5;have m5:=m1.step t5;have sim2:=hfh.sim s5 m5.num;have sin2:=FitH.since (b:=b0) hfh s5 m5;refine⟨_,_,run_endRound jump hr2,.bool jump.isNone,_,rfl,by rw[hv];exact .bool _,sim2,?_⟩;exact⟨⟨qky sm sin2.low,sin2.fz,sin2.os,sin2.tape,sin2.output⟩,sin2.size,fun k hk hn=>sin2.keeps k hk fun⟨e,he,l,hl,hlk⟩=>hn e he l hl hlk,
   fun e he l hl=>sin2.rows e he l hl,sin2.num,sin2.low,sin2.cold⟩
 cases x3 with
 |normal=>exact fin none _ rfl hset2 hv
 |ret=>exact fin (some .ret) _ rfl hset2 hv
 |exit id=>exact fin (some (.exit id)) _ rfl hset2 hv
 |goto q=>exact fin (some (.goto q)) _ rfl hset2 hv
end
theorem FitH.empty{H:Heap}:FitH 0 [] [] H ⟨0,[]⟩ where
 nd1:=List.nodup_nil
 nd2:=List.nodup_nil
 nd3:=List.nodup_nil
 lt:=fun x h=>by cases h
 idn:=fun x h=>by cases h
 num:=Nat.le_refl _
 src:=fun e he=>by simp[Heap.ents]at he
 frz:=fun x h=>by cases h
theorem FitH.froze{H:Heap} {Φ:List (Nat × List AV)} (nd:(Φ.map (·.1)).Nodup) (frz:∀x,x∈Φ->∃cs,H.get x.1=some (.cells cs)/\qax [] Φ cs x.2/\qa3 x.2=true):FitH 0 [] Φ H ⟨0,[]⟩ where
 nd1:=by simpa using nd
 nd2:=List.nodup_nil
 nd3:=List.nodup_nil
 lt:=fun x h=>by cases h
 idn:=fun x h=>by cases h
 num:=Nat.le_refl _
 src:=fun e he=>by simp[Heap.ents]at he
 frz:=frz
section
variable {C:Ctx} {f:FuncId} {args args':List AV} {v:AV}
theorem Sim.bare{ρ:Place} {H:Heap} {w:World} (s:Sim ρ H w):Sim ρ.bare ⟨0,[]⟩ w where
 base:=s.base
 below:=s.below
 os:=s.os
 tape:=s.tape
 output:=s.output
 dom:=fun _ _=>rfl
 nodup:=List.nodup_nil
 live:=fun e he=>by cases he
 inj:=fun e e' he=>by cases he
theorem CallAt.lift(h:CallAt C f args ⟨0,[]⟩ v ⟨0,[]⟩) (hp:qa3 args=true) (H:Heap):CallAt C f args H v H:=by
 intro ρ w xs sm hx;have up:∀{x:Value} {ρ':Place} {w':World},VR ρ' v x->Sim ρ' ⟨0,[]⟩ w'->Step ρ.bare ⟨0,[]⟩ w ρ' ⟨0,[]⟩ w'->∃ρ'',VR ρ'' v x/\Sim ρ'' H w'/\Step ρ H w ρ'' H w':=by
  intro x ρ' w' h1 h2 h3;have hle:ρ.le { ρ' with at_:=ρ.at_ }:=⟨fun _ _ h=>h,h3.le.fz,h3.le.os,h3.le.tape,h3.le.output⟩;have hkeep:∀k,k < w.heap.size->w'.heap[k]? = w.heap[k]?:=fun k hk=>h3.keeps k hk fun e he=>by cases he
  have hbl:ρ'.le { ρ' with at_:=ρ.at_ }:=⟨fun b l hb=>(by have hd:=h2.dom b (Nat.zero_le _);rw[hd]at hb;cases hb),fun _ hk=>⟨hk,rfl⟩,rfl,rfl,rfl⟩;refine⟨{ ρ' with at_:=ρ.at_ },h1.mono hbl,⟨h2.base,h2.below,h2.os,h2.tape,h2.output,sm.dom,sm.nodup,fun e he=>?_,sm.inj⟩,
   ⟨hle,h3.size,fun k hk _=>hkeep k hk,fun e he l hl=>.inl ⟨e,he,l,hl,rfl⟩,Nat.le_refl _,fun _ _=>rfl,fun k hk=>?_⟩⟩
  ·obtain⟨l,g1,g2,g3,g4⟩:=sm.live e he;refine⟨l,g1,fun hB=>?_,Nat.lt_of_lt_of_le g3 h3.size,(g4.same (hkeep _ g3)).mono hle⟩;rcases h3.cold _ hB with h|⟨e,he,_⟩|h
   ·exact g2 h
   ·cases he
   ·omega
  ·rcases h3.cold _ hk with h|⟨e,he,_⟩|h
   ·exact .inl h
   ·cases he
   ·exact .inr (.inr h)
 rcases h ρ.bare w xs sm.bare (hx.pure hp)with⟨x,ρ',w',h0,h1,h2,h3⟩|⟨g,ys,h0,h1⟩
 ·obtain⟨ρ'',k1,k2,k3⟩:=up h1 h2 h3;exact .inl ⟨x,ρ'',w',h0,k1,k2,k3⟩
 ·refine .inr ⟨g,ys,h0,h1.mono ?_⟩;rintro e w' ⟨x,ρ',rfl,m1,m2,m3⟩;obtain⟨ρ'',k1,k2,k3⟩:=up m1 m2 m3;exact⟨x,ρ'',rfl,k1,k2,k3⟩
theorem CallAt.borrow(h:CallAt C f args' ⟨0,[]⟩ v ⟨0,[]⟩) (hs:qf7 v=true) {H:Heap} {Φ:List (Nat × List AV)} (hH:(H.ents.map (·.1)).Nodup->FitH 0 [] Φ H ⟨0,[]⟩) (hf:qax [] Φ args args'):CallAt C f args H v H:=by
 intro ρ w xs sm hx;have fh:=hH sm.nodup;have hx':VRs (qbl 0 [] Φ ρ w sm.below) args' xs:=by obtain⟨k1,k2⟩:=qco hf;refine⟨by rw[hx.1,k1],fun i h1 h2=>?_⟩;exact Fits.run (fh.fits sm) sm _ (Nat.le_refl _) (hx.2 i (by omega) h2) (k2 i (by omega) h1)
 have up:∀{x:Value} {ρ':Place} {w':World},VR ρ' v x->Sim ρ' ⟨0,[]⟩ w'->Step (qbl 0 [] Φ ρ w sm.below) ⟨0,[]⟩ w ρ' ⟨0,[]⟩ w'->VR ρ v x/\Sim ρ H w'/\Step ρ H w ρ H w':=by
  intro x ρ' w' h1 h2 h3;have hkeep:∀k,k < w.heap.size->w'.heap[k]? = w.heap[k]?:=fun k hk=>h3.keeps k hk fun e he=>by cases he
  refine⟨h1.scalar hs,⟨fun k hk=>Nat.lt_of_lt_of_le (sm.base k hk) h3.size,fun k hk=>(hkeep k (sm.base k hk)).trans (sm.below k hk),?_,?_,?_,sm.dom,sm.nodup,fun e he=>?_,sm.inj⟩,
   ⟨Place.le_refl _,h3.size,fun k hk _=>hkeep k hk,fun e he l hl=>.inl ⟨e,he,l,hl,rfl⟩,Nat.le_refl _,fun _ _=>rfl,fun k hk=>.inl hk⟩⟩
  ·exact(h2.os.trans h3.le.os).trans sm.os
  ·exact(h2.tape.trans h3.le.tape).trans sm.tape
  ·exact(h2.output.trans h3.le.output).trans sm.output
  ·obtain⟨l,g1,g2,g3,g4⟩:=sm.live e he;exact⟨l,g1,g2,Nat.lt_of_lt_of_le g3 h3.size,g4.same (hkeep _ g3)⟩
 rcases h _ w xs (fh.sim sm (Nat.zero_le _)) hx' with⟨x,ρ',w',h0,h1,h2,h3⟩|⟨g,ys,h0,h1⟩
 ·obtain⟨k1,k2,k3⟩:=up h1 h2 h3;exact .inl ⟨x,ρ,w',h0,k1,k2,k3⟩
 ·refine .inr ⟨g,ys,h0,h1.mono ?_⟩;rintro e w' ⟨x,ρ',rfl,m1,m2,m3⟩;obtain⟨k1,k2,k3⟩:=up m1 m2 m3;exact⟨x,ρ,rfl,k1,k2,k3⟩
end
def chunk(sz:Nat):Nat->List AV->List AV
 |0,_=>[]
 |Nat.succ n,cs=>(if sz=1 then cs.headD .undef else .agg (cs.take sz))::chunk sz n (cs.drop sz)
def qhd(H:Heap) (sz:Nat):AV->Option AV
 |.slc b o len _=>match H.get b with
  |some (.cells cs)=>if qa3 cs=true then match qf1 o (len * sz) cs with
   |some r=>if qfl sz (chunk sz len r)=true/\qa8 (chunk sz len r)=r/\(chunk sz len r).length=len then some (.fslc sz (chunk sz len r)) else none
   |none=>none
   else none
  |_=>none
 |.ptr b o=>match H.get b with
  |some (.cells cs)=>if qa3 cs=true then some (.fptr cs o) else none
  |_=>none
 |.nilS=>if sz=0 then some .nilS else some (.fslc sz [])
 |.zslc=>if sz=0 then some .zslc else some (.fslc sz [])
 |.eslc=>if sz=0 then some .eslc else some (.fslc sz [])
 |v=>if qa2 v=true then some v else none
def qjf(H:Heap):List Nat->List AV->Option (List AV)
 |_,[]=>some []
 |ss,a::r=>(qhd H (ss.headD 0) a).bind fun a'=>(qjf H ss.tail r).bind fun r'=>some (a'::r')
def okV:AV->Bool
 |.nilS | .zslc | .eslc=>false
 |.agg cs=>qa3 cs && cs.all fun c=>match c with
  |.nilS | .zslc | .eslc=>false
  |_=>true
 |v=>qa2 v
theorem okV_pure{v:AV} (h:okV v=true):qa2 v=true:=by cases v<;>simp_all [okV,qa2]
def qcy(H:Heap) (ss:List Nat) (v:AV):Option AV:=if okV v=true then some v else match v with
 |.agg cs=>(qjf H ss cs).bind fun cs'=>some (.agg cs')
 |.func fn a c=>(qjf H [] a).bind fun a'=>(qjf H [] c).bind fun c'=>some (.func fn a' c')
 |v=>qhd H (ss.headD 0) v
def qbb(H:Heap):List (List Nat)->List AV->Option (List AV)
 |_,[]=>some []
 |ss,a::r=>(qcy H (ss.headD []) a).bind fun a'=>(qbb H ss.tail r).bind fun r'=>some (a'::r')
def qdo:List (Nat × Blk)->List (Nat × List AV)
 |[]=>[]
 |e::r=>match e.2 with
  |.cells cs=>if qa3 cs=true then (e.1,cs)::qdo r else qdo r
  |_=>qdo r
theorem qdx:∀{l:List (Nat × Blk)} {x:Nat × List AV},x∈qdo l->(x.1,.cells x.2)∈l/\qa3 x.2=true
 |[],x,h=>by cases h
 |e::r,x,h=>by
  unfold qdo at h;split at h
  ·rename_i cs hcs;split at h
   ·rename_i hp;rcases List.mem_cons.1 h with rfl|h
    ·exact⟨by rw[<- hcs];exact List.mem_cons_self,hp⟩
    ·exact⟨List.mem_cons_of_mem _ (qdx h).1,(qdx h).2⟩
   ·exact⟨List.mem_cons_of_mem _ (qdx h).1,(qdx h).2⟩
  ·exact⟨List.mem_cons_of_mem _ (qdx h).1,(qdx h).2⟩
theorem qgk:∀(l:List (Nat × Blk)),((qdo l).map (·.1)).Sublist (l.map (·.1))
 |[]=>by simp[qdo]
 |e::r=>by
  unfold qdo;split
  ·split
   ·simpa using qgk r
   ·simpa using(qgk r).trans (List.sublist_cons_self _ _)
  ·simpa using(qgk r).trans (List.sublist_cons_self _ _)
theorem qew:∀{l:List (Nat × Blk)} {b:Nat} {cs:List AV},(l.map (·.1)).Nodup->(b,.cells cs)∈l->qa3 cs=true->qcn b (qdo l)=some cs
 |[],_,_,_,h,_=>by cases h
 |e::r,b,cs,hn,h,hp=>by
  rw[List.map_cons,List.nodup_cons]at hn;unfold qdo;rcases List.mem_cons.1 h with rfl|h
  ·simp only[hp,if_true,qcn]
  ·have hne:e.1≠b:=fun hx=>hn.1 (List.mem_map.2 ⟨_,h,hx.symm⟩);split
   ·split
    ·simp only[qcn,if_neg hne];exact qew hn.2 h hp
    ·exact qew hn.2 h hp
   ·exact qew hn.2 h hp
theorem qj6:∀{fs:List (List (Nat × Blk))} {b:Nat} {k:Blk},(fs.flatten.map (·.1)).Nodup->(b,k)∈fs.flatten->getFs b fs=some k
 |fs,b,k,hn,h=>by
  have key:∀(f:List (Nat × Blk)),(b,k)∈f->(f.map (·.1)).Nodup->getF b f=some k:=by
   intro f;induction f with
   |nil=>intro h;cases h
   |cons e r ih=>
    intro h hn;rw[List.map_cons,List.nodup_cons]at hn;unfold getF;rcases List.mem_cons.1 h with rfl|h
    ·simp
    ·have hne:e.1≠b:=fun hx=>hn.1 (List.mem_map.2 ⟨_,h,hx.symm⟩);rw[qb4 hne];exact ih h hn.2
  have miss:∀(f:List (Nat × Blk)),b ∉ f.map (·.1)->getF b f=none:=by
   intro f;induction f with
   |nil=>intro _;rfl
   |cons e r ih=>intro h;simp only[List.map_cons,List.mem_cons,not_or]at h;unfold getF;rw[qb4 (fun hx=>h.1 hx.symm)];exact ih h.2
  induction fs with
  |nil=>cases h
  |cons f r ih=>
   simp only[List.flatten_cons,List.map_append]at hn h;obtain⟨n1,n2,n3⟩:=List.nodup_append.1 hn;unfold getFs;rcases List.mem_append.1 h with h|h
   ·rw[key f h n1]
   ·have hm:b ∉ f.map (·.1):=fun hx=>n3 b hx b (List.mem_map.2 ⟨_,h,rfl⟩) rfl;rw[miss f hm];exact ih n2 h
section
variable {H:Heap}
theorem qnq(hn:(H.ents.map (·.1)).Nodup):FitH 0 [] (qdo H.ents) H ⟨0,[]⟩:=
 .froze ((qgk H.ents).nodup hn) fun x hx=>by obtain⟨h1,h2⟩:=qdx hx;exact⟨x.2,qj6 hn h1,qao h2,h2⟩
theorem qs0(hn:(H.ents.map (·.1)).Nodup) {sz:Nat} {v v':AV} (h:qhd H sz v=some v'):qap [] (qdo H.ents) v v':=by
 cases v
 case slc b o len cap=>
  unfold qhd at h;simp only at h;split at h
  ·rename_i cs hg;split at h
   ·rename_i hp;split at h
    ·rename_i r hr;split at h
     next hc=>simp only[sj]at h;subst h;simp only[qap];exact .inl ⟨cs,qew hn (Heap.get_mem hg) hp,by rw[hc.2.1];exact hr,hc.2.2,hc.1⟩
     ·cases h
    ·cases h
   ·cases h
  ·cases h
 case ptr b o=>
  unfold qhd at h;simp only at h;split at h
  ·rename_i cs hg;split at h
   next hp=>simp only[sj]at h;subst h;simp only[qap];exact⟨qew hn (Heap.get_mem hg) hp,trivial⟩
   ·cases h
  ·cases h
 case nilS=>
  unfold qhd at h;simp only at h;split at h<;>(simp only[sj]at h;subst h;simp[qap])
 case zslc=>
  unfold qhd at h;simp only at h;split at h<;>(simp only[sj]at h;subst h;simp[qap])
 case eslc=>
  unfold qhd at h;simp only at h;split at h<;>(simp only[sj]at h;subst h;simp[qap])
 all_goals
  unfold qhd at h;simp only at h;split at h
  next hp=>simp only[sj]at h;subst h;exact qbd hp
  ·cases h
theorem qkj(hn:(H.ents.map (·.1)).Nodup):∀{ss:List Nat} {l l':List AV},qjf H ss l=some l'->qax [] (qdo H.ents) l l'
 |ss,[],l',h=>by simp only[qjf,sj]at h;subst h;simp[qax]
 |ss,a::r,l',h=>by obtain⟨a',h1,h⟩:=obs h;obtain⟨r',h2,h⟩:=obs h;simp only[sj]at h;subst h;simp only[qax];exact⟨qs0 hn h1,qkj hn h2⟩
theorem qzl(hn:(H.ents.map (·.1)).Nodup) {ss:List Nat} {v v':AV} (h:qcy H ss v=some v'):qap [] (qdo H.ents) v v':=by
 unfold qcy at h;split at h
 next hp=>simp only[sj]at h;subst h;exact qbd (okV_pure hp)
 ·split at h
  ·obtain⟨cs',h1,h⟩:=obs h;simp only[sj]at h;subst h;simp only[qap];exact .inl (qkj hn h1)
  ·obtain⟨a',h1,h⟩:=obs h;obtain⟨c',h2,h⟩:=obs h;simp only[sj]at h;subst h;simp only[qap];exact .inl ⟨trivial,qkj hn h1,qkj hn h2⟩
  ·exact qs0 hn h
theorem qeu(hn:(H.ents.map (·.1)).Nodup):∀{ss:List (List Nat)} {l l':List AV},qbb H ss l=some l'->qax [] (qdo H.ents) l l'
 |ss,[],l',h=>by simp only[qbb,sj]at h;subst h;simp[qax]
 |ss,a::r,l',h=>by obtain⟨a',h1,h⟩:=obs h;obtain⟨r',h2,h⟩:=obs h;simp only[sj]at h;subst h;simp only[qax];exact⟨qzl hn h1,qeu hn h2⟩
end
theorem CallAt.norm{C:Ctx} {f:FuncId} {args args':List AV} {H H':Heap} {v:AV} (h:CallAt C f args' H v H') (hf:qax [] [] args args'):CallAt C f args H v H':=by intro ρ w xs sm hx;have ft:Fits [] [] ρ ρ H w:=⟨ρ.bare_le,sm.below,fun _ _ h=>(by cases h),fun _ _ h=>(by cases h)⟩;obtain⟨k1,k2⟩:=qco hf;exact h ρ w xs sm ⟨by rw[hx.1,k1],fun i h1 h2=>Fits.run ft sm _ (Nat.le_refl _) (hx.2 i (by omega) h2) (k2 i (by omega) h1)⟩
def qjs(ss:List (List Nat)) (pf:List AV->Option AV):List AV->Heap->Option (AV × Heap):=fun args H=>
 if qa3 args=true then (qbb ⟨0,[]⟩ ss args).bind fun args'=>(pf args').bind fun v=>some (v,H)
 else (qbb H ss args).bind fun args'=>(pf args').bind fun v=>if qf7 v=true then some (v,H) else none
theorem qxq{C:Ctx} {f:FuncId} {pf:List AV->Option AV} (h:∀args v,pf args=some v->CallAt C f args ⟨0,[]⟩ v ⟨0,[]⟩) (ss:List (List Nat)) :
  ∀args H v H',qjs ss pf args H=some (v,H')->CallAt C f args H v H':=by
 intro args H v H' hv ρ w xs sm hx;unfold qjs at hv;split at hv
 next hp=>obtain⟨args',ha,hv⟩:=obs hv;obtain⟨u,hu,hv⟩:=obs hv;simp only[sj,Prod.mk.injEq]at hv;obtain⟨rfl,rfl⟩:=hv;have hf:=qeu (H:=⟨0,[]⟩) List.nodup_nil ha;exact((h _ _ hu).norm hf).lift hp H ρ w xs sm hx
 ·obtain⟨args',ha,hv⟩:=obs hv;obtain⟨u,hu,hv⟩:=obs hv;split at hv
  next hs=>simp only[sj,Prod.mk.injEq]at hv;obtain⟨rfl,rfl⟩:=hv;exact(h _ _ hu).borrow hs (fun hn=>qnq hn) (qeu sm.nodup ha) ρ w xs sm hx
  ·cases hv
open Classical in
def pfOf{α:Type} (enc:α->List AV) (pre:α->Prop) (post:α->AV):List AV->Option AV:=fun args=>
 if h:∃x,args=enc x/\pre x then some (post h.choose) else none
theorem zak{α:Type} {enc:α->List AV} {pre:α->Prop} {post:α->AV} (inj:∀x y,enc x=enc y->x=y) {x:α} (hx:pre x):pfOf enc pre post (enc x)=some (post x):=by unfold pfOf;have h:∃y,enc x=enc y/\pre y:=⟨x,rfl,hx⟩;rw[dif_pos h,<- inj _ _ h.choose_spec.1]
theorem pfOf_ok{α:Type} {enc:α->List AV} {pre:α->Prop} {post:α->AV} {C:Ctx} {f:FuncId} (h:∀x,pre x->CallAt C f (enc x) ⟨0,[]⟩ (post x) ⟨0,[]⟩) :
  ∀args v,pfOf enc pre post args=some v->CallAt C f args ⟨0,[]⟩ v ⟨0,[]⟩:=by
 intro args v hv;unfold pfOf at hv;split at hv
 ·rename_i hx;simp only[sj]at hv;subst hv;have hs:=hx.choose_spec;have:=h _ hs.2
  rwa [<- hs.1]at this
 ·cases hv
structure Entry (P:Program) where
 f:FuncId
 g:List AV->Heap->Option (AV × Heap)
 ok:∀args H v H',g args H=some (v,H')->CallAt ⟨P,fun _=>[],fun _=>none⟩ f args H v H'
def qa9{P:Program} (f:FuncId):List (Entry P)->Option (List AV->Heap->Option (AV × Heap))
 |[]=>none
 |e::r=>match Nat.beq e.f f with
  |true=>some e.g
  |false=>qa9 f r
def mkC(P:Program) (keep:FuncId->List Nat) (T:List (Entry P)):Ctx:={ P:=P,keep:=keep,summ:=fun f=>qa9 f T }
theorem qx8{P:Program} {f:FuncId} {g:List AV->Heap->Option (AV × Heap)}:∀{T:List (Entry P)},qa9 f T=some g->∀args H v H',g args H=some (v,H')->CallAt ⟨P,fun _=>[],fun _=>none⟩ f args H v H'
 |[],h=>by cases h
 |e::r,h=>by
  unfold qa9 at h;split at h
  next hb=>simp only[sj]at h;subst h;rw[<- Nat.eq_of_beq_eq_true hb];exact e.ok
  ·exact qx8 h
theorem mkC_ok(P:Program) (keep:FuncId->List Nat) (T:List (Entry P)):qtz (mkC P keep T):=fun _ _ h=>qx8 h
theorem mkC_call(P:Program) (keep:FuncId->List Nat) (T:List (Entry P)) (hm:P.follows .mixedOrders=true):CallOK (mkC P keep T) (qat (mkC P keep T)):=callL_ok (mkC_ok P keep T)
structure Fact (C:Ctx) where
 f:FuncId
 args:List AV
 H:Heap
 v:AV
 H':Heap
 ok:CallAt C f args H v H'
open Classical in
def qd9{C:Ctx}:List (Fact C)->qc5->qc5
 |[],call,c,args,H=>call c args H
 |x::r,call,c,args,H=>if c=.fn x.f/\args=x.args/\H=x.H then some (x.v,x.H') else qd9 r call c args H
theorem ql9{C:Ctx} {call:qc5} (hc:CallOK C call):∀(l:List (Fact C)),CallOK C (qd9 l call)
 |[]=>hc
 |x::r=>{
  fn:=fun f args H v H' h=>by
   unfold qd9 at h;split at h
   next hx=>obtain⟨hf,rfl,rfl⟩:=hx;simp only[sj,Prod.mk.injEq]at h;obtain⟨rfl,rfl⟩:=h;cases hf;exact x.ok
   ·exact(ql9 hc r).fn f args H v H' h
  yl:=fun b args H v H' h=>by
   unfold qd9 at h;split at h
   next hx=>cases hx.1
   ·exact(ql9 hc r).yl b args H v H' h }
attribute [simp] qbd qao
@[simp]theorem fitV_undef{σ:List (Nat × Nat)} {Φ:List (Nat × List AV)} {v:AV}:qap σ Φ v .undef:=by cases v<;>simp[qap]
theorem qfd{α:Type}:∀(l:List α),qe8 l.length l=some l
 |[]=>rfl
 |x::r=>by simp[qe8,qfd r]
@[simp]theorem zci(cs:List AV):AV.cells (.agg cs)=cs:=rfl
@[simp]theorem cells_str(s:List UInt8):AV.cells (.str s)=[.str s]:=rfl
@[simp]theorem cells_int(k:IntKind) (n:Int):AV.cells (.int k n)=[.int k n]:=rfl
@[simp]theorem cells_bool(b:Bool):AV.cells (.bool b)=[.bool b]:=rfl
@[simp]theorem cells_ptr(b o:Nat):AV.cells (.ptr b o)=[.ptr b o]:=rfl
@[simp]theorem cells_fptr(cs:List AV) (o:Nat):AV.cells (.fptr cs o)=[.fptr cs o]:=rfl
@[simp]theorem cells_slc(b o n:Nat) (c:Cap):AV.cells (.slc b o n c)=[.slc b o n c]:=rfl
@[simp]theorem cells_fslc(n:Nat) (es:List AV):AV.cells (.fslc n es)=[.fslc n es]:=rfl
@[simp]theorem cells_nilS  : AV.cells (.nilS)=[.nilS]:=rfl
@[simp]theorem cells_nilP  : AV.cells (.nilP)=[.nilP]:=rfl
@[simp]theorem cells_nilM  : AV.cells (.nilM)=[.nilM]:=rfl
@[simp]theorem cells_map(b:Nat):AV.cells (.map b)=[.map b]:=rfl
@[simp]theorem cells_func(f:Go.Fn) (a c:List AV):AV.cells (.func f a c)=[.func f a c]:=rfl
@[simp]theorem cells_nilF  : AV.cells (.nilF)=[.nilF]:=rfl
@[simp]theorem cells_float(k:FloatKind) (n:Nat):AV.cells (.float k n)=[.float k n]:=rfl
@[simp]theorem cells_cplx(k:FloatKind) (a b:Nat):AV.cells (.cplx k a b)=[.cplx k a b]:=rfl
@[simp]theorem cells_iface(t:TypeId) (v:AV):AV.cells (.iface t v)=[.iface t v]:=rfl
@[simp]theorem cells_nilI  : AV.cells (.nilI)=[.nilI]:=rfl
section
variable {α:Type} {x y:α} {r vs:List α} {i o n:Nat}
@[simp]theorem getL_c0:qca (x::r) 0=some x:=rfl
@[simp]theorem getL_cS:qca (x::r) (i+1)=qca r i:=rfl
@[simp]theorem getL_nil:qca ([]:List α) i=none:=rfl
@[simp]theorem takeL_0:qe8 0 r=some []:=by unfold qe8;rfl
@[simp]theorem takeL_cS:qe8 (n+1) (x::r)=(qe8 n r).bind fun r'=>some (x::r'):=rfl
@[simp]theorem overL_n:qhi [] r=some r:=by unfold qhi;rfl
@[simp]theorem overL_c:qhi (y::vs) (x::r)=(qhi vs r).bind fun r'=>some (y::r'):=rfl
@[simp]theorem layL_0:qjh vs 0 (x::r)=qhi vs (x::r):=rfl
@[simp]theorem layL_n0:qjh vs 0 []=qhi vs []:=rfl
@[simp]theorem layL_cS:qjh vs (o+1) (x::r)=(qjh vs o r).bind fun r'=>some (x::r'):=rfl
@[simp]theorem subL_0:qf1 0 n (x::r)=qe8 n (x::r):=rfl
@[simp]theorem subL_cS:qf1 (o+1) n (x::r)=qf1 o n r:=rfl
@[simp]theorem subL_nn:qf1 o 0 r=some []:=by unfold qf1;simp
end
theorem qpb{H H':Heap} {sz:Nat} {v:AV} (h:qa2 v=true):qhd H sz v=qhd H' sz v:=by cases v<;>first|rfl|simp[qa2]at h
theorem qiz{H H':Heap}:∀{ss:List Nat} {l:List AV},qa3 l=true->qjf H ss l=qjf H' ss l
 |_,[],_=>rfl
 |ss,a::r,h=>by simp only[qa3,Bool.and_eq_true]at h;simp only[qjf,qpb (H':=H') h.1,qiz (H':=H') h.2]
theorem qxp{H H':Heap} {ss:List Nat} {v:AV} (h:qa2 v=true):qcy H ss v=qcy H' ss v:=by
 unfold qcy;split
 ·rfl
 ·rename_i hno;clear hno;cases v
  case agg cs=>simp only[qiz (H':=H') (show qa3 cs=true from h)]
  case func fn a c=>
   simp only[qa2,Bool.and_eq_true]at h;simp only[qiz (H':=H') h.1,qiz (H':=H') h.2]
  all_goals exact qpb h
theorem qpa{H H':Heap}:∀{ss:List (List Nat)} {l:List AV},qa3 l=true->qbb H ss l=qbb H' ss l
 |_,[],_=>rfl
 |ss,a::r,h=>by simp only[qa3,Bool.and_eq_true]at h;simp only[qbb,qxp (H':=H') h.1,qpa (H':=H') h.2]
section
variable {P:Program} {α:Type}
def mkE(f:FuncId) (ss:List (List Nat)) (enc:α->List AV) (pre:α->Prop) (post:α->AV) (h:∀x,pre x->CallAt ⟨P,fun _=>[],fun _=>none⟩ f (enc x) ⟨0,[]⟩ (post x) ⟨0,[]⟩):Entry P:=
 ⟨f,qjs ss (pfOf enc pre post),qxq (pfOf_ok h) ss⟩
theorem qfa{C:Ctx} {f:FuncId} {g:List AV->Heap->Option (AV × Heap)} (h:C.summ f=some g) (args:List AV) (H:Heap):qat C (.fn f) args H=g args H:=by unfold qat;simp only[h]
variable {keep:FuncId->List Nat} {T:List (Entry P)} {f:FuncId} {ss:List (List Nat)} {enc:α->List AV} {pre:α->Prop} {post:α->AV} {h:∀x,pre x->CallAt ⟨P,fun _=>[],fun _=>none⟩ f (enc x) ⟨0,[]⟩ (post x) ⟨0,[]⟩}
theorem qee(hT:qa9 f T=some (mkE f ss enc pre post h).g) (inj:∀x y,enc x=enc y->x=y) (x:α) (hx:pre x) {args:List AV} (hp:qa3 args=true) (ht:qbb ⟨0,[]⟩ ss args=some (enc x)) (H:Heap):qat (mkC P keep T) (.fn f) args H=some (post x,H):=by rw[qfa (g:=(mkE f ss enc pre post h).g) hT];show qjs ss (pfOf enc pre post) args H=_;unfold qjs;rw[if_pos hp,ht];simp only[Option.bind_some,zak inj hx]
theorem mkE_thaw(hT:qa9 f T=some (mkE f ss enc pre post h).g) (inj:∀x y,enc x=enc y->x=y) (x:α) (hx:pre x) (hs:qf7 (post x)=true) {args:List AV} {H:Heap} (hp:qa3 args=false) (ht:qbb H ss args=some (enc x)) :
  qat (mkC P keep T) (.fn f) args H=some (post x,H):=by
 rw[qfa (g:=(mkE f ss enc pre post h).g) hT];show qjs ss (pfOf enc pre post) args H=_;unfold qjs;rw[hp,if_neg (by simp),ht];simp only[Option.bind_some,zak inj hx,hs,if_true]
theorem qb2(hT:qa9 f T=some (mkE f ss enc pre post h).g) (inj:∀x y,enc x=enc y->x=y) (x:α) (hx:pre x) (hs:qf7 (post x)=true) {args:List AV} {H:Heap} (ht:qbb H ss args=some (enc x)) :
  qat (mkC P keep T) (.fn f) args H=some (post x,H):=by
 cases hp:qa3 args with
 |true=>exact qee hT inj x hx hp (by rw[<- ht];exact qpa hp) H
 |false=>exact mkE_thaw hT inj x hx hs hp ht
end
section
variable {H:Heap} {ss:List Nat}
@[simp]theorem thawL_nil{ss:List (List Nat)}:qbb H ss []=some []:=by unfold qbb;rfl
@[simp]theorem thawL_cons{ss:List (List Nat)} {a:AV} {r:List AV}:qbb H ss (a::r)=(qcy H (ss.headD []) a).bind fun a'=>(qbb H ss.tail r).bind fun r'=>some (a'::r'):=by
 conv=>lhs;unfold qbb
theorem qaj{v:AV} (h:okV v=true):qcy H ss v=some v:=by unfold qcy;rw[if_pos h]
@[simp]theorem thawA_str(s:List UInt8):qcy H ss (.str s)=some (.str s):=qaj rfl
@[simp]theorem thawA_int(k:IntKind) (n:Int):qcy H ss (.int k n)=some (.int k n):=qaj rfl
@[simp]theorem thawA_bool(b:Bool):qcy H ss (.bool b)=some (.bool b):=qaj rfl
@[simp]theorem thawA_fslc(n:Nat) (es:List AV):qcy H ss (.fslc n es)=some (.fslc n es):=qaj rfl
theorem qrz{f:FuncId} {b o:Nat} {cs:List AV} (h:H.get b=some (.cells cs)) (hp:qa3 cs=true):qcy H ss (.func (.func f) [] [.ptr b o])=some (.func (.func f) [] [.fptr cs o]):=by simp[qcy,okV,qa2,qa3,qjf,qhd,h,hp]
theorem qq1{sz:Nat} (h1:1 < sz):∀{es:List AV},(∀e,e∈es->∃cs,e=.agg cs/\cs.length=sz)->chunk sz es.length (qa8 es)=es
 |[],_=>rfl
 |e::r,h=>by
  obtain⟨cs,rfl,hc⟩:=h e (by simp);have hne:¬ sz=1:=by omega
  simp only[List.length_cons,chunk,qa8,zci,hne,if_false];rw[List.take_append_of_le_length (by omega),List.take_of_length_le (by omega),List.drop_append_of_le_length (by omega),List.drop_of_length_le (by omega),List.nil_append,qq1 h1 fun e he=>h e (by simp[he])]
theorem qtm:∀{es:List AV},(∀e,e∈es->e.cells=[e])->chunk 1 es.length (qa8 es)=es
 |[],_=>rfl
 |e::r,h=>by have h0:=h e (by simp);simp only[List.length_cons,chunk,qa8,h0,if_true,List.cons_append,List.nil_append,List.headD_cons,List.drop_succ_cons,List.drop_zero];rw[qtm fun e he=>h e (by simp[he])]
theorem qje{sz:Nat}:∀{es:List AV},(∀e,e∈es->e.cells.length=sz)->qfl sz es=true
 |[],_=>rfl
 |e::r,h=>by unfold qfl;rw[h e (by simp),Nat.beq_refl];exact qje fun e he=>h e (by simp[he])
theorem qr8{sz:Nat}:∀{es:List AV},(∀e,e∈es->e.cells.length=sz)->(qa8 es).length=es.length * sz
 |[],_=>by simp[qa8]
 |e::r,h=>by have ih:=qr8 (es:=r) fun e he=>h e (List.mem_cons_of_mem _ he);simp only[qa8,List.length_append,List.length_cons,h e (by simp),ih];rw[Nat.add_mul];omega
theorem qog:∀{es:List AV},(∀e,e∈es->qa3 e.cells=true)->qa3 (qa8 es)=true
 |[],_=>rfl
 |e::r,h=>by have ih:=qog (es:=r) fun e he=>h e (List.mem_cons_of_mem _ he);simp only[qa8,qdn,h e (by simp),ih,Bool.and_self]
structure Elems (sz:Nat) (es:List AV):Prop where
 sz0:sz≠0
 all:∀e,e∈es->e.cells.length=sz/\qa3 e.cells=true/\(sz=1->e.cells=[e])/\(sz≠1->∃cs,e=.agg cs)
theorem Elems.chunk{sz:Nat} {es:List AV} (h:Elems sz es):Proofs.YtnfdakclfmchfaaGreat.chunk sz es.length (qa8 es)=es:=by
 by_cases h1:sz=1
 ·subst h1;exact qtm fun e he=>(h.all e he).2.2.1 rfl
 ·have:=h.sz0;refine qq1 (by omega) fun e he=>?_;obtain⟨cs,rfl⟩:=(h.all e he).2.2.2 h1;exact⟨cs,rfl,(h.all _ he).1⟩
theorem qkk{sz:Nat} {r:List Nat} {b:Nat} {cap:Cap} {es:List AV} (he:Elems sz es) (h:H.get b=some (.cells (qa8 es))):qcy H (sz::r) (.slc b 0 es.length cap)=some (.fslc sz es):=by
 have hl:=qr8 fun e h=>(he.all e h).1;have hp:=qog fun e h=>(he.all e h).2.1;have hz:=qje fun e h=>(he.all e h).1;have hs:qf1 0 (es.length * sz) (qa8 es)=some (qa8 es):=by unfold qf1;rw[List.drop_zero,<- hl,qfd]
 unfold qcy;rw[if_neg (by simp[okV,qa2])];simp only[qhd,List.headD_cons,h,hp,if_true,hs,he.chunk,hz,and_self]
end
theorem CallAt.thaw{C:Ctx} {f:FuncId} {args args':List AV} {v:AV} (h:CallAt C f args' ⟨0,[]⟩ v ⟨0,[]⟩) (hs:qf7 v=true) (ss:List (List Nat)) {H:Heap} (ht:qbb H ss args=some args'):CallAt C f args H v H:=
 fun ρ w xs sm hx=>h.borrow hs (fun hn=>qnq hn) (qeu sm.nodup ht) ρ w xs sm hx
theorem qak{H:Heap} {u v:AV} (hp:qa2 u=true) (h:u=v):∃σ Φ,qap σ Φ u v/\FitH 0 σ Φ H ⟨0,[]⟩:=⟨[],[],by rw[<- h];exact qbd hp,FitH.empty⟩
theorem qbj{i n:Nat} (h:i < n):idx (i:Int) n=some i:=by
 have:Nat.blt i n=true:=by simpa using h
 show (match Nat.blt i n with|true=>some i|false=>none)=_;rw[this]
theorem qgn{α β:Type} {f:α->β}:∀{l:List α} {i:Nat} (h:i < l.length),qca (l.map f) i=some (f l[i])
 |[],i,h=>absurd h (Nat.not_lt_zero i)
 |x::r,0,_=>rfl
 |x::r,i+1,h=>by have:=qgn (f:=f) (l:=r) (i:=i) (by simpa using h);simpa[qca]using this
theorem qe2{α:Type}:∀{l:List α} {i:Nat} (h:i < l.length),qca l i=some l[i]
 |[],i,h=>absurd h (Nat.not_lt_zero i)
 |x::r,0,_=>rfl
 |x::r,i+1,h=>by have:=qe2 (l:=r) (i:=i) (by simpa using h);simpa[qca]using this
theorem qbs{n:Int} (h1 : -1000000000000<=n) (h2:n<=1000000000000):wr .i64 n=some n:=by have:zbt n=true:=fits64_iff.2 (by omega);simp[wr,this]
theorem qbo{i:Nat} (h:i<=1000000000):wr .i64 ((i:Int)+1)=some ((i+1:Nat):Int):=by rw[qbs (by omega) (by omega)];simp
theorem qhe{α:Type}:∀{n:Nat} {l:List α},n<=l.length->qe8 n l=some (l.take n)
 |0,_,_=>rfl
 |n+1,[],h=>by simp at h
 |n+1,x::r,h=>by simp[qe8,qhe (n:=n) (l:=r) (by simpa using h)]
theorem qj0{α:Type} {o n:Nat} {l:List α} (h:o+n<=l.length):qf1 o n l=some ((l.drop o).take n):=by unfold qf1;exact qhe (by simp;omega)
section
variable {P:Program} {t:TypeId} {k:IntKind} {a b:Int} {x y:List UInt8}
@[simp]theorem bin_add:qda P .add t (.int k a) (.int k b)=(wr k (a+b)).bind fun n=>some (.int k n):=by simp[qda,qmo]
@[simp]theorem bin_sub:qda P .sub t (.int k a) (.int k b)=(wr k (a - b)).bind fun n=>some (.int k n):=by simp[qda,qmo]
@[simp]theorem bin_mul:qda P .mul t (.int k a) (.int k b)=(wr k (a * b)).bind fun n=>some (.int k n):=by simp[qda,qmo]
@[simp]theorem bin_lss:qda P .lss t (.int k a) (.int k b)=some (.bool (decide (a < b))):=by simp[qda,qmo]
@[simp]theorem bin_leq:qda P .leq t (.int k a) (.int k b)=some (.bool (decide (a<=b))):=by simp[qda,qmo]
@[simp]theorem bin_gtr:qda P .gtr t (.int k a) (.int k b)=some (.bool (decide (b < a))):=by simp[qda,qmo]
@[simp]theorem bin_geq:qda P .geq t (.int k a) (.int k b)=some (.bool (decide (b<=a))):=by simp[qda,qmo]
@[simp]theorem bin_eql:qda P .eql t (.int k a) (.int k b)=some (.bool (decide (a=b))):=by simp only[qda,qmo,if_true];congr 2
@[simp]theorem bin_neq:qda P .neq t (.int k a) (.int k b)=some (.bool (!decide (a=b))):=by simp only[qda,qmo,if_true,bne];congr 3
@[simp]theorem un_not{c:Bool}:unA .not (.bool c)=some (.bool !c):=rfl
@[simp]theorem un_neg:unA .neg (.int k a)=(wr k (0 - a)).bind fun m=>some (.int k m):=rfl
@[simp]theorem bin_seql:qda P .eql t (.str x) (.str y)=some (.bool (decide (x=y))):=by simp[qda,qs3,ql7]
@[simp]theorem bin_sneq:qda P .neq t (.str x) (.str y)=some (.bool (!decide (x=y))):=by simp[qda,qs3,ql7]
end
set_option maxRecDepth 100000
theorem zN:type_of% (And.intro @ofV.eq_1 (And.intro @ofV.eq_2 (And.intro @ofV1.eq_1 (And.intro @ofV1.eq_2 (And.intro @ofV1.eq_3 (And.intro @ofV1.eq_4 (And.intro @ofV1.eq_5 (And.intro @ofV1.eq_6 (And.intro @ofV1.eq_7 (And.intro @ofV1.eq_8 (And.intro @ofV1.eq_9 (And.intro @ofV1.eq_10 (And.intro @ofV1.eq_11 (And.intro @writeVar.eq_1 (And.intro @writeVar.eq_2 (And.intro @writeCells.eq_1 (And.intro @readCells.eq_1 (And.intro @allSingle.eq_1 (And.intro @allSingle.eq_2 (And.intro @AV.single.eq_1 (And.intro @AV.single.eq_2 (And.intro @AV.single.eq_3 (And.intro @AV.single.eq_4 (And.intro @getFs.eq_1 (And.intro @getFs.eq_2 (And.intro @getF.eq_1 (And.intro @getF.eq_2 (And.intro @setFs.eq_1 (And.intro @setFs.eq_2 (And.intro @setF.eq_1 (And.intro @setF.eq_2 (And.intro @Heap.get.eq_1 (And.intro @Heap.set.eq_1 (And.intro @Heap.new.eq_1 (And.intro @Heap.kill.eq_1 (And.intro @killF.eq_1 (And.intro @killF.eq_2 (And.intro @pushF.eq_1 (And.intro @pushF.eq_2 (And.intro @sliceParts.eq_1 (And.intro @fillA.eq_1 (And.intro @fillA.eq_2 (And.intro @replL.eq_1 (@replL.eq_2)))))))))))))))))))))))))))))))))))))))))))):=And.intro @ofV.eq_1 (And.intro @ofV.eq_2 (And.intro @ofV1.eq_1 (And.intro @ofV1.eq_2 (And.intro @ofV1.eq_3 (And.intro @ofV1.eq_4 (And.intro @ofV1.eq_5 (And.intro @ofV1.eq_6 (And.intro @ofV1.eq_7 (And.intro @ofV1.eq_8 (And.intro @ofV1.eq_9 (And.intro @ofV1.eq_10 (And.intro @ofV1.eq_11 (And.intro @writeVar.eq_1 (And.intro @writeVar.eq_2 (And.intro @writeCells.eq_1 (And.intro @readCells.eq_1 (And.intro @allSingle.eq_1 (And.intro @allSingle.eq_2 (And.intro @AV.single.eq_1 (And.intro @AV.single.eq_2 (And.intro @AV.single.eq_3 (And.intro @AV.single.eq_4 (And.intro @getFs.eq_1 (And.intro @getFs.eq_2 (And.intro @getF.eq_1 (And.intro @getF.eq_2 (And.intro @setFs.eq_1 (And.intro @setFs.eq_2 (And.intro @setF.eq_1 (And.intro @setF.eq_2 (And.intro @Heap.get.eq_1 (And.intro @Heap.set.eq_1 (And.intro @Heap.new.eq_1 (And.intro @Heap.kill.eq_1 (And.intro @killF.eq_1 (And.intro @killF.eq_2 (And.intro @pushF.eq_1 (And.intro @pushF.eq_2 (And.intro @sliceParts.eq_1 (And.intro @fillA.eq_1 (And.intro @fillA.eq_2 (And.intro @replL.eq_1 (@replL.eq_2)))))))))))))))))))))))))))))))))))))))))))
theorem zR:type_of% (And.intro @refs.eq_1 (And.intro @refs.eq_2 (And.intro @refs.eq_3 (And.intro @refs.eq_4 (And.intro @refs.eq_5 (And.intro @refs.eq_6 (And.intro @refs.eq_7 (And.intro @refs.eq_8 (And.intro @refs.eq_9 (And.intro @refs.eq_10 (And.intro @refs.eq_11 (@Heap.ready.eq_1)))))))))))):=And.intro @refs.eq_1 (And.intro @refs.eq_2 (And.intro @refs.eq_3 (And.intro @refs.eq_4 (And.intro @refs.eq_5 (And.intro @refs.eq_6 (And.intro @refs.eq_7 (And.intro @refs.eq_8 (And.intro @refs.eq_9 (And.intro @refs.eq_10 (And.intro @refs.eq_11 (@Heap.ready.eq_1)))))))))))
theorem zS:type_of% (And.intro zN zR):=And.intro zN zR
theorem zQ:type_of% (And.intro @retVal.eq_1 (And.intro @retVal.eq_2 (And.intro @retVal.eq_3 (And.intro @oneOr.eq_1 @oneOr.eq_2)))):=And.intro @retVal.eq_1 (And.intro @retVal.eq_2 (And.intro @retVal.eq_3 (And.intro @oneOr.eq_1 @oneOr.eq_2)))
theorem zG:type_of% (And.intro @getFs.eq_1 (And.intro @getFs.eq_2 (And.intro @getF.eq_1 (And.intro @getF.eq_2 @Heap.get.eq_1)))):=And.intro @getFs.eq_1 (And.intro @getFs.eq_2 (And.intro @getF.eq_1 (And.intro @getF.eq_2 @Heap.get.eq_1)))
