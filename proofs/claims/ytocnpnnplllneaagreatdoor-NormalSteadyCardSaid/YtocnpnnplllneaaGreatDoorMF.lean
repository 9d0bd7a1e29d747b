/- The equations that every walk uses, in one. No condition. -/
import Derived.Test.YtocnpnnplllneaaGreatDoorMD
namespace Go.Proofs.YtocnpnnplllneaaGreatDoor
noncomputable section
set_option linter.unusedSimpArgs false
set_option linter.unusedVariables false
open Go Go.RowKit
theorem js:type_of% @List.flatten_nil:=@List.flatten_nil
theorem jz:type_of% @List.take_of_length_le:=@List.take_of_length_le
theorem ye:type_of% @List.map_nil:=@List.map_nil
theorem yp:type_of% @List.getElem_of_mem:=@List.getElem_of_mem
theorem yt:type_of% @List.take_append_drop:=@List.take_append_drop
theorem y3:type_of% @List.drop_append_of_le_length:=@List.drop_append_of_le_length
theorem yE:type_of% @List.set_eq_take_append_cons_drop:=@List.set_eq_take_append_cons_drop
theorem yM:type_of% @List.map_congr_left:=@List.map_congr_left
theorem yQ:type_of% @Bool.and_assoc:=@Bool.and_assoc
def vH(H:Heap):Option AV->Option (AV × Heap)
 |some v=>some (v,H)
 |none=>none
def b2{α:Type} (f:AV->AV->Option α):Option AV->Option AV->Option α
 |some x,some y=>f x y
 |_,_=>none
def b3{α:Type} (f:AV->AV->AV->Option α):Option AV->Option AV->Option AV->Option α
 |some x,some y,some z=>f x y z
 |_,_,_=>none
def b1{α:Type} (f:AV->Option α):Option AV->Option α
 |some x=>f x
 |none=>none
def stV:Option Heap->Option (AV × Heap)
 |some H=>some (.undef,H)
 |none=>none
def clrV:Option Heap->Option (AV × Heap)
 |some H=>some (.tup [],H)
 |none=>none
def zdb(H:Heap):Option AV->Option AV->Option AV->Option (AV × Heap)
 |some (.bool true),a,_=>vH H a
 |some (.bool false),_,b=>vH H b
 |_,_,_=>none
def mkF(fn:Go.Fn) (H:Heap):Option (List AV)->Option (List AV)->Option (AV × Heap)
 |some a,some b=>some (.func fn a b,H)
 |_,_=>none
def slV(P:Program) (H:Heap) (t:TypeId):Option AV->Option (Option AV)->Option (Option AV)->Option (Option AV)->Option AV
 |some x,some lo,some hi,some mx=>qee P H t x lo hi mx
 |_,_,_,_=>none
def faV(P:Program) (t:TypeId) (i:Nat):Option AV->Option AV
 |some x=>qc2 P t x i
 |none=>none
def fdV(P:Program) (t:TypeId) (i:Nat):Option AV->Option AV
 |some x=>qe1 P t x i
 |none=>none
def luV(P:Program) (H:Heap) (t:TypeId) (ok:Bool):Option AV->Option AV->Option AV
 |some m,some k=>qk0 P H t m k ok
 |_,_=>none
def exV(i:Nat):Option AV->Option AV
 |some (.tup vs)=>qcy vs i
 |_=>none
def ncV(H:Heap):Option AV->Option (AV × Heap)
 |some (.ptr b o)=>some (.ptr b o,H)
 |some (.fptr cs o)=>some (.fptr cs o,H)
 |some (.func (.func f) a b)=>some (.func (.func f) a b,H)
 |some (.func (.yield f) a b)=>some (.func (.yield f) a b,H)
 |some (.yld b)=>some (.yld b,H)
 |_=>none
def bltV(P:Program) (H:Heap) (b:Builtin) (ts:Array TypeId):Option (List AV)->Option (AV × Heap)
 |some args=>qc5 P H b ts args
 |none=>none
def clV(call:qcj) (H:Heap):Option AV->Option (List AV)->Option (AV × Heap)
 |some (.func (.func f) first cap),some args=>call (.fn f) (first++args++cap) H
 |some (.yld b),some args=>call (.yl b) args H
 |_,_=>none
def alV(P:Program) (H:Heap) (t:TypeId):Option (AV × Heap):=(qc1 P t).bind fun z=>(qcg P t).bind fun n=>match Nat.beq z.cells.length n with
  |true=>some (.ptr H.n 0,H.new (match memT t objs with
   |true=>.obj t z.cells
   |false=>.cells z.cells))
  |false=>none
def rgV(H:Heap):Option TypeDesc->Option AV->Option (AV × Heap)
 |some .string,some (.str l)=>some (.ptr H.n 0,H.new (.iter l 0))
 |some (.map _ _),some (.map b)=>zft H b
 |_,_=>none
def nxV(H:Heap) (isS:Bool):Option AV->Option (AV × Heap)
 |some (.ptr b 0)=>match isS with
  |true=>qs8 H b
  |false=>none
 |_=>none
def boxV(H:Heap):Option AV->Option (AV × Heap)
 |some x=>match allSingle x.cells with
  |true=>some (.ptr H.n 0,H.new (.cells x.cells))
  |false=>none
 |none=>none
def bsW(P:Program) (H:Heap) (d:Option Tmp) (t:TypeId) (len:Nat):Option (List AV)->Option (AV × Heap)
 |some cs=>some (.slc H.n 0 len (.ex len),H.new (rowB P t d cs))
 |none=>none
def bsV(P:Program) (H:Heap) (d:Option Tmp) (t:TypeId) (len:Nat):Option (List (Nat × AV))->Option (AV × Heap)
 |some ps=>bsW P H d t len (sliceParts P t len ps)
 |none=>none
def bldV(P:Program) (t:TypeId):Option (List (Nat × AV))->Option AV
 |some ps=>qgq P t ps
 |none=>none
def consO{α:Type}:Option α->Option (List α)->Option (List α)
 |some x,some r=>some (x::r)
 |_,_=>none
def consP(i:Nat):Option AV->Option (List (Nat × AV))->Option (List (Nat × AV))
 |some x,some r=>some ((i,x)::r)
 |_,_=>none
def putV(s:St) (d:Option Tmp):Option (AV × Heap)->Option St
 |some (v,H)=>St.put { s with H:=H } d v
 |none=>none
def gd2(w:Bool):Option AV->Option Bool
 |some (.bool b)=>some (b == w)
 |some (.tup [])=>some false
 |_=>none
def gd1(s:St) (w:Bool):Option Oper->Option Bool
 |some p=>match p.dst with
  |some t=>gd2 w (s.get t)
  |none=>none
 |none=>none
def qsd(C:Ctx) (call:qcj) (s:St) (o:Oper):Option Bool->Option St
 |some true=>putV s o.dst (qae C call o s)
 |some false=>s.put o.dst (.tup [])
 |none=>none
def qjn(C:Ctx) (call:qcj) (ops:Array Oper):Option St->List Oper->Option St
 |some s,l=>qff C call ops l s
 |none,_=>none
def lnV(H:Heap):Option Nat->Option (AV × Heap)
 |some n=>some (.int .i64 n,H)
 |none=>none
def apV(P:Program) (H:Heap) (s x:AV):Option TypeDesc->Option TypeDesc->Option (AV × Heap)
 |some (.slice e),some (.slice _)=>qby P H e s x
 |some (.slice e),some .string=>qby P H e s x
 |some (.slice e),some (.int _)=>growA P H e s x
 |_,_=>none
def cpV(P:Program) (H:Heap) (s x:AV):Option TypeDesc->Option (AV × Heap)
 |some (.slice e)=>copyA P H e s x
 |_=>none
def frV(s:St):Option AV->St
 |some (.ptr b 0)=>match s.H.get b with
  |some (.cells [_])=>s
  |_=>{ s with H:=s.H.kill b }
 |_=>s
@[simp]theorem qty(cs:List AV):(Blk.cells cs).rd=some cs:=rfl
@[simp]theorem rd_obj(t:TypeId) (cs:List AV):(Blk.obj t cs).rd=some cs:=rfl
@[simp]theorem rd_buf(t:TypeId) (fz:Nat) (cs:List AV):(Blk.buf t fz cs).rd=some cs:=rfl
@[simp]theorem rd_map(es:List (AV × AV)):(Blk.map es).rd=none:=rfl
@[simp]theorem wt_cells(o:Nat) (cs:List AV):(Blk.cells cs).wt o=some cs:=rfl
@[simp]theorem wt_obj(o:Nat) (t:TypeId) (cs:List AV):(Blk.obj t cs).wt o=some cs:=rfl
@[simp]theorem wt_map(o:Nat) (es:List (AV × AV)):(Blk.map es).wt o=none:=rfl
@[simp]theorem re_cells(cs cs':List AV):(Blk.cells cs).re cs'=.cells cs':=rfl
@[simp]theorem re_obj(t:TypeId) (cs cs':List AV):(Blk.obj t cs).re cs'=.obj t cs':=rfl
@[simp]theorem re_buf(t:TypeId) (fz:Nat) (cs cs':List AV):(Blk.buf t fz cs).re cs'=.buf t fz cs':=rfl
@[simp]theorem qt3(cs cs':List AV) (e:TypeId) (o:Nat):goOn (.cells cs) e o cs'=some (.cells cs'):=rfl
section
variable {C:Ctx} {call:qcj} {ops:Array Oper} {s:St} {P:Program} {H H':Heap} {d:Option Tmp} {ty:TypeId} {pos:String} {af:Array Edge} {g:Option (Nat × Bool)} {t u:TypeId} {a b c x y z v w:AV} {f fo l m k:Operand} {n i j:Nat}
@[simp]theorem vH_some:vH H (some v)=some (v,H):=rfl
@[simp]theorem zjq{α:Type} {f:AV->Option α}:b1 f (some x)=f x:=rfl
@[simp]theorem qvb{α:Type} {f:AV->AV->Option α}:b2 f (some x) (some y)=f x y:=rfl
@[simp]theorem zjp{α:Type} {f:AV->AV->AV->Option α}:b3 f (some x) (some y) (some z)=f x y z:=rfl
@[simp]theorem stV_some:stV (some H)=some (.undef,H):=rfl
@[simp]theorem clrV_some:clrV (some H)=some (.tup [],H):=rfl
@[simp]theorem pickV_t{p q:Option AV}:zdb H (some (.bool true)) p q=vH H p:=rfl
@[simp]theorem pickV_f{p q:Option AV}:zdb H (some (.bool false)) p q=vH H q:=rfl
@[simp]theorem mkF_some{fn:Go.Fn} {p q:List AV}:mkF fn H (some p) (some q)=some (.func fn p q,H):=rfl
@[simp]theorem slV_some{lo hi mx:Option AV}:slV P H t (some x) (some lo) (some hi) (some mx)=qee P H t x lo hi mx:=rfl
@[simp]theorem faV_some:faV P t i (some x)=qc2 P t x i:=rfl
@[simp]theorem fdV_some:fdV P t i (some x)=qe1 P t x i:=rfl
@[simp]theorem luV_some{ok:Bool}:luV P H t ok (some x) (some y)=qk0 P H t x y ok:=rfl
@[simp]theorem exV_some{vs:List AV}:exV i (some (.tup vs))=qcy vs i:=rfl
@[simp]theorem ncV_ptr{o:Nat}:ncV H (some (.ptr n o))=some (.ptr n o,H):=rfl
@[simp]theorem ncV_fptr{cs:List AV} {o:Nat}:ncV H (some (.fptr cs o))=some (.fptr cs o,H):=rfl
@[simp]theorem ncV_func{f:FuncId} {p q:List AV}:ncV H (some (.func (.func f) p q))=some (.func (.func f) p q,H):=rfl
@[simp]theorem bltV_some{bu:Builtin} {ts:Array TypeId} {args:List AV}:bltV P H bu ts (some args)=qc5 P H bu ts args:=rfl
@[simp]theorem clV_some{f:FuncId} {first cap args:List AV}:clV call H (some (.func (.func f) first cap)) (some args)=call (.fn f) (first++args++cap) H:=rfl
@[simp]theorem clV_yld{b:Nat} {args:List AV}:clV call H (some (.yld b)) (some args)=call (.yl b) args H:=rfl
@[simp]theorem boxV_some:boxV H (some x)=match allSingle x.cells with
  |true=>some (.ptr H.n 0,H.new (.cells x.cells))
  |false=>none:=rfl
@[simp]theorem bsW_some{cs:List AV} {d:Option Tmp}:bsW P H d t n (some cs)=some (.slc H.n 0 n (.ex n),H.new (rowB P t d cs)):=rfl
@[simp]theorem memP_nil{d:Nat}:memP n d []=false:=by simp only[memP]
@[simp]theorem memP_cons{d:Nat} {m:Nat × Nat} {r:List (Nat × Nat)}:memP n d (m::r)=((m.1 == n && m.2 == d) || memP n d r):=by
 have e:∀a b:Nat,Nat.beq a b=(a == b):=fun a b=>by
  cases h:Nat.beq a b
  ·cases h2:(a == b)
   ·rfl
   ·rw[eq_of_beq h2,jD]at h;cases h
  ·rw[Nat.eq_of_beq_eq_true h];simp
 show (match Nat.beq m.1 n && Nat.beq m.2 d with|true=>true|false=>memP n d r)=_;rw[e,e];cases (m.1 == n && m.2 == d)<;>rfl
@[simp]theorem memB{d:Nat}:memP n d bufs=memP n d []:=by simp only[bufs]
@[simp]theorem rowB_none{cs:List AV}:rowB P t none cs=.cells cs:=rfl
@[simp]theorem rowB_no{cs:List AV} {d:Nat} (h:memP t d bufs=false):rowB P t (some d) cs=.cells cs:=by unfold rowB;simp only[h]
@[simp]theorem bsV_some{ps:List (Nat × AV)} {d:Option Tmp}:bsV P H d t n (some ps)=bsW P H d t n (sliceParts P t n ps):=rfl
@[simp]theorem zjg{ps:List (Nat × AV)}:bldV P t (some ps)=qgq P t ps:=rfl
@[simp]theorem consO_some{α:Type} {x:α} {r:List α}:consO (some x) (some r)=some (x::r):=rfl
@[simp]theorem consP_some{r:List (Nat × AV)}:consP i (some x) (some r)=some ((i,x)::r):=rfl
@[simp]theorem putV_some:putV s d (some (v,H))=St.put { s with H:=H } d v:=rfl
@[simp]theorem gd2_bool{w p:Bool}:gd2 w (some (.bool p))=some (p == w):=rfl
@[simp]theorem gd2_tup{w:Bool}:gd2 w (some (.tup []))=some false:=rfl
@[simp]theorem gd1_some{w:Bool} {op:Op}:gd1 s w (some ⟨some t,op,ty,pos,af,g⟩)=gd2 w (s.get t):=rfl
@[simp]theorem gate_t{o:Oper}:qsd C call s o (some true)=putV s o.dst (qae C call o s):=rfl
@[simp]theorem gate_f{o:Oper}:qsd C call s o (some false)=s.put o.dst (.tup []):=rfl
@[simp]theorem thenOps_some{l:List Oper}:qjn C call ops (some s) l=qff C call ops l s:=rfl
@[simp]theorem lnV_some:lnV H (some n)=some (.int .i64 n,H):=rfl
@[simp]theorem apV_ss{e e':TypeId}:apV P H x y (some (.slice e)) (some (.slice e'))=qby P H e x y:=rfl
@[simp]theorem apV_gr{e:TypeId} {k:IntKind}:apV P H x y (some (.slice e)) (some (.int k))=growA P H e x y:=rfl
@[simp]theorem apV_st{e:TypeId}:apV P H x y (some (.slice e)) (some .string)=qby P H e x y:=rfl
@[simp]theorem cpV_s{e:TypeId}:cpV P H x y (some (.slice e))=copyA P H e x y:=rfl
@[simp]theorem frV_ptr:frV s (some (.ptr n 0))=match s.H.get n with
  |some (.cells [_])=>s
  |_=>{ s with H:=s.H.kill n }:=rfl
@[simp]theorem frV_undef:frV s (some .undef)=s:=rfl
@[simp]theorem frV_none:frV s none=s:=rfl
@[simp]theorem opnds_c{r:List Operand}:qg5 s (l::r)=consO (qc0 s l) (qg5 s r):=by rw[zdd];cases qc0 s l<;>cases qg5 s r<;>rfl
@[simp]theorem opndP_n:qi6 s []=some []:=rfl
@[simp]theorem opndP_c{r:List (Nat × Operand)}:qi6 s ((i,l)::r)=consP i (qc0 s l) (qi6 s r):=by
 show ((qc0 s l).bind fun v=>(qi6 s r).bind fun vs=>some ((i,v)::vs))=_;cases qc0 s l with
 |none=>rfl
 |some v=>cases qi6 s r<;>rfl
@[simp]theorem opndO_n:qji s none=some none:=rfl
theorem opndO_s:qji s (some l)=(qc0 s l).map some:=by show ((qc0 s l).bind fun v=>some (some v))=_;cases qc0 s l<;>rfl
@[simp]theorem ops_n:qff C call ops [] s=some s:=rfl
@[simp]theorem ops_c{o:Oper} {r:List Oper}:qff C call ops (o::r) s=qjn C call ops (qi4 C call ops o (qbw s o)) r:=by rw[qxm];cases qi4 C call ops o (qbw s o)<;>rfl
@[simp]theorem evo_n{op:Op}:qi4 C call ops ⟨d,op,ty,pos,af,none⟩ s=putV s d (qae C call ⟨d,op,ty,pos,af,none⟩ s):=by unfold qi4 qc9;simp only[jb];cases qae C call ⟨d,op,ty,pos,af,none⟩ s<;>rfl
@[simp]theorem evo_g{op:Op} {wt:Bool}:qi4 C call ops ⟨d,op,ty,pos,af,some (j,wt)⟩ s=qsd C call s ⟨d,op,ty,pos,af,some (j,wt)⟩ (gd1 s wt ops[j]?):=by
 unfold qi4 qc9;simp only;cases ops[j]? with
 |none=>rfl
 |some p=>
  simp only[jb,gd1];cases p.dst with
  |none=>rfl
  |some t=>
   simp only[jb];cases s.get t with
   |none=>rfl
   |some v=>
    have key:∀gg:Option Bool,(gg.bind fun g=>match g with
     |true=>(qae C call ⟨d,op,ty,pos,af,some (j,wt)⟩ s).bind fun r=>St.put { s with H:=r.2 } d r.1
     |false=>s.put d (.tup []))=qsd C call s ⟨d,op,ty,pos,af,some (j,wt)⟩ gg:=fun gg=>by
     cases gg with
     |none=>rfl
     |some q=>
      cases q with
      |false=>rfl
      |true=>simp only[jb,gate_t];cases qae C call ⟨d,op,ty,pos,af,some (j,wt)⟩ s<;>rfl
    simp only[jb];rw[<- key (gd2 wt (some v))];cases v<;>try rfl
    rename_i l;cases l<;>rfl
@[simp]theorem fr_move:qbw s ⟨d,.move l,ty,pos,af,g⟩=s:=rfl
@[simp]theorem fr_assign:qbw s ⟨d,.assign l,ty,pos,af,g⟩=s:=rfl
@[simp]theorem fr_pick:qbw s ⟨d,.pick l m k,ty,pos,af,g⟩=s:=rfl
@[simp]theorem fr_buildSlice{ps:Array (Nat × Operand)}:qbw s ⟨d,.buildSlice t n ps,ty,pos,af,g⟩=s:=rfl
@[simp]theorem fr_makeMap{ro:Option Operand}:qbw s ⟨d,.makeMap t ro,ty,pos,af,g⟩=s:=rfl
@[simp]theorem fr_build{ps:Array (Nat × Operand)}:qbw s ⟨d,.build t ps,ty,pos,af,g⟩=s:=rfl
@[simp]theorem fr_load:qbw s ⟨d,.load t l,ty,pos,af,g⟩=s:=rfl
@[simp]theorem fr_store:qbw s ⟨d,.store t l m,ty,pos,af,g⟩=s:=rfl
@[simp]theorem fr_nilCheck:qbw s ⟨d,.nilCheck l,ty,pos,af,g⟩=s:=rfl
@[simp]theorem fr_binOp{bo:BinOp}:qbw s ⟨d,.binOp bo t l m u,ty,pos,af,g⟩=s:=rfl
@[simp]theorem fr_unOp{uo:UnOp}:qbw s ⟨d,.unOp uo t l,ty,pos,af,g⟩=s:=rfl
@[simp]theorem fr_convert:qbw s ⟨d,.convert t u l,ty,pos,af,g⟩=s:=rfl
@[simp]theorem fr_makeFunc{fn:Go.Fn} {p q:Array Operand}:qbw s ⟨d,.makeFunc fn p q,ty,pos,af,g⟩=s:=rfl
@[simp]theorem fr_makeSlice:qbw s ⟨d,.makeSlice t l m,ty,pos,af,g⟩=s:=rfl
@[simp]theorem fr_slice{lo hi mx:Option Operand}:qbw s ⟨d,.slice t l lo hi mx,ty,pos,af,g⟩=s:=rfl
@[simp]theorem fr_fieldAddr:qbw s ⟨d,.fieldAddr t l i,ty,pos,af,g⟩=s:=rfl
@[simp]theorem fr_field:qbw s ⟨d,.field t l i,ty,pos,af,g⟩=s:=rfl
@[simp]theorem fr_indexAddr:qbw s ⟨d,.indexAddr t l m,ty,pos,af,g⟩=s:=rfl
@[simp]theorem fr_index:qbw s ⟨d,.index t l m,ty,pos,af,g⟩=s:=rfl
@[simp]theorem fr_lookup{ok:Bool}:qbw s ⟨d,.lookup t l m ok,ty,pos,af,g⟩=s:=rfl
@[simp]theorem fr_mapUpdate:qbw s ⟨d,.mapUpdate t l m k,ty,pos,af,g⟩=s:=rfl
@[simp]theorem fr_insert:qbw s ⟨d,.insert t l m k,ty,pos,af,g⟩=s:=rfl
@[simp]theorem fr_extract:qbw s ⟨d,.extract l i,ty,pos,af,g⟩=s:=rfl
@[simp]theorem fr_call{cc:Call}:qbw s ⟨d,.call cc,ty,pos,af,g⟩=s:=rfl
@[simp]theorem fr_alloc:qbw s ⟨some n,.alloc t,ty,pos,af,g⟩=frV s (s.get n):=by
 unfold qbw;simp only;cases s.get n with
 |none=>rfl
 |some v=>cases v<;>rfl
@[simp]theorem fr_box:qbw s ⟨some n,.box t l,ty,pos,af,g⟩=frV s (s.get n):=by
 unfold qbw;simp only;cases s.get n with
 |none=>rfl
 |some v=>cases v<;>rfl
@[simp]theorem ev_move:qae C call ⟨d,.move l,ty,pos,af,g⟩ s=vH s.H (qc0 s l):=by unfold qae;simp only;cases qc0 s l<;>rfl
@[simp]theorem ev_assign:qae C call ⟨d,.assign l,ty,pos,af,g⟩ s=vH s.H (qc0 s l):=by unfold qae;simp only;cases qc0 s l<;>rfl
@[simp]theorem ev_pick:qae C call ⟨d,.pick l m k,ty,pos,af,g⟩ s=zdb s.H (qc0 s l) (qc0 s m) (qc0 s k):=by
 unfold qae;simp only;cases qc0 s l with
 |none=>rfl
 |some v=>
  cases v<;>try rfl
  rename_i q;cases q
  ·cases qc0 s k<;>rfl
  ·cases qc0 s m<;>rfl
@[simp]theorem ev_alloc:qae C call ⟨d,.alloc t,ty,pos,af,g⟩ s=alV C.P s.H t:=by
 unfold qae qdx alV;simp only;cases qc1 C.P t with
 |none=>rfl
 |some z=>cases qcg C.P t with
  |none=>rfl
  |some n=>simp only[jb];cases Nat.beq z.cells.length n<;>rfl
@[simp]theorem ev_box:qae C call ⟨d,.box t l,ty,pos,af,g⟩ s=boxV s.H (qc0 s l):=by
 unfold qae qdx boxV;simp only;cases qc0 s l with
 |none=>rfl
 |some v=>simp only[jb];cases allSingle v.cells<;>rfl
@[simp]theorem ev_bs{ps:Array (Nat × Operand)}:qae C call ⟨d,.buildSlice t n ps,ty,pos,af,g⟩ s=bsV C.P s.H d t n (qi6 s ps.toList):=by
 unfold qae qdx;simp only;cases qi6 s ps.toList with
 |none=>rfl
 |some q=>simp only[jb,bsV_some];cases sliceParts C.P t n q<;>rfl
@[simp]theorem ev_mm:qae C call ⟨d,.makeMap t none,ty,pos,af,g⟩ s=some (.map s.H.n,s.H.new (.map [])):=rfl
@[simp]theorem ev_bld{ps:Array (Nat × Operand)}:qae C call ⟨d,.build t ps,ty,pos,af,g⟩ s=vH s.H (bldV C.P t (qi6 s ps.toList)):=by
 unfold qae;simp only;cases qi6 s ps.toList with
 |none=>rfl
 |some q=>simp only[jb,zjg];cases qgq C.P t q<;>rfl
@[simp]theorem ev_load:qae C call ⟨d,.load t l,ty,pos,af,g⟩ s=vH s.H (b1 (qb3 C.P s.H t) (qc0 s l)):=by
 unfold qae;simp only;cases qc0 s l with
 |none=>rfl
 |some v=>simp only[jb,zjq];cases qb3 C.P s.H t v<;>rfl
@[simp]theorem ev_store:qae C call ⟨d,.store t l m,ty,pos,af,g⟩ s=stV (b2 (writeVar C.P s.H t) (qc0 s l) (qc0 s m)):=by
 unfold qae;simp only;cases qc0 s l with
 |none=>rfl
 |some v=>cases qc0 s m with
  |none=>rfl
  |some v2=>simp only[jb,qvb];cases writeVar C.P s.H t v v2<;>rfl
@[simp]theorem ev_nc:qae C call ⟨d,.nilCheck l,ty,pos,af,g⟩ s=ncV s.H (qc0 s l):=by
 unfold qae;simp only;cases qc0 s l with
 |none=>rfl
 | some v => cases v <;> try rfl
             rename_i fn _ _;cases fn<;>rfl
@[simp]theorem ev_bin{op:BinOp} {e:TypeId}:qae C call ⟨d,.binOp op t l m e,ty,pos,af,g⟩ s=vH s.H (b2 (qmf C.P op t (zca l || zca m)) (qc0 s l) (qc0 s m)):=by
 unfold qae;simp only;cases qc0 s l with
 |none=>rfl
 |some v=>cases qc0 s m with
  |none=>rfl
  |some v2=>simp only[jb,qvb];cases qmf C.P op t (zca l || zca m) v v2<;>rfl
@[simp]theorem cst_c{v:Value}:zca (.const v)=true:=rfl
@[simp]theorem cst_t{v:Tmp}:zca (.tmp v)=false:=rfl
@[simp]theorem cst_f{v:FuncId}:zca (.func v)=false:=rfl
@[simp]theorem bk_int{op:BinOp} {t:TypeId} {c:Bool} {k:IntKind} {n:Int} {y:AV}:qmf P op t c (.int k n) y=qdy P op t (.int k n) y:=rfl
@[simp]theorem bk_str{op:BinOp} {t:TypeId} {c:Bool} {n:List UInt8} {y:AV}:qmf P op t c (.str n) y=qdy P op t (.str n) y:=rfl
@[simp]theorem bk_bool{op:BinOp} {t:TypeId} {c:Bool} {b:Bool} {y:AV}:qmf P op t c (.bool b) y=qdy P op t (.bool b) y:=rfl
@[simp]theorem bk_flt{op:BinOp} {t:TypeId} {c:Bool} {k:FloatKind} {n:Nat} {y:AV}:qmf P op t c (.float k n) y=qdy P op t (.float k n) y:=rfl
@[simp]theorem bk_cplx{op:BinOp} {t:TypeId} {c:Bool} {k:FloatKind} {n m:Nat} {y:AV}:qmf P op t c (.cplx k n m) y=qdy P op t (.cplx k n m) y:=rfl
@[simp]theorem bk_nilP{op:BinOp} {t:TypeId} {c:Bool} {y:AV}:qmf P op t c (.nilP) y=qdy P op t (.nilP) y:=rfl
@[simp]theorem bk_ptr{op:BinOp} {t:TypeId} {c:Bool} {b o:Nat} {y:AV}:qmf P op t c (.ptr b o) y=qdy P op t (.ptr b o) y:=rfl
@[simp]theorem bk_fptr{op:BinOp} {t:TypeId} {c:Bool} {cs:List AV} {o:Nat} {y:AV}:qmf P op t c (.fptr cs o) y=qdy P op t (.fptr cs o) y:=rfl
@[simp]theorem bk_nilS{op:BinOp} {t:TypeId} {c:Bool} {y:AV}:qmf P op t c (.nilS) y=qdy P op t (.nilS) y:=rfl
@[simp]theorem bk_eslc{op:BinOp} {t:TypeId} {c:Bool} {y:AV}:qmf P op t c (.eslc) y=qdy P op t (.eslc) y:=rfl
@[simp]theorem bk_zslc{op:BinOp} {t:TypeId} {c:Bool} {y:AV}:qmf P op t c (.zslc) y=qdy P op t (.zslc) y:=rfl
@[simp]theorem bk_slc{op:BinOp} {t:TypeId} {c:Bool} {b o n:Nat} {q:Cap} {y:AV}:qmf P op t c (.slc b o n q) y=qdy P op t (.slc b o n q) y:=rfl
@[simp]theorem bk_fslc{op:BinOp} {t:TypeId} {c:Bool} {z:Nat} {es:List AV} {y:AV}:qmf P op t c (.fslc z es) y=qdy P op t (.fslc z es) y:=rfl
@[simp]theorem bk_nilM{op:BinOp} {t:TypeId} {c:Bool} {y:AV}:qmf P op t c (.nilM) y=qdy P op t (.nilM) y:=rfl
@[simp]theorem bk_map{op:BinOp} {t:TypeId} {c:Bool} {b:Nat} {y:AV}:qmf P op t c (.map b) y=qdy P op t (.map b) y:=rfl
@[simp]theorem bk_nilF{op:BinOp} {t:TypeId} {c:Bool} {y:AV}:qmf P op t c (.nilF) y=qdy P op t (.nilF) y:=rfl
@[simp]theorem bk_func{op:BinOp} {t:TypeId} {c:Bool} {f:Fn} {a d:List AV} {y:AV}:qmf P op t c (.func f a d) y=qdy P op t (.func f a d) y:=rfl
@[simp]theorem bk_agg{op:BinOp} {t:TypeId} {c:Bool} {cs:List AV} {y:AV}:qmf P op t c (.agg cs) y=qdy P op t (.agg cs) y:=rfl
@[simp]theorem bk_tup{op:BinOp} {t:TypeId} {c:Bool} {cs:List AV} {y:AV}:qmf P op t c (.tup cs) y=qdy P op t (.tup cs) y:=rfl
@[simp]theorem bk_yld{op:BinOp} {t:TypeId} {c:Bool} {b:Nat} {y:AV}:qmf P op t c (.yld b) y=qdy P op t (.yld b) y:=rfl
@[simp]theorem bk_zptr{op:BinOp} {t:TypeId} {c:Bool} {b o:Nat} {y:AV}:qmf P op t c (.zptr b o) y=qdy P op t (.zptr b o) y:=rfl
@[simp]theorem bk_undef{op:BinOp} {t:TypeId} {c:Bool} {y:AV}:qmf P op t c (.undef) y=qdy P op t (.undef) y:=rfl
@[simp]theorem bk_nn{op:BinOp} {t:TypeId}:qmf P op t true .nilI .nilI=ifA P op t true:=rfl
@[simp]theorem bk_ni{op:BinOp} {t u:TypeId} {c:Bool} {x:AV}:qmf P op t c .nilI (.iface u x)=ifA P op t false:=rfl
@[simp]theorem bk_in{op:BinOp} {t u:TypeId} {c:Bool} {x:AV}:qmf P op t c (.iface u x) .nilI=ifA P op t false:=rfl
@[simp]theorem ev_un{op:UnOp}:qae C call ⟨d,.unOp op t l,ty,pos,af,g⟩ s=vH s.H (b1 (unA op) (qc0 s l)):=by
 unfold qae;simp only;cases qc0 s l with
 |none=>rfl
 |some v=>simp only[jb,zjq];cases unA op v<;>rfl
@[simp]theorem ev_conv:qae C call ⟨d,.convert t u l,ty,pos,af,g⟩ s=b1 (qh7 C.P s.H t u) (qc0 s l):=by unfold qae;simp only;cases qc0 s l<;>rfl
@[simp]theorem ev_mf{fn:Go.Fn} {p q:Array Operand}:qae C call ⟨d,.makeFunc fn p q,ty,pos,af,g⟩ s=mkF fn s.H (qg5 s p.toList) (qg5 s q.toList):=by unfold qae;simp only;cases qg5 s p.toList<;>cases qg5 s q.toList<;>rfl
@[simp]theorem ev_ms:qae C call ⟨d,.makeSlice t l m,ty,pos,af,g⟩ s=b2 (qgg C.P s.H t) (qc0 s l) (qc0 s m):=by
 unfold qae qdx qgg;simp only;cases qc0 s l with
 |none=>rfl
 |some x=>cases qc0 s m with
  |none=>rfl
  |some y=>rfl
@[simp]theorem ev_slice{lo hi mx:Option Operand}:qae C call ⟨d,.slice t l lo hi mx,ty,pos,af,g⟩ s=vH s.H (slV C.P s.H t (qc0 s l) (qji s lo) (qji s hi) (qji s mx)):=by
 unfold qae;simp only;cases qc0 s l with
 |none=>rfl
 |some v=>cases qji s lo with
  |none=>rfl
  |some p=>cases qji s hi with
   |none=>rfl
   |some q=>cases qji s mx with
    |none=>rfl
    |some r=>simp only[jb,slV_some];cases qee C.P s.H t v p q r<;>rfl
@[simp]theorem ev_range:qae C call ⟨d,.range t l,ty,pos,af,g⟩ s=rgV s.H (C.P.underlying t) (qc0 s l):=by
 unfold qae;simp only;cases qc0 s l with
 |none=>cases C.P.underlying t with
  |none=>rfl
  |some d=>cases d<;>rfl
 |some x=>cases C.P.underlying t with
  |none=>rfl
  |some d=>cases d<;>cases x<;>rfl
def enV(H:Heap):Option AV->Option AV
 |some (.ptr b 0)=>zc6 H b
 |_=>none
@[simp]theorem ev_entry:qae C call ⟨d,.entry l,ty,pos,af,g⟩ s=vH s.H (enV s.H (qc0 s l)):=by
 unfold qae;simp only;cases qc0 s l with
 |none=>rfl
 |some x=>cases x<;>first|rfl|(rename_i b o;cases o<;>first|rfl|(simp only[jb,enV];cases zc6 s.H b<;>rfl))
@[simp]theorem ev_next{isS:Bool}:qae C call ⟨d,.next l isS,ty,pos,af,g⟩ s=nxV s.H isS (qc0 s l):=by
 unfold qae;simp only;cases qc0 s l with
 |none=>rfl
 |some x=>cases x<;>cases isS<;>first|rfl|(rename_i b o;cases o<;>rfl)
@[simp]theorem ev_fa:qae C call ⟨d,.fieldAddr t l i,ty,pos,af,g⟩ s=vH s.H (faV C.P t i (qc0 s l)):=by
 unfold qae;simp only;cases qc0 s l with
 |none=>rfl
 |some v=>simp only[jb,faV_some];cases qc2 C.P t v i<;>rfl
@[simp]theorem ev_fd:qae C call ⟨d,.field t l i,ty,pos,af,g⟩ s=vH s.H (fdV C.P t i (qc0 s l)):=by
 unfold qae;simp only;cases qc0 s l with
 |none=>rfl
 |some v=>simp only[jb,fdV_some];cases qe1 C.P t v i<;>rfl
@[simp]theorem ev_ia:qae C call ⟨d,.indexAddr t l m,ty,pos,af,g⟩ s=vH s.H (b2 (qav C.P t) (qc0 s l) (qc0 s m)):=by
 unfold qae;simp only;cases qc0 s l with
 |none=>rfl
 |some v=>cases qc0 s m with
  |none=>rfl
  |some v2=>simp only[jb,qvb];cases qav C.P t v v2<;>rfl
@[simp]theorem ev_ix:qae C call ⟨d,.index t l m,ty,pos,af,g⟩ s=vH s.H (b2 (qi1 C.P t) (qc0 s l) (qc0 s m)):=by
 unfold qae;simp only;cases qc0 s l with
 |none=>rfl
 |some v=>cases qc0 s m with
  |none=>rfl
  |some v2=>simp only[jb,qvb];cases qi1 C.P t v v2<;>rfl
@[simp]theorem ev_lu{ok:Bool}:qae C call ⟨d,.lookup t l m ok,ty,pos,af,g⟩ s=vH s.H (luV C.P s.H t ok (qc0 s l) (qc0 s m)):=by
 unfold qae;simp only;cases qc0 s l with
 |none=>rfl
 |some v=>cases qc0 s m with
  |none=>rfl
  |some v2=>simp only[jb,luV_some];cases qk0 C.P s.H t v v2 ok<;>rfl
@[simp]theorem ev_mu:qae C call ⟨d,.mapUpdate t l m k,ty,pos,af,g⟩ s=stV (b3 (qiz C.P s.H t) (qc0 s l) (qc0 s m) (qc0 s k)):=by
 unfold qae;simp only;cases qc0 s l with
 |none=>rfl
 |some v=>cases qc0 s m with
  |none=>rfl
  |some v2=>cases qc0 s k with
   |none=>rfl
   |some v3=>simp only[jb,zjp];cases qiz C.P s.H t v v2 v3<;>rfl
@[simp]theorem ev_in:qae C call ⟨d,.insert t l m k,ty,pos,af,g⟩ s=stV (b3 (qiz C.P s.H t) (qc0 s l) (qc0 s m) (qc0 s k)):=by
 unfold qae;simp only;cases qc0 s l with
 |none=>rfl
 |some v=>cases qc0 s m with
  |none=>rfl
  |some v2=>cases qc0 s k with
   |none=>rfl
   |some v3=>simp only[jb,zjp];cases qiz C.P s.H t v v2 v3<;>rfl
@[simp]theorem ev_ex:qae C call ⟨d,.extract l i,ty,pos,af,g⟩ s=vH s.H (exV i (qc0 s l)):=by
 unfold qae;simp only;cases qc0 s l with
 |none=>rfl
 | some v => cases v <;> try rfl
             rename_i vs;simp only[jb,exV_some];cases qcy vs i<;>rfl
@[simp]theorem ev_blt{bu:Builtin} {args:Array Operand} {ts:Array TypeId}:qae C call ⟨d,.call ⟨.builtin bu,args,ts⟩,ty,pos,af,g⟩ s=bltV C.P s.H bu ts (qg5 s args.toList):=by unfold qae;simp only;cases qg5 s args.toList<;>rfl
@[simp]theorem ev_cl{args:Array Operand} {ts:Array TypeId}:qae C call ⟨d,.call ⟨.value fo,args,ts⟩,ty,pos,af,g⟩ s=clV call s.H (qc0 s fo) (qg5 s args.toList):=by
 unfold qae;simp only;cases qg5 s args.toList with
 |none=>cases qc0 s fo with
  |none=>rfl
  | some v => cases v <;> try rfl
              rename_i fn _ _;cases fn<;>rfl
 |some q=>cases qc0 s fo with
  |none=>rfl
  | some v => cases v <;> try rfl
              rename_i fn _ _;cases fn<;>rfl
@[simp]theorem blt_len:qc5 P H .len #[t] [x]=lnV H (qer P H t x):=by simp only[qc5,List.getElem?_toArray,List.getElem?_cons_zero,jb];cases qer P H t x<;>rfl
@[simp]theorem blt_append:qc5 P H .append #[t,u] [x,y]=apV P H x y (P.underlying t) (P.underlying u):=by
 simp only[qc5,List.getElem?_toArray,List.getElem?_cons_zero,List.getElem?_cons_succ,jb];cases P.underlying t with
 |none=>rfl
 |some dd=>
  cases dd<;>try (cases P.underlying u<;>rfl)
  simp only[jb];cases P.underlying u with
  |none=>rfl
  |some ud=>cases ud<;>rfl
@[simp]theorem blt_copy:qc5 P H .copy #[t,u] [x,y]=cpV P H x y (P.underlying t):=by
 simp only[qc5,List.getElem?_toArray,List.getElem?_cons_zero,jb];cases P.underlying t with
 |none=>rfl
 |some dd=>cases dd<;>rfl
@[simp]theorem blt_clear:qc5 P H .clear #[t] [x]=clrV (zcb P H t x):=by simp only[qc5,List.getElem?_toArray,List.getElem?_cons_zero,jb];cases zcb P H t x<;>rfl
@[simp]theorem blt_delete:qc5 P H .delete #[t,u] [x,y]=clrV (qof P H t x y):=by simp only[qc5,List.getElem?_toArray,List.getElem?_cons_zero,jb];cases qof P H t x y<;>rfl
@[simp]theorem blt_max{ts:Array TypeId} {r:List AV}:qc5 P H .max ts (x::r)=vH H (qwq false x r):=by show (qwq false x r).bind _=_;cases qwq false x r<;>rfl
@[simp]theorem blt_min{ts:Array TypeId} {r:List AV}:qc5 P H .min ts (x::r)=vH H (qwq true x r):=by show (qwq true x r).bind _=_;cases qwq true x r<;>rfl
end
mutual
def qab:AV->Bool
 |.ptr _ _=>false
 |.slc _ _ _ _=>false
 |.map _=>false
 |.yld _=>false
 |.zptr _ _=>false
 |.func _ a c=>qa9 a && qa9 c
 |.iface _ v=>qab v
 |.agg cs=>qa9 cs
 |.tup cs=>qa9 cs
 |_=>true
def qa9:List AV->Bool
 |[]=>true
 |a::r=>qab a && qa9 r
end
mutual
def qge:AV->Bool
 |.bool _ | .int _ _ | .float _ _ | .cplx _ _ _ | .str _ | .nilP | .nilS | .zslc | .nilM | .nilF | .nilI=>true
 |.fslc _ es=>match es with
  |[]=>true
  |_::_=>false
 |.agg cs=>qqf cs
 |.tup cs=>qqf cs
 |_=>false
def qqf:List AV->Bool
 |[]=>true
 |a::r=>qge a && qqf r
end
theorem qf9:∀{l:List AV},qa9 l=true->∀i (h:i < l.length),qab l[i]=true
 |[],_,i,hi=>absurd hi (jk i)
 |a::r,h,i,hi=>by
  simp only[qa9,jd]at h;cases i with
  |zero=>exact h.1
  |succ i=>exact qf9 h.2 i (by simpa using hi)
theorem qlq:∀{l:List AV},qqf l=true->∀i (h:i < l.length),qge l[i]=true
 |[],_,i,hi=>absurd hi (jk i)
 |a::r,h,i,hi=>by
  simp only[qqf,jd]at h;cases i with
  |zero=>exact h.1
  |succ i=>exact qlq h.2 i (by simpa using hi)
@[simp]theorem qgm{a b:List AV}:qa9 (a++b)=(qa9 a && qa9 b):=by
 induction a with
 |nil=>simp[qa9]
 |cons x r ih=>simp[qa9,ih,yQ]
theorem VR.pure{ρ:Place} {v:AV} {x:Value} (r:VR ρ v x):qab v=true->VR ρ.bare v x:=by
 induction r with
 |undef x=>exact fun _=>.undef x
 |bool b=>exact fun _=>.bool b
 |int k n=>exact fun _=>.int k n
 |float k n=>exact fun _=>.float k n
 |cplx k a b=>exact fun _=>.cplx k a b
 |str s=>exact fun _=>.str s
 |nilP=>exact fun _=>.nilP
 |ptr b o l e=>exact fun h=>by simp[qab]at h
 |fptr cs o cb off vs hB hc hv ih=>exact fun _=>.fptr cs o cb off vs hB hc hv
 |nilS=>exact fun _=>.nilS
 |eslc a c=>exact fun _=>.eslc a c
 |zslcN=>exact fun _=>.zslcN
 |zslcE a=>exact fun _=>.zslcE a
 |slcE b o len c l e hc=>exact fun h=>by simp[qab]at h
 |slcR b o len sz c l e hc hf=>exact fun h=>by simp[qab]at h
 |fslc sz es cb off cap vs hB hcap hz hc hv ih=>exact fun _=>.fslc sz es cb off cap vs hB hcap hz hc hv
 |xslc sz es cb off vs hB hz hc hv ih=>exact fun _=>.xslc sz es cb off vs hB hz hc hv
 |fnil sz=>exact fun _=>.fnil sz
 |fnone sz a c=>exact fun _=>.fnone sz a c
 |nilM=>exact fun _=>.nilM
 |map b l e=>exact fun h=>by simp[qab]at h
 |nilF=>exact fun _=>.nilF
 |func fn a c a' c' ha hc hav hcv iha ihc=>intro h;simp only[qab,jd]at h;exact .func fn a c a' c' ha hc (fun i h1 h2=>iha i h1 h2 (qf9 h.1 i h1)) (fun i h1 h2=>ihc i h1 h2 (qf9 h.2 i h1))
 |nilI=>exact fun _=>.nilI
 |iface t v x _ ih=>exact fun h=>.iface t v x (ih (by simpa[qab]using h))
 |agg cs vs hl hv ih=>exact fun h=>.agg cs vs hl fun i h1 h2=>ih i h1 h2 (qf9 (by simpa[qab]using h) i h1)
 |tup cs vs hl hv ih=>exact fun h=>.tup cs vs hl fun i h1 h2=>ih i h1 h2 (qf9 (by simpa[qab]using h) i h1)
 |yld b l e=>exact fun h=>by simp[qab]at h
 |zptrN b o=>exact fun h=>by simp[qab]at h
 |zptrP b o l e=>exact fun h=>by simp[qab]at h
 |val v e=>exact fun _=>.val v e
theorem VR.scalar{ρ ρ':Place} {v:AV} {x:Value} (r:VR ρ v x):qge v=true->VR ρ' v x:=by
 induction r with
 |bool b=>exact fun _=>.bool b
 |int k n=>exact fun _=>.int k n
 |float k n=>exact fun _=>.float k n
 |cplx k a b=>exact fun _=>.cplx k a b
 |str s=>exact fun _=>.str s
 |nilP=>exact fun _=>.nilP
 |nilS=>exact fun _=>.nilS
 |zslcN=>exact fun _=>.zslcN
 |zslcE a=>exact fun _=>.zslcE a
 |nilM=>exact fun _=>.nilM
 |nilF=>exact fun _=>.nilF
 |nilI=>exact fun _=>.nilI
 |fnil sz=>exact fun _=>.fnil sz
 |fnone sz a c=>exact fun _=>.fnone sz a c
 |fslc sz es cb off cap vs hB hcap hz hc hv ih=>
  cases es with
  |nil=>exact fun _=>.fnone sz _ cap
  |cons _ _=>exact fun h=>by simp[qge]at h
 |agg cs vs hl hv ih=>exact fun h=>.agg cs vs hl fun i h1 h2=>ih i h1 h2 (qlq (by simpa[qge]using h) i h1)
 |tup cs vs hl hv ih=>exact fun h=>.tup cs vs hl fun i h1 h2=>ih i h1 h2 (qlq (by simpa[qge]using h) i h1)
 |_=>exact fun h=>by simp[qge]at h
theorem VRs.pure{ρ:Place} {vs:List AV} {xs:List Value} (r:VRs ρ vs xs) (h:qa9 vs=true):VRs ρ.bare vs xs:=⟨r.1,fun i h1 h2=>(r.2 i h1 h2).pure (qf9 h i h1)⟩
def qb2(b:Nat):List (Nat × Nat)->Option Nat
 |[]=>none
 |x::r=>if x.1=b then some x.2 else qb2 b r
def qdr(b:Nat):List (Nat × Nat)->Option Nat
 |[]=>none
 |x::r=>if x.2=b then some x.1 else qdr b r
def qca(b:Nat):List (Nat × List AV)->Option (List AV)
 |[]=>none
 |x::r=>if x.1=b then some x.2 else qca b r
mutual
def qat(σ:List (Nat × Nat)) (Φ:List (Nat × List AV)):AV->AV->Prop
 |.ptr b o,v'=>match v' with
  |.undef=>True
  |.ptr b' o'=>qb2 b σ=some b'/\o'=o
  |.zptr b' o'=>qb2 b σ=some b'/\o'=o
  |.fptr cs o'=>qca b Φ=some cs/\o'=o
  |_=>False
 |.slc b o len cap,v'=>match v' with
  |.undef=>True
  |.slc b' o' len' cap'=>qb2 b σ=some b'/\o'=o/\len'=len/\cap'=cap
  |.fslc sz es=>(∃cs,qca b Φ=some cs/\qek o (len * sz) cs=some (qa5 es)/\es.length=len/\qep sz es=true)\/(len=0/\es=[])
  |.zslc=>len=0/\cap=.ex 0
  |_=>False
 |.map b,v'=>match v' with
  |.undef=>True
  |.map b'=>qb2 b σ=some b'
  |_=>False
 |.nilP,v'=>match v' with
  |.undef=>True
  |.nilP=>True
  |.zptr _ _=>True
  |_=>False
 |.zptr b o,v'=>match v' with
  |.undef=>True
  |.zptr b' o'=>qb2 b σ=some b'/\o'=o
  |_=>False
 |.yld b,v'=>match v' with
  |.undef=>True
  |.yld b'=>qb2 b σ=some b'
  |_=>False
 |.nilS,v'=>match v' with
  |.undef=>True
  |.nilS=>True
  |.zslc=>True
  |.fslc _ es=>es=[]
  |_=>False
 |.zslc,v'=>match v' with
  |.undef=>True
  |.zslc=>True
  |.fslc _ es=>es=[]
  |_=>False
 |.eslc,v'=>match v' with
  |.undef=>True
  |.eslc=>True
  |.fslc _ es=>es=[]
  |_=>False
 |.func fn a c,v'=>match v' with
  |.undef=>True
  |.func fn' a' c'=>(fn'=fn/\qaz σ Φ a a'/\qaz σ Φ c c')\/(fn'=fn/\a'=a/\c'=c/\qa9 a=true/\qa9 c=true)
  |_=>False
 |.agg cs,v'=>match v' with
  |.undef=>True
  |.agg cs'=>qaz σ Φ cs cs'\/(cs'=cs/\qa9 cs=true)
  |_=>False
 |.tup cs,v'=>match v' with
  |.undef=>True
  |.tup cs'=>qaz σ Φ cs cs'\/(cs'=cs/\qa9 cs=true)
  |_=>False
 |v,v'=>v'=.undef\/(v'=v/\qab v=true)
def qaz(σ:List (Nat × Nat)) (Φ:List (Nat × List AV)):List AV->List AV->Prop
 |[],l'=>l'=[]
 |a::r,l'=>match l' with
  |[]=>False
  |a'::r'=>qat σ Φ a a'/\qaz σ Φ r r'
end
theorem qe0{σ:List (Nat × Nat)} {Φ:List (Nat × List AV)}:∀{l l':List AV},qaz σ Φ l l'->l'.length=l.length/\∀i (h:i < l.length) (h':i < l'.length),qat σ Φ l[i] l'[i]
 |[],l',h=>by simp only[qaz]at h;subst h;exact⟨rfl,fun i h=>absurd h (jk i)⟩
 |a::r,[],h=>by simp[qaz]at h
 |a::r,a'::r',h=>by
  simp only[qaz]at h;obtain⟨h1,h2⟩:=qe0 h.2;refine⟨by simp[h1],fun i a b=>?_⟩;cases i with
  |zero=>exact h.1
  |succ i=>exact h2 i (by simpa using a) (by simpa using b)
theorem qbe{σ:List (Nat × Nat)} {Φ:List (Nat × List AV)} {v:AV} (h:qab v=true):qat σ Φ v v:=by cases v<;>simp_all [qat,qab]
theorem qaf{σ:List (Nat × Nat)} {Φ:List (Nat × List AV)}:∀{l:List AV},qa9 l=true->qaz σ Φ l l
 |[],_=>by simp[qaz]
 |a::r,h=>by simp only[qa9,jd]at h;simp only[qaz];exact⟨qbe h.1,qaf h.2⟩
theorem qe2{l:List AV} {i:Nat} (h:i < l.length):SizeOf.sizeOf l[i] < SizeOf.sizeOf l:=List.sizeOf_lt_of_mem (jy h)
theorem qw0{v:AV} {j:Nat} (h:j < v.cells.length):SizeOf.sizeOf v.cells[j]<=SizeOf.sizeOf v:=by
 cases v
 case agg cs=>
  have h':j < cs.length:=h;have:=qe2 h';simp[AV.cells];omega
 all_goals (have:j=0:=by simp[AV.cells]at h;omega);subst this;exact jc _
theorem zhy{sz:Nat} {es:List AV} (hz:∀i (h:i < es.length),es[i].cells.length=sz) (i j:Nat) (hi:i < es.length) (hj:j < es[i].cells.length) :
  ∃h:i * sz+j < (qa5 es).length,(qa5 es)[i * sz+j]=es[i].cells[j]:=by
 induction es generalizing i with
 |nil=>exact absurd hi (jk i)
 |cons e r ih=>
  have hz0:e.cells.length=sz:=hz 0 (by simp);cases i with
  |zero=>have hj':j < e.cells.length:=hj;refine⟨by simp only[qa5,jo];omega,?_⟩;simp only[qa5,Nat.zero_mul,jO,j5];exact j6 hj'
  |succ i=>obtain⟨h1,h2⟩:=ih (fun k hk=>hz (k+1) (by simpa using hk)) i (by simpa using hi) hj;have e1:(i+1) * sz+j=e.cells.length+(i * sz+j):=(by rw[Nat.add_mul,hz0];omega);refine⟨by simp only[qa5,jo];omega,?_⟩;simp only[qa5,ym,e1];rw[jv (by omega)];simpa using h2
section
variable {σ:List (Nat × Nat)} {Φ:List (Nat × List AV)} {ρ ρ':Place} {H:Heap} {w:World}
structure Fits (σ:List (Nat × Nat)) (Φ:List (Nat × List AV)) (ρ ρ':Place) (H:Heap) (w:World):Prop where
 le:ρ.bare.le ρ'
 now:∀k,ρ'.B k->w.heap[k]? = ρ'.W.heap[k]?
 ren:∀b b',qb2 b σ=some b'->∀l,ρ b=some l->ρ' b'=some l
 frz:∀b cs',qca b Φ=some cs'->∃cs l,H.get b=some (.cells cs)/\ρ b=some l/\ρ'.B l.cb/\qaz σ Φ cs cs'/\qa9 cs'=true
theorem Fits.slc(f:Fits σ Φ ρ ρ' H w) (sm:Sim ρ H w) (n:Nat) (ih:∀{v v':AV} {x:Value},SizeOf.sizeOf v'<=n->VR ρ v x->qat σ Φ v v'->VR ρ' v' x) {b o len c sz:Nat} {es:List AV} {l:Loc} (hn:SizeOf.sizeOf (AV.fslc sz es)<=n+1) (hl:ρ b=some l) (hc:len<=c)
  (hf:∃cs,qca b Φ=some cs/\qek o (len * sz) cs=some (qa5 es)/\es.length=len/\qep sz es=true):VR ρ' (.fslc sz es) (.slice (some ⟨l.cb,l.off+o,none⟩) len c):=by
 obtain⟨cs',h1,h2,h3,h4⟩:=hf;obtain⟨cs,l',g1,g2,g3,g4,g5⟩:=f.frz _ _ h1;rw[hl]at g2;cases g2;obtain⟨l',hl',_,hlt,hr⟩:=sm.block g1;rw[hl]at hl';cases hl';obtain⟨k1,k2⟩:=qe0 g4;have hz:=qkq h4;obtain⟨e1,e2⟩:=qmj h2;subst h3;have key:∀i (hi:i < es.length) j (hj:j < es[i].cells.length),∃(q:o+(i * sz+j) < cs'.length),cs'[o+(i * sz+j)]=es[i].cells[j]:=by
  intro i hi j hj;obtain⟨p1,p2⟩:=zhy hz i j hi hj;have e3:(qa5 es)[i * sz+j]? = some es[i].cells[j]:=by rw[List.getElem?_eq_getElem p1,p2]
  rw[e2,List.getElem?_take]at e3;split at e3
  ·rw[List.getElem?_drop]at e3;obtain⟨q1,q2⟩:=List.getElem?_eq_some_iff.1 e3;exact⟨q1,q2⟩
  ·cases e3
 refine .fslc sz es l.cb (l.off+o) c (fun i j=>(ρ'.W.cell? ⟨l.cb,l.off+o+i * sz+j,none⟩).getD undef) g3 hc hz (fun i hi j hj=>?_) fun i hi j hj=>?_
 ·obtain⟨q1,q2⟩:=key i hi j (by rw[hz i hi];exact hj);obtain⟨y,hy,hyv⟩:=hr.2.2 (o+(i * sz+j)) (by omega);have hw:ρ'.W.cell? ⟨l.cb,l.off+o+i * sz+j,none⟩=some y:=by rw[<- hy];simp only[World.cell?,f.now _ g3];congr 1;simp only[<- Nat.add_assoc]
  rw[hw];rfl
 ·obtain⟨q1,q2⟩:=key i hi j hj;obtain⟨y,hy,hyv⟩:=hr.2.2 (o+(i * sz+j)) (by omega);have hw:ρ'.W.cell? ⟨l.cb,l.off+o+i * sz+j,none⟩=some y:=by rw[<- hy];simp only[World.cell?,f.now _ g3];congr 1;simp only[<- Nat.add_assoc]
  rw[hw];have hs:=qw0 hj;have hs2:=qe2 hi;have:=ih (v':=es[i].cells[j]) (by simp at hn;omega) hyv (by rw[<- q2];exact k2 _ (by omega) q1);refine this.pure ?_;rw[<- q2];exact qf9 g5 _ q1
theorem Fits.run(f:Fits σ Φ ρ ρ' H w) (sm:Sim ρ H w):∀(n:Nat) {v v':AV} {x:Value},SizeOf.sizeOf v'<=n->VR ρ v x->qat σ Φ v v'->VR ρ' v' x
 |0,v,v',x,hn,_,_=>by cases v'<;>simp at hn
 |n+1,v,v',x,hn,hv,hf=>by
  have pure_:∀{u:AV},VR ρ u x->qab u=true->VR ρ' u x:=fun h1 h2=>(h1.pure h2).mono f.le;by_cases hu:v'=.undef
  ·subst hu;exact .undef x
  cases hv with
  |ptr b o l hl=>
   cases v'<;>simp only[qat]at hf<;>try exact hf.elim
   ·exact absurd rfl hu
   ·obtain⟨h1,rfl⟩:=hf;exact .ptr _ _ l (f.ren _ _ h1 l hl)
   rotate_left
   ·obtain⟨h1,rfl⟩:=hf;exact .zptrP _ _ l (f.ren _ _ h1 l hl)
   ·rename_i cs' o';obtain⟨h1,rfl⟩:=hf;obtain⟨cs,l',g1,g2,g3,g4,g5⟩:=f.frz _ _ h1;rw[hl]at g2;cases g2;obtain⟨l',hl',_,hlt,hr⟩:=sm.block g1;rw[hl]at hl';cases hl';obtain⟨k1,k2⟩:=qe0 g4;refine .fptr cs' o' l.cb l.off (fun i=>(ρ'.W.cell? ⟨l.cb,l.off+i,none⟩).getD undef) g3 (fun i hi=>?_) fun i hi=>?_;all_goals
     obtain⟨y,hy,hyv⟩:=hr.2.2 i (by omega);have hw:ρ'.W.cell? ⟨l.cb,l.off+i,none⟩=some y:=(by rw[<- hy];simp only[World.cell?,f.now _ g3]);rw[hw]
    ·rfl
    ·have hs:=qe2 hi;have:=Fits.run f sm n (v':=cs'[i]) (by simp at hn;omega) hyv (k2 i (by omega) hi);exact this.pure (qf9 g5 i hi)
  |slcE b o len c l hl hc=>
   cases v'<;>simp only[qat]at hf<;>try exact hf.elim
   ·exact absurd rfl hu
   ·obtain⟨rfl,h2⟩:=hf;simp only[Cap.ex.injEq]at h2;subst h2;exact .zslcE _
   ·obtain⟨h1,rfl,rfl,rfl⟩:=hf;exact .slcE _ _ _ c l (f.ren _ _ h1 l hl) hc
   ·rcases hf with hf|⟨rfl,rfl⟩
    ·exact Fits.slc f sm n (Fits.run f sm n) hn hl hc hf
    ·exact .fnone _ _ _
  |slcR b o len sz c l hl hc hfin=>
   cases v'<;>simp only[qat]at hf<;>try exact hf.elim
   ·exact absurd rfl hu
   ·exact absurd hf.2 (by simp)
   ·obtain⟨h1,rfl,rfl,rfl⟩:=hf;exact .slcR _ _ _ _ c l (f.ren _ _ h1 l hl) hc hfin
   ·rcases hf with hf|⟨rfl,rfl⟩
    ·exact Fits.slc f sm n (Fits.run f sm n) hn hl hc hf
    ·exact .fnone _ _ _
  |zslcN=>
   cases v'<;>simp only[qat]at hf<;>try exact hf.elim
   ·exact absurd rfl hu
   ·exact .zslcN
   ·subst hf;exact .fnil _
  |zslcE a=>
   cases v'<;>simp only[qat]at hf<;>try exact hf.elim
   ·exact absurd rfl hu
   ·exact .zslcE a
   ·subst hf;exact .fnone _ _ _
  |map b l hl=>
   cases v'<;>simp only[qat]at hf<;>try exact hf.elim
   ·exact absurd rfl hu
   ·exact .map _ l (f.ren _ _ hf l hl)
  |nilP=>
   cases v'<;>simp only[qat]at hf<;>try exact hf.elim
   ·exact absurd rfl hu
   ·exact .nilP
   ·exact .zptrN _ _
  |yld b l hl=>
   cases v'<;>simp only[qat]at hf<;>try exact hf.elim
   ·exact absurd rfl hu
   ·exact .yld _ l (f.ren _ _ hf l hl)
  |zptrN b o=>
   cases v'<;>simp only[qat]at hf<;>try exact hf.elim
   ·exact absurd rfl hu
   ·exact .zptrN _ _
  |zptrP b o l hl=>
   cases v'<;>simp only[qat]at hf<;>try exact hf.elim
   ·exact absurd rfl hu
   ·obtain⟨h1,rfl⟩:=hf;exact .zptrP _ _ l (f.ren _ _ h1 l hl)
  |nilS=>
   cases v'<;>simp only[qat]at hf<;>try exact hf.elim
   ·exact absurd rfl hu
   ·exact .nilS
   ·exact .zslcN
   ·subst hf;exact .fnil _
  |eslc a c=>
   cases v'<;>simp only[qat]at hf<;>try exact hf.elim
   ·exact absurd rfl hu
   ·exact .eslc _ _
   ·subst hf;exact .fnone _ _ _
  |func fn a c a' c' ha hc hav hcv=>
   cases v'<;>simp only[qat]at hf<;>try exact hf.elim
   ·exact absurd rfl hu
   ·rename_i fn' b d;rcases hf with⟨rfl,h1,h2⟩|⟨rfl,rfl,rfl,h1,h2⟩
    ·obtain⟨k1,k2⟩:=qe0 h1;obtain⟨m1,m2⟩:=qe0 h2;refine .func _ b d a' c' (by omega) (by omega) (fun i g g'=>?_) (fun i g g'=>?_)
     ·have:=qe2 g;exact Fits.run f sm n (by simp at hn;omega) (hav i (by omega) g') (k2 i (by omega) g)
     ·have:=qe2 g;exact Fits.run f sm n (by simp at hn;omega) (hcv i (by omega) g') (m2 i (by omega) g)
    ·exact pure_ (.func _ _ _ a' c' ha hc hav hcv) (by simp[qab,h1,h2])
  |agg cs vs hl hv=>
   cases v'<;>simp only[qat]at hf<;>try exact hf.elim
   ·exact absurd rfl hu
   ·rename_i ds;rcases hf with h1|⟨rfl,h1⟩
    ·obtain⟨k1,k2⟩:=qe0 h1;refine .agg ds vs (by omega) fun i g g'=>?_;have:=qe2 g;exact Fits.run f sm n (by simp at hn;omega) (hv i (by omega) g') (k2 i (by omega) g)
    ·exact pure_ (.agg _ vs hl hv) (by simp[qab,h1])
  |tup cs vs hl hv=>
   cases v'<;>simp only[qat]at hf<;>try exact hf.elim
   ·exact absurd rfl hu
   ·rename_i ds;rcases hf with h1|⟨rfl,h1⟩
    ·obtain⟨k1,k2⟩:=qe0 h1;refine .tup ds vs (by omega) fun i g g'=>?_;have:=qe2 g;exact Fits.run f sm n (by simp at hn;omega) (hv i (by omega) g') (k2 i (by omega) g)
    ·exact pure_ (.tup _ vs hl hv) (by simp[qab,h1])
  |_=>
   simp only[qat]at hf;rcases hf with hf|⟨rfl,hp⟩
   ·exact absurd hf hu
   ·exact pure_ (by constructor<;>assumption) hp
end
structure Base where
 n:Nat
 FP:Nat->Prop
 ρ:Place
 w:World
 ds:List Deferred
structure Since (b:Base) (ρ:Place) (H:Heap) (w:World):Prop where
 fz:∀k,b.ρ.B k->ρ.B k/\ρ.W.heap[k]? = b.ρ.W.heap[k]?
 os:ρ.W.os=b.ρ.W.os
 tape:ρ.W.tape=b.ρ.W.tape
 output:ρ.W.output=b.ρ.W.output
 size:b.w.heap.size<=w.heap.size
 keeps:∀k,k < b.w.heap.size->¬ b.FP k->w.heap[k]? = b.w.heap[k]?
 rows:∀e,e∈H.ents->∀l,ρ e.1=some l->b.FP l.cb\/b.w.heap.size<=l.cb
 cold:∀k,ρ.B k->b.ρ.B k\/b.FP k\/b.w.heap.size<=k
 low:∀k,k < b.n->ρ k=b.ρ k
 num:b.n<=H.n
theorem Since.step{b:Base} {ρ ρ':Place} {H H':Heap} {w w':World} (h:Since b ρ H w) (t:Step ρ H w ρ' H' w'):Since b ρ' H' w' where
 fz:=fun k hk=>let ⟨h1,h2⟩:=h.fz k hk;let ⟨t1,t2⟩:=t.le.fz k h1;⟨t1,t2.trans h2⟩
 os:=t.le.os.trans h.os
 tape:=t.le.tape.trans h.tape
 output:=t.le.output.trans h.output
 size:=jK h.size t.size
 keeps:=fun k hk hf=>by
  rw[t.keeps k (jI hk h.size) (fun e he l hl hlk=>?_),h.keeps k hk hf];rcases h.rows e he l hl with h1|h1
  ·exact hf (hlk ▸ h1)
  ·omega
 rows:=fun e he l hl=>by
  rcases t.rows e he l hl with⟨e0,he0,l0,hl0,hcb⟩|hge
  ·rw[<- hcb];exact h.rows e0 he0 l0 hl0
  ·exact .inr (jK h.size hge)
 cold:=fun k hk=>by
  rcases t.cold k hk with h1|⟨e,he,l,hl,hlk⟩|hge
  ·exact h.cold k h1
  ·rw[<- hlk];exact .inr (h.rows e he l hl)
  ·exact .inr (.inr (jK h.size hge))
 low:=fun k hk=>(t.low k (jI hk h.num)).trans (h.low k hk)
 num:=jK h.num t.num
def At(b:Base) (s:St) (a:Act) (w:World):Prop:=∃ρ,Since b ρ s.H w/\Sim ρ s.H w/\EnvR ρ s a/\Dfr b.w.heap.size ρ s.H w a.defers b.ds
theorem qws{b b':Nat}:∀{σ:List (Nat × Nat)},qb2 b σ=some b'->(b,b')∈σ
 |[],h=>by simp[qb2]at h
 |x::r,h=>by
  unfold qb2 at h;split at h
  next hx=>simp only[sj]at h;subst hx;subst h;exact jA
  ·exact jp _ (qws h)
theorem qr4{b b':Nat}:∀{σ:List (Nat × Nat)},qdr b' σ=some b->(b,b')∈σ
 |[],h=>by simp[qdr]at h
 |x::r,h=>by
  unfold qdr at h;split at h
  next hx=>simp only[sj]at h;subst hx;subst h;exact jA
  ·exact jp _ (qr4 h)
theorem qu9{b b':Nat}:∀{σ:List (Nat × Nat)},(σ.map (·.2)).Nodup->(b,b')∈σ->qdr b' σ=some b
 |[],_,h=>by cases h
 |x::r,hn,h=>by
  rw[jj,jr]at hn;unfold qdr;rcases ja.1 h with rfl|h
  ·simp
  ·have:x.2≠b':=fun hx=>hn.1 (ji.2 ⟨_,h,hx.symm⟩);rw[if_neg this];exact qu9 hn.2 h
theorem zg8{b x y:Nat}:∀{σ:List (Nat × Nat)},(σ.map (·.1)).Nodup->(b,x)∈σ->(b,y)∈σ->x=y
 |[],_,h,_=>by cases h
 |z::r,hn,h,h'=>by
  rw[jj,jr]at hn;rcases ja.1 h with h1|h1<;>rcases ja.1 h' with h2|h2
  ·rw[<- h1]at h2;cases h2;rfl
  ·exact absurd (ji.2 ⟨_,h2,by rw[<- h1]⟩) hn.1
  ·exact absurd (ji.2 ⟨_,h1,by rw[<- h2]⟩) hn.1
  ·exact zg8 hn.2 h1 h2
theorem qr6{b:Nat} {cs:List AV}:∀{Φ:List (Nat × List AV)},qca b Φ=some cs->(b,cs)∈Φ
 |[],h=>by simp[qca]at h
 |x::r,h=>by
  unfold qca at h;split at h
  next hx=>simp only[sj]at h;subst hx;subst h;exact jA
  ·exact jp _ (qr6 h)
def qhp(σ:List (Nat × Nat)) (Φ:List (Nat × List AV)):Blk->Blk->Prop
 |.cells cs,.cells cs'=>qaz σ Φ cs cs'
 |.map es,.map es'=>qaz σ Φ (es.map (·.1)) (es'.map (·.1))/\qaz σ Φ (es.map (·.2)) (es'.map (·.2))
 |.obj t cs,.obj t' cs'=>t'=t/\qaz σ Φ cs cs'
 |.buf t fz cs,.buf t' fz' cs'=>t'=t/\fz<=fz'/\fz'<=cs'.length/\qaz σ Φ cs cs'
 |.iter s p,.iter s' p'=>s'=s/\p'=p
 |.rng l c,.rng l' c'=>l'=l/\c'=c
 |.loop st pend ks vs ts sz ps a b,.loop st' pend' ks' vs' ts' sz' ps' a' b'=>st'=st/\pend'=pend/\ks'=ks/\qaz σ Φ vs vs'/\ts'=[]/\sz'=sz/\ps'=ps/\a'=a/\b'=b
 |_,_=>False
structure FitH (n:Nat) (σ:List (Nat × Nat)) (Φ:List (Nat × List AV)) (H H':Heap):Prop where
 nd1:(σ.map (·.1)++Φ.map (·.1)).Nodup
 nd2:(σ.map (·.2)).Nodup
 nd3:(H'.ents.map (·.1)).Nodup
 lt:∀x,x∈σ->x.2 < H'.n
 idn:∀x,x∈σ->x.2 < n->x.1=x.2
 num:n<=H'.n
 src:∀e,e∈H'.ents->∃b k,(b,e.1)∈σ/\H.get b=some k/\qhp σ Φ k e.2
 frz:∀x,x∈Φ->∃cs,H.get x.1=some (.cells cs)/\qaz σ Φ cs x.2/\qa9 x.2=true
theorem FitH.nothing{H:Heap}:FitH 0 [] [] H ⟨0,[[]]⟩ where
 nd1:=jS
 nd2:=jS
 nd3:=jS
 lt:=fun x h=>by cases h
 idn:=fun x h=>by cases h
 num:=jc _
 src:=fun e he=>by simp[Heap.ents]at he
 frz:=fun x h=>by cases h
section
variable {n:Nat} {σ:List (Nat × Nat)} {Φ:List (Nat × List AV)} {ρ:Place} {H H':Heap} {w:World}
def qei(n:Nat) (σ:List (Nat × Nat)) (Φ:List (Nat × List AV)) (ρ:Place) (w:World) (hw:∀k,ρ.B k->w.heap[k]? = ρ.W.heap[k]?):Place:=
 ⟨fun b=>if b < n then ρ b else (qdr b σ).bind ρ.at_,w,fun k=>ρ.B k\/∃b cs l,(b,cs)∈Φ/\ρ b=some l/\l.cb=k,
  fun g hg=>⟨.inl (ρ.gl g hg).1,let ⟨m,hm⟩:=(ρ.gl g hg).2;⟨m,by rw[World.cell?,hw g (ρ.gl g hg).1];exact hm⟩⟩,
  fun g hg=>⟨.inl (ρ.gi g hg).1,let ⟨v,hm,hv⟩:=(ρ.gi g hg).2;⟨v,by rw[World.cell?,hw g (ρ.gi g hg).1];exact hm,hv⟩⟩,
  fun x hx=>⟨.inl (ρ.gp x hx).1,fun i n hi=>by rw[World.cell?,hw x.1 (ρ.gp x hx).1];exact(ρ.gp x hx).2 i n hi⟩,
  fun x hx=>⟨.inl (ρ.gx x hx).1,let ⟨t,fz,h⟩:=(ρ.gx x hx).2;⟨t,fz,(hw x.1 (ρ.gx x hx).1).trans h⟩⟩⟩
theorem FitH.fits(f:FitH n σ Φ H H') (sm:Sim ρ H w):Fits σ Φ ρ (qei n σ Φ ρ w sm.below) H w where
 le:=⟨fun _ _ h=>by simp[Place.bare]at h,fun k hk=>⟨.inl hk,sm.below k hk⟩,sm.os,sm.tape,sm.output⟩
 now:=fun _ _=>rfl
 ren:=fun b b' h l hl=>by
  have hm:=qws h;show (if b' < n then ρ b' else (qdr b' σ).bind ρ.at_)=some l;split
  next hlt=>have:=f.idn _ hm hlt;simp only at this;subst this;exact hl
  ·rw[qu9 f.nd2 hm];exact hl
 frz:=fun b cs' h=>by obtain⟨cs,h1,h2,h3⟩:=f.frz _ (qr6 h);obtain⟨l,hl,_⟩:=sm.block h1;exact⟨cs,l,h1,hl,.inr ⟨b,cs',l,qr6 h,hl,rfl⟩,h2,h3⟩
theorem qew{hw:∀k,ρ.B k->w.heap[k]? = ρ.W.heap[k]?} (f:FitH n σ Φ H H') {b b':Nat} (h:(b,b')∈σ):(qei n σ Φ ρ w hw) b'=ρ b:=by
 show (if b' < n then ρ b' else (qdr b' σ).bind ρ.at_)=ρ b;split
 next hlt=>have:=f.idn _ h hlt;simp only at this;rw[this]
 ·rw[qu9 f.nd2 h];rfl
theorem qr5{t:Nat}:∀{ks:List Nat} {vs vs':List AV} {v:AV},qaz σ Φ vs vs'->qgw t ks vs'=some v->∃u,qgw t ks vs=some u/\qat σ Φ u v
 |[],_,_,_,_,h=>by simp[qe8,qk2]at h
 |k::ks,[],vs',v,hf,h=>by simp only[qaz]at hf;subst hf;simp[qe8,qk2]at h
 |k::ks,a::r,[],v,hf,h=>by simp[qaz]at hf
 |k::ks,a::r,a'::r',v,hf,h=>by
  simp only[qaz]at hf;rw[qe8]at h ⊢;simp only at h ⊢;split at h
  next hb=>simp only[sj]at h;subst h;exact⟨a,by simp[hb],hf.1⟩
  next hb=>obtain⟨u,h1,h2⟩:=qr5 hf.2 h;exact⟨u,by simp[hb,h1],h2⟩
theorem FitH.sim(f:FitH n σ Φ H H') (sm:Sim ρ H w) (hn:n<=H.n):Sim (qei n σ Φ ρ w sm.below) H' w where
 base:=fun k hk=>by
  rcases hk with hk|⟨b,cs,l,h1,h2,rfl⟩
  ·exact sm.base k hk
  ·obtain⟨cs0,g1,_⟩:=f.frz _ h1;obtain⟨l',hl',_,hlt,_⟩:=sm.block g1;simp only at hl';rw[h2]at hl';cases hl';exact hlt
 below:=fun _ _=>rfl
 os:=rfl
 tape:=rfl
 output:=rfl
 dom:=fun b hb=>by
  show (if b < n then ρ b else (qdr b σ).bind ρ.at_)=none;have:=f.num;rw[if_neg (by omega)];cases h:qdr b σ with
  |none=>rfl
  |some c=>have:=f.lt _ (qr4 h);simp only at this;omega
 nodup:=f.nd3
 live:=fun e he=>by
  obtain⟨b,k,h1,h2,h3⟩:=f.src e he;obtain⟨l,g1,g2,g3,g4⟩:=sm.block h2;refine⟨l,by rw[qew f h1];exact g1,?_,g3,?_⟩
  ·rintro(h|⟨b2,cs,l2,m1,m2,m3⟩)
   ·exact g2 h
   ·obtain⟨cs0,q1,_⟩:=f.frz _ m1;have:=sm.inj _ _ (Heap.get_mem h2) (Heap.get_mem q1) l l2 g1 m2 m3.symm;simp only at this;have hd:=(yb.1 f.nd1).2.2 b (ji.2 ⟨_,h1,rfl⟩) b2 (ji.2 ⟨_,m1,rfl⟩);exact hd this
  ·have run:=fun {v v':AV} {x:Value}=>Fits.run (f.fits sm) sm (SizeOf.sizeOf v') (v:=v) (v':=v') (x:=x) (jc _);have cellsF:∀{cs cs':List AV},qaz σ Φ cs cs'->(∀i (h:i < cs.length),∃x,w.cell? ⟨l.cb,l.off+i,none⟩=some x/\VR ρ cs[i] x)->cs'.length=cs.length /\
     ∀i (h:i < cs'.length),∃x,w.cell? ⟨l.cb,l.off+i,none⟩=some x/\VR (qei n σ Φ ρ w sm.below) cs'[i] x:=fun {cs cs'} h3 hv=>by
    obtain⟨k1,k2⟩:=qe0 h3;exact⟨k1,fun i hi=>let ⟨x,hx,hxv⟩:=hv i (by omega);⟨x,hx,run hxv (k2 i (by omega) hi)⟩⟩
   generalize he2:e.2=k' at h3 ⊢;cases k<;>cases k'<;>simp only[qhp]at h3
   ·obtain⟨k1,k2⟩:=cellsF h3 g4.2.2;exact⟨by rw[k1];exact g4.1,g4.2.1,k2⟩
   next es es'=>obtain⟨ents,clock,q1,q2,q3,q4⟩:=g4;obtain⟨k1,k2⟩:=qe0 h3.1;obtain⟨m1,m2⟩:=qe0 h3.2;simp only[jJ]at k1;refine⟨ents,clock,q1,by omega,fun i a b=>?_,q4⟩;have r1:=k2 i (by simpa using(by omega:i < es.length)) (by simpa using a);have r2:=m2 i (by simpa using(by omega:i < es.length)) (by simpa using a);simp only[jT]at r1 r2;exact⟨run (q3 i (by omega) b).1 r1,run (q3 i (by omega) b).2 r2⟩
   ·obtain⟨rfl,h3⟩:=h3;obtain⟨k1,k2⟩:=cellsF h3 g4.1.2.2;exact⟨⟨by rw[k1];exact g4.1.1,g4.1.2.1,k2⟩,g4.2.1,by rw[k1];exact g4.2.2⟩
   ·obtain⟨rfl,h4,h5,h3⟩:=h3;obtain⟨k1,k2⟩:=cellsF h3 g4.1.2.2;obtain⟨c,lo,hi,q1,q2⟩:=g4.2.2.2;exact⟨⟨by rw[k1];exact g4.1.1,g4.1.2.1,k2⟩,g4.2.1,h5,c,lo,hi,q1,q2.imp id fun h=>jK h h4⟩
   ·obtain⟨rfl,rfl⟩:=h3;exact g4
   ·obtain⟨rfl,rfl⟩:=h3;obtain⟨h0,q,a1,a2,a3,a4,a5⟩:=g4;exact⟨h0,q,.inl a1,(sm.below _ a1).trans a2,a3,a4,RngR.says_mono (f.fits sm).le.bare a5⟩
   ·obtain⟨rfl,rfl,rfl,h3,rfl,rfl,rfl,rfl,rfl⟩:=h3;obtain⟨r,q1,q2,q3,q4,q5,q6,q7,q8⟩:=g4;refine⟨r,q1,q2,q3,q4,q5,q6,q7,fun t v hv=>?_⟩;split at hv
    next u hu=>simp only[sj]at hv;subst hv;obtain⟨x,p1,p2⟩:=qr5 h3 hu;exact run (q8 t x (by simp[p1])) p2
    ·simp[qfo,qov]at hv
 inj:=fun e e' he he' l l' hl hl' hc=>by obtain⟨b,k,h1,h2,_⟩:=f.src e he;obtain⟨b',k',h1',h2',_⟩:=f.src e' he';rw[qew f h1]at hl;rw[qew f h1']at hl';have:=sm.inj _ _ (Heap.get_mem h2) (Heap.get_mem h2') l l' hl hl' hc;simp only at this;subst this;exact zg8 (yb.1 f.nd1).1 h1 h1'
theorem FitH.since{b:Base} (f:FitH b.n σ Φ H H') (sm:Sim ρ H w) (h:Since b ρ H w):Since b (qei b.n σ Φ ρ w sm.below) H' w where
 fz:=fun k hk=>let ⟨h1,h2⟩:=h.fz k hk;⟨.inl h1,(sm.below k h1).trans h2⟩
 os:=sm.os.trans h.os
 tape:=sm.tape.trans h.tape
 output:=sm.output.trans h.output
 size:=h.size
 keeps:=h.keeps
 rows:=fun e he l hl=>by obtain⟨c,k,h1,h2,_⟩:=f.src e he;rw[qew f h1]at hl;exact h.rows _ (Heap.get_mem h2) l hl
 cold:=fun k hk=>by
  rcases hk with hk|⟨c,cs,l,h1,h2,rfl⟩
  ·exact h.cold k hk
  ·obtain⟨cs0,g1,_⟩:=f.frz _ h1;exact .inr (h.rows _ (Heap.get_mem g1) l h2)
 low:=fun k hk=>by show (if k < b.n then ρ k else _)=_;rw[if_pos hk];exact h.low k hk
 num:=f.num
end
def Fit(n:Nat) (σ:List (Nat × Nat)) (Φ:List (Nat × List AV)) (s s':St):Prop:=s'.ks=s.ks/\s'.sz=s.sz/\s'.ts=[]/\qaz σ Φ s.vs s'.vs/\FitH n σ Φ s.H s'.H
theorem FitH.mark{n n0 r:Nat} {σ:List (Nat × Nat)} {Φ:List (Nat × List AV)} {ρ:Place} {H H':Heap} {w:World} (f:FitH n σ Φ H H') (sm:Sim ρ H w) (m:Mk n0 ρ H w r):Mk n0 (qei n σ Φ ρ w sm.below) H' w r where
 ge:=m.ge
 obj:=m.obj
 cold:=by
  rintro(h|⟨b,cs,l,h1,h2,rfl⟩)
  ·exact m.cold h
  ·obtain⟨cs0,g1,_⟩:=f.frz _ h1;exact m.apart _ (Heap.get_mem g1) l h2 rfl
 apart:=fun e he l hl=>by obtain⟨b,k,h1,h2,_⟩:=f.src e he;rw[qew f h1]at hl;exact m.apart _ (Heap.get_mem h2) l hl
theorem At.fit{b:Base} {s s':St} {a:Act} {w:World} {σ:List (Nat × Nat)} {Φ:List (Nat × List AV)} (h:At b s a w) (f:Fit b.n σ Φ s s'):At b s' a w:=by
 obtain⟨ρ,h1,h2,h3,h4⟩:=h;obtain⟨f1,f2,f3,f4,f5⟩:=f;refine⟨_,f5.since h2 h1,f5.sim h2 h1.num,⟨by rw[f2];exact h3.size,fun t v hv=>?_⟩,let ⟨rs,q1,q2,q3⟩:=h4;⟨rs,q1,q2,fun r hr=>f5.mark h2 (q3 r hr)⟩⟩;simp only[St.get,f3,f1,qfo]at hv;split at hv
 next u hu=>simp only[sj]at hv;subst hv;obtain⟨x,g1,g2⟩:=qr5 f4 hu;exact Fits.run (f5.fits h2) h2 _ (jc _) (h3.val t x (by simp[St.get,g1])) g2
 ·cases hv
def WpSr(C:Ctx) (n:Nat) (r:Option Nat) (c:Code) (s:St) (Q:Out->St->Prop):Prop:=∀b a w,b.n=n->At b s a w->∀K:Exit->Act->World->Prop,
 (∀x s' a' w',Q x s'->At b s' a' w'->K x.exit_ a' w')->Goes C r c K a w
section
abbrev WpS(C:Ctx) (n:Nat) (c:Code) (s:St) (Q:Out->St->Prop):Prop:=WpSr C n none c s Q
variable {C:Ctx} {n:Nat} {r:Option Nat} {s:St} {Q:Out->St->Prop}
theorem At.fresh{b:Base} {a:Act} {w:World} (h:At b s a w):At b { s with ts:=[] } a w:=let ⟨ρ,h1,h2,h3,h4⟩:=h;⟨ρ,h1,h2,h3.fresh,h4⟩
theorem qa4(h:Q .normal s):WpSr C n r .skip s Q:=fun _ a w _ ha _ hK=>wpIn_skip (hK .normal s a w h ha)
theorem qcm{l:Nat} (h:Q .normal s):WpSr C n r (.label l) s Q:=fun _ a w _ ha _ hK=>wpIn_label (hK .normal s a w h ha)
theorem qau{id:Nat} (h:Q (.exit id) s):WpSr C n r (.exit id) s Q:=fun _ a w _ ha _ hK=>wpIn_exit (hK (.exit id) s a w h ha)
theorem qa3(h:Q .ret s):WpSr C n r .ret s Q:=fun _ a w _ ha _ hK=>wpIn_ret (hK .ret s a w h ha)
theorem qai{call:qcj} {id:Nat} {ops:Array Oper} (hC:CallOK C call) (h:∃s',qff C call ops ops.toList { s with ts:=[] }=some s'/\Q .normal s'):WpSr C n r (.region id ops false) s Q:=by
 intro b a w hb ha K hK;obtain⟨s',h1,h2⟩:=h;obtain⟨ρ,g1,g2,g3,g4⟩:=ha;apply wpIn_region;have:=zgd hC (ops:=ops) (r:=r) (Q:=K) (l:=ops.toList) (i:=0) (s:={ s with ts:=[] }) (a:=a) (ρ:=ρ) (w:=w) (fun j=>by simp) h1 g2 g3.fresh
  fun a' w' ρ' k1 k2 k3 k4=>hK .normal s' a' w' h2 ⟨ρ',g1.step k2,k1,k3,k4 ▸ g4.step k2⟩
 rw[List.range_eq_range'];simpa using this
theorem wps_draw{call:qcj} {id:Nat} {ops:Array Oper} (hm:C.P.follows .mixedOrders=true) (hC:CallOK C call) (h:∃s',ql5 C call ops { s with ts:=[] }=some s'/\Q .normal s'):WpSr C n r (.region id ops true) s Q:=by intro b a w hb ha K hK;obtain⟨s',h1,h2⟩:=h;obtain⟨ρ,g1,g2,g3,g4⟩:=ha;have g2':Sim ρ ({ s with ts:=[] }:St).H w:=g2;exact zio hC hm h1 g2' g3.fresh fun a' w' ρ' k1 k2 k3 k4=>hK .normal s' a' w' h2 ⟨ρ',g1.step k2,k1,k3,k4 ▸ g4.step k2⟩
theorem qcc{call:qcj} {id:Nat} {ops:Array Oper} (hm:C.P.follows .mixedOrders=true) (hC:CallOK C call) (hd:qtb ops=true)
  (h:∀B:Array Nat,B=Region.before ops->∃d,qnl C call ops B s.H.n 0 ops.toList ⟨qbn (qas ops.toList { s with ts:=[] }) ops.size,[],[],[]⟩=some d /\
  qcb C call B (qbn (qas ops.toList { s with ts:=[] }) ops.size).H d.hs d.rs=true/\Q .normal { d.s with H:=d.s.H.lay (qc8 d.ps) }):WpSr C n r (.region id ops true) s Q:=by
 obtain⟨d,h1,h2,h3⟩:=h _ rfl;refine wps_draw hm hC ⟨{ d.s with H:=d.s.H.lay (qc8 d.ps) },?_,h3⟩;unfold ql5;simp only[hd,h1,jb,h2,St.wH_eq]
theorem qam{c d:Code} (h:WpSr C n r c s (qan (fun s=>WpSr C n r d s Q) Q)):WpSr C n r (.seq c d) s Q:=by
 intro b a w hb ha K hK;refine wpIn_seq (h b a w hb ha _ fun x s' a' w' hq ha'=>?_).wp;cases x with
 |normal=>exact(hq b a' w' hb ha' K fun x s2 a2 w2 q1 q2=>hK x s2 a2 w2 q1 q2).wp
 |exit k=>exact hK _ s' a' w' hq ha'
 |goto k=>exact hK _ s' a' w' hq ha'
 |ret=>exact hK _ s' a' w' hq ha'
theorem qay{c:Operand} {x y:Code} {t:Bool} (hc:qc0 s c=some (.bool t)) (h1:t=true->WpSr C n r x s Q) (h2:t=false->WpSr C n r y s Q):WpSr C n r (.cond c x y) s Q:=by
 intro b a w hb ha K hK;obtain⟨ρ,g1,g2,g3,g4⟩:=ha;have hvr:=qbg g3 hc;have hce:a.eval c=.bool t:=by cases hq:a.eval c<;>rw[hq]at hvr<;>cases hvr;rfl
 cases t with
 |true=>exact wpIn_cond_true hce (h1 rfl b a w hb ⟨ρ,g1,g2,g3,g4⟩ K hK).wp
 |false=>exact wpIn_cond_false hce (h2 rfl b a w hb ⟨ρ,g1,g2,g3,g4⟩ K hK).wp
theorem qaj{c:Operand} {x y:Code} (hc:qc0 s c=some (.bool true)) (h:WpSr C n r x s Q):WpSr C n r (.cond c x y) s Q:=qay hc (fun _=>h) fun h=>by cases h
theorem qag{c:Operand} {x y:Code} (hc:qc0 s c=some (.bool false)) (h:WpSr C n r y s Q):WpSr C n r (.cond c x y) s Q:=qay hc (fun h=>by cases h) fun _=>h
theorem wq{c d:Code} (h:WpSr C n r c s (qan (fun s=>WpSr C n r d s Q) Q)):WpSr C n r (.seq c d) s Q:=qam h
theorem qa7{id:Nat} {c:Code} (h:WpSr C n r c s (qah id Q)):WpSr C n r (.block id c) s Q:=by
 intro b a w hb ha K hK;refine wpIn_block (h b a w hb ha _ fun x s' a' w' hq ha'=>?_).wp;cases x with
 |exit k=>
  show Exit.inBlock id K (.exit k) a' w';unfold Exit.inBlock;simp only;rw[qzw]at hq;split at hq
  next hk=>rw[if_pos hk];exact hK .normal s' a' w' hq ha'
  next hk=>rw[if_neg hk];exact hK (.exit k) s' a' w' hq ha'
 |normal=>exact hK _ s' a' w' hq ha'
 |goto k=>exact hK _ s' a' w' hq ha'
 |ret=>exact hK _ s' a' w' hq ha'
theorem WpSr.mono{c:Code} {Q':Out->St->Prop} (h:WpSr C n r c s Q) (hq:∀x s',Q x s'->Q' x s'):WpSr C n r c s Q':=
 fun b a w hb ha K hK=>h b a w hb ha K fun x s' a' w' h1 h2=>hK x s' a' w' (hq x s' h1) h2
theorem qlz{t:Nat} {u v:AV}:∀{ks:List Nat} {pre post:List AV} {x:AV},qgw t ks (pre++v::post)=some x->qgw t ks (pre++u::post)=some x\/(x=v/\qgw t ks (pre++u::post)=some u/\ks.getD pre.length 0=t)
 |[],_,_,_,h=>by simp[qe8,qk2]at h
 |q::ks,[],post,x,h=>by
  simp only[jq]at h ⊢;rw[qe8]at h ⊢;simp only at h ⊢;split at h
  next hb=>simp only[sj]at h;exact .inr ⟨h.symm,by simp[hb],by simpa using Nat.eq_of_beq_eq_true hb⟩
  next hb=>exact .inl (by simp[hb,h])
 |q::ks,p::pre,post,x,h=>by
  simp only[List.cons_append]at h ⊢;rw[qe8]at h ⊢;simp only at h ⊢;split at h
  next hb=>exact .inl (by simp[hb,h])
  ·rename_i hb;rcases qlz (u:=u) h with h1|⟨h1,h2,h3⟩
   ·exact .inl (by simp[hb,h1])
   ·exact .inr ⟨h1,by simp[hb,h2],by simpa using h3⟩
theorem qq0{ks:List Nat} {pre post:List AV} {sz z:Nat} {H:Heap} {c:Code} (h1:WpSr C n r c ⟨ks,pre++.nilS::post,[],z,H⟩ Q) (h2:WpSr C n r c ⟨ks,pre++.eslc::post,[],z,H⟩ Q) :
  WpSr C n r c ⟨ks,pre++.fslc sz []::post,[],z,H⟩ Q:=by
 intro b a w hb ha K hK;obtain⟨ρ,g1,g2,g3,g4⟩:=ha;have get:∀{vs:List AV} {t:Nat},St.get ⟨ks,vs,[],z,H⟩ t=qgw t ks vs:=fun {vs t}=>by simp only[St.get,qfo];cases qgw t ks vs<;>rfl
 by_cases hn:a.tmps.getD (ks.getD pre.length 0) undef=.slice none 0 0
 ·refine h1 b a w hb ⟨ρ,g1,g2,⟨g3.size,fun t v hv=>?_⟩,g4⟩ K hK;rw[get]at hv;rcases qlz (u:=.fslc sz []) hv with h|⟨rfl,h,ht⟩
  ·exact g3.val t v (by rw[get];exact h)
  ·rw[<- ht,hn];exact .nilS
 ·refine h2 b a w hb ⟨ρ,g1,g2,⟨g3.size,fun t v hv=>?_⟩,g4⟩ K hK;rw[get]at hv;rcases qlz (u:=.fslc sz []) hv with h|⟨rfl,h,ht⟩
  ·exact g3.val t v (by rw[get];exact h)
  ·have hv2:=g3.val t _ (by rw[get];exact h);rw[ht]at hn;revert hn hv2;generalize a.tmps.getD t undef=x;intro hn hv2;cases hv2 with
   |fslc _ _ cb off cap vs=>exact .eslc _ _
   |fnil=>exact absurd rfl hn
   |fnone=>exact .eslc _ _
theorem WpSr.fit{c:Code} {s':St} (σ:List (Nat × Nat)) (Φ:List (Nat × List AV)) (f:Fit n σ Φ s s') (h:WpSr C n r c s' Q):WpSr C n r c s Q:=
 fun b a w hb ha K hK=>h b a w hb (ha.fit (hb ▸ f)) K hK
theorem qg2{C:Ctx} {n:Nat} {r:Option Nat} {c d:Code} {s:St} {Q:Out->St->Prop} (s0:St) (h1:WpSr C n r d s0 Q) (h2:(∀s',(∃σ Φ,Fit n σ Φ s' s0)->WpSr C n r d s' Q)->WpSr C n r c s (qan (fun s=>WpSr C n r d s Q) Q)):WpSr C n r (.seq c d) s Q:=
 qam (h2 fun _ ⟨σ,Φ,f⟩=>.fit σ Φ f h1)
theorem wps_loop{ι:Type} (inv:ι->St) (φ:ι->Prop) (m:ι->Nat) {c:Code} (step:∀x,φ x->∀B:St->Prop,(∀s' y,m y < m x->φ y->(∃σ Φ,Fit n σ Φ s' (inv y))->B s')->WpSr C n r c (inv x) (qan B Q)) :
  ∀x,φ x->WpSr C n r (.loop c) (inv x) Q:=by
 have key:∀k x,m x=k->φ x->WpSr C n r (.loop c) (inv x) Q:=by
  intro k;induction k using Nat.strongRecOn with
  |_ k ih=>
   intro x hm hx b a w hb ha K hK;refine LoopGoes.round (step x hx (fun s'=>∃y,m y < m x/\φ y/\∃σ Φ,Fit n σ Φ s' (inv y)) (fun s' y h1 h2 h3=>⟨y,h1,h2,h3⟩) b a w hb ha _ fun o s' a' w' hq ha'=>?_).wp;cases o with
   |normal=>obtain⟨y,hy,hφ,σ,Φ,hf⟩:=hq;exact ih (m y) (by omega) y rfl hφ b a' w' hb (ha'.fit (hb ▸ hf)) K fun x s2 a2 w2 q1 q2=>hK x s2 a2 w2 q1 q2
   |exit k=>exact hK _ s' a' w' hq ha'
   |goto k=>exact hK _ s' a' w' hq ha'
   |ret=>exact hK _ s' a' w' hq ha'
 exact fun x hx=>key _ x rfl hx
theorem qb1{ι:Type} (inv:ι->St) (φ:ι->Prop) (m:ι->Nat) (σ:List (Nat × Nat)) (Φ:List (Nat × List AV)) (x:ι) (hx:φ x) {c:Code} (hf:Fit n σ Φ s (inv x))
  (step:∀x,φ x->∀B:St->Prop,(∀s' y,m y < m x->φ y->(∃σ Φ,Fit n σ Φ s' (inv y))->B s')->WpSr C n r c (inv x) (qan B Q)):WpSr C n r (.loop c) s Q:=
 .fit σ Φ hf (wps_loop inv φ m step x hx)
def qz9(body:Code) (R:Code->St->Prop) (Q:Out->St->Prop):Out->St->Prop
 |.goto l,s=>match findLabel body l with
  |some rest=>R rest s
  |none=>Q (.goto l) s
 |x,s=>Q x s
theorem zel{ι:Type} (at_:ι->Code) (inv:ι->St) (φ:ι->Prop) (m:ι->Nat) {body:Code} (x:ι) (hx:φ x) (h0:at_ x=body)
  (step:∀x,φ x->∀B:Code->St->Prop,(∀s' y,m y < m x->φ y->(∃σ Φ,Fit n σ Φ s' (inv y))->B (at_ y) s')->WpSr C n r (at_ x) (inv x) (qz9 body B Q)):WpSr C n r (.scope body) (inv x) Q:=by
 have key:∀k x,m x=k->φ x->∀b a w,b.n=n->At b (inv x) a w->∀K:Exit->Act->World->Prop,
   (∀x s' a' w',Q x s'->At b s' a' w'->K x.exit_ a' w')->ScopeGoes (fen r) 0 C.P body K (at_ x) a w:=by
  intro k;induction k using Nat.strongRecOn with
  |_ k ih=>
   intro x hm hx b a w hb ha K hK;refine ScopeGoes.pass (step x hx (fun rest s'=>∃y,m y < m x/\φ y/\rest=at_ y/\∃σ Φ,Fit n σ Φ s' (inv y)) (fun s' y h1 h2 h3=>⟨y,h1,h2,rfl,h3⟩) b a w hb ha _ fun o s' a' w' hq ha'=>?_).wp;cases o with
   |goto l=>
    show Exit.inScope _ _ _ _ _ (.goto l) a' w';unfold Exit.inScope;simp only[qz9]at hq ⊢;cases hf:findLabel body l with
    |some rest=>simp only[hf]at hq ⊢;obtain⟨y,hy,hφ,rfl,σ,Φ,hft⟩:=hq;exact ih (m y) (by omega) y rfl hφ b a' w' hb (ha'.fit (hb ▸ hft)) K fun x s2 a2 w2 q1 q2=>hK x s2 a2 w2 q1 q2
    |none=>simp only[hf]at hq ⊢;exact hK _ s' a' w' hq ha'
   |normal=>exact hK _ s' a' w' hq ha'
   |exit k=>exact hK _ s' a' w' hq ha'
   |ret=>exact hK _ s' a' w' hq ha'
 intro b a w hb ha K hK;subst h0;exact ScopeGoes.wp (key _ x rfl hx b a w hb ha K hK)
end
section
variable {C:Ctx}
theorem qn6{ρ ρ':Place} {H:Heap} {w:World} (sm:Sim ρ H w) (low:∀k,k < H.n->ρ' k=ρ k):∀b l,ρ b=some l->ρ' b=some l:=fun b l h=>by
 rcases jR b H.n with hb|hb
 ·rw[low b hb];exact h
 ·rw[sm.dom b hb]at h;cases h
theorem Since.poke{b:Base} {ρ:Place} {H:Heap} {w:World} (h:Since b ρ H w) {k:Nat} (o:Obj) (hk:b.w.heap.size<=k):Since b ρ H (w.putObj k o) where
 fz:=h.fz
 os:=h.os
 tape:=h.tape
 output:=h.output
 size:=by rw[yT];exact h.size
 keeps:=fun j hj hn=>by rw[yi (by omega)];exact h.keeps j hj hn
 rows:=h.rows
 cold:=h.cold
 low:=h.low
 num:=h.num
theorem qox{P:Program} {fn:Func} {tmps:Array Value} {R:Ending->World->Prop} {b:Base} {ρ:Place} {H:Heap}:∀(rs:List Nat) (w:World),rs.Nodup->(∀r,r∈rs->Mk b.w.heap.size ρ H w r)->Sim ρ H w->Since b ρ H w ->
  (∀w',Sim ρ H w'->Since b ρ H w'->∃v,(results fn tmps).run P w'=.ok v w'/\R (.returned v) w')->LeavesInM Fence.wide 0 P fn tmps R (rs.map mkD) .returning w
 |[],w,_,_,s,t,h=>h w s t
 |r::rs,w,nd,hm,s,t,h=>by have m:=hm r jA;rw[jr]at nd;refine⟨by simp,.inl ⟨r,w.putObj r (.deferred none),rfl,run_takeDeferred m.obj,?_⟩⟩;refine qox rs _ nd.2 (fun q hq=>?_) (s.poke _ m.cold m.apart) (t.poke _ m.ge) h;have mq:=hm q (jp _ hq);exact⟨mq.ge,by rw[yi (show q≠r from fun e=>nd.1 (e ▸ hq))];exact mq.obj,mq.cold,mq.apart⟩
theorem qa1 {f : FuncId} {fn : Func} {body : Code} {args : List AV} {H H' : Heap} {v : AV} {s0 : St} (hf : C.P.funcs[f]? = some fn) (hname : (fn.name == "runtime.NumGoroutine") = false)
  (hb:fn.body=some body) (he:enterF C f fn args H=some s0)
  (h:WpS C H.n body s0 fun x s=>(x=.normal\/x=.ret)/\∃vs,retVal C s fn.results.toList=some vs/\∃σ Φ,qat σ Φ (oneOr vs) v/\FitH H.n σ Φ s.H H'):CallAt C f args H v H':=by
 intro ρ w xs sm hx;refine .inr ⟨f,xs.toArray,?_,?_⟩
 ·have hname' : ¬ fn.name = "runtime.NumGoroutine" := fun e => by rw [e] at hname; simp at hname
  simp[callFunc,hf,hname',hb]
 ·refine callsIn_of_wp_marks hf hb trivial ?_;obtain⟨o1,o2⟩:=sm.opened;have hlen:xs.length=args.length:=hx.1;have env0:EnvR ρ { ks:=C.keep f,vs:=qsj (C.keep f),ts:=[],sz:=args.length+(fn.ntmps - args.length),H:=⟨H.n,[]::H.fs⟩ }
    { tmps:=xs.toArray++Array.replicate (fn.ntmps - xs.toArray.size) undef,defers:=[] }:=by
   refine⟨by simp[hlen],fun t u hu=>?_⟩;simp only[St.get]at hu;split at hu
   next hl=>have:=qk1 hl;simp only[sj]at hu;subst hu;subst this;exact .undef _
   ·simp[qfo,qov]at hu
  obtain⟨e1,hH1⟩:=qls (i:=0) he env0 hx fun j hj=>by simp only[jO,jE];rw[Array.getElem?_append_left (by simpa using hj)];simp[hj]
  have hH:s0.H=⟨H.n,[]::H.fs⟩:=hH1
  let b:Base:=⟨H.n,fun k=>∃e,e∈H.ents/\∃l,ρ e.1=some l/\l.cb=k,ρ,w,[]⟩
  have since0:Since b ρ s0.H w:=by rw[hH];exact⟨fun k hk=>⟨hk,rfl⟩,rfl,rfl,rfl,jc _,fun _ _ _=>rfl,fun e he l hl=>.inl ⟨e,he,l,hl,rfl⟩,fun k hk=>.inl hk,fun _ _=>rfl,jc _⟩
  refine(h b _ w rfl ⟨ρ,since0,by rw[hH];exact o1,e1,.of_eq rfl⟩ _ fun x s a' w' hq ha'=>?_).wp;obtain⟨hx1,vs,hvs,σ,Φ,hfv,hfh⟩:=hq;obtain⟨ρ1,k1,k2,k3,rs,hrs,hnd,hmk⟩:=ha';have fin:LeavesInM Fence.wide 0 C.P fn a'.tmps (za7 ρ H w v H') a'.defers .returning w':=by
   have hrs:a'.defers=rs.map mkD:=(by rw[hrs];exact jg _);rw[hrs];refine qox (b:=b) rs w' hnd hmk k2 k1 fun w' k2 k1=>?_;obtain⟨y,r1,r2⟩:=qqg k2 k3 hvs;have run:=Fits.run (hfh.fits k2) k2 _ (jc _) r2 hfv;have sim2:=hfh.sim k2 k1.num;have sin2:=FitH.since (b:=b) hfh k2 k1;refine⟨y,r1,y,_,rfl,run,sim2,?_⟩;exact⟨⟨qn6 sm sin2.low,sin2.fz,sin2.os,sin2.tape,sin2.output⟩,sin2.size,fun k hk hn=>sin2.keeps k hk fun⟨e,he,l,hl,hlk⟩=>hn e he l hl hlk,
    fun e he l hl=>sin2.rows e he l hl,sin2.num,sin2.low,sin2.cold⟩
  rcases hx1 with rfl|rfl
  ·exact fin
  ·exact fin
theorem zem{n:Nat} {s:St} {Q:Out->St->Prop} {call:qcj} {g:Operand} {ps:Array Tmp} {assign body:Code} (hC:CallOK C call) (h:∃x s',qij C call g ps assign body s=some (x,s')/\Q x s'):WpS C n (.rangeFunc g ps assign body) s Q:=by intro b a w hb ha K hK;obtain⟨x,s',h1,h2⟩:=h;obtain⟨ρ,g1,g2,g3,g4⟩:=ha;exact zat hC h1 ρ a w K g2 g3 fun a' w' ρ' k1 k2 k3 k4=>hK x s' a' w' h2 ⟨ρ',g1.step k2,k1,k3,g4.then g1.size k2 k4⟩
theorem qvj{b:Nat} {args:List AV} {H H':Heap} {v:AV} {pend:Option Code} {ks:List Nat} {vs:List AV} {ts:List (Nat × AV)} {sz:Nat} {ps:List Nat} {assign body:Code} {s1:St}
  (hg:H.get b=some (.loop .ready pend ks vs ts sz ps assign body)) (hp:qw8 ⟨ks,vs,ts,sz,⟨H.n,[]::H.fs⟩⟩ ps args=some s1)
  (h:∀l,WpSr C H.n (some l) assign s1 fun x s=>x=.normal/\∃pend ks vs ts sz ps as' bd H1,s.H.get b=some (.loop .ready pend ks vs ts sz ps as' bd)/\s.H.set b (.loop .busy pend ks vs ts sz ps as' bd)=some H1 /\
   WpSr C H.n (some l) body { s with H:=H1 } fun x s=>∃st pend ks vs ts sz ps as' bd H2,s.H.get b=some (.loop st pend ks vs ts sz ps as' bd)/\s.H.set b (.loop (qih x).2.1 (qih x).2.2 ks vs ts sz ps as' bd)=some H2 /\
    v=.bool (qih x).1/\∃σ Φ,FitH H.n σ Φ H2 H'):qjb C b args H v H':=by
 intro ρ w xs l sm hx hl;obtain⟨l',hl',_,hlt,r,hr,q1,q2,q3,q4,q5,q6,q7⟩:=sm.block hg;rw[hl]at hl';cases hl';obtain⟨o1,o2⟩:=sm.opened;have env0:EnvR ρ ⟨ks,vs,ts,sz,⟨H.n,[]::H.fs⟩⟩ { tmps:=r.tmps,defers:=[] }:=⟨q6.symm,q7⟩;obtain⟨f1,f2,f3⟩:=qrk (fun tmps p=>tmps.setIfInBounds p.1 p.2) rfl (n:=0) hp hx env0;have f2:s1.H=⟨H.n,[]::H.fs⟩:=f2;have hps:xs.toArray.size=r.params.size:=by rw[<- q3]at f1;simpa using f1.symm
 refine⟨r.fn,_,r.assign,r.body,run_yield hr hps,?_⟩;have hz:(r.params.zip xs.toArray).foldl (fun tmps (x:Tmp × Value)=>match x with|(t,a)=>tmps.setIfInBounds t a) r.tmps=(ps.zip xs).foldl (fun tmps p=>tmps.setIfInBounds p.1 p.2) r.tmps:=by rw[<- Array.foldl_toList,Array.toList_zip,q3]
 rw[hz,q4,q5];refine roundIn_of_wpIn trivial ?_
 let b0:Base:=⟨H.n,fun k=>∃e,e∈H.ents/\∃l,ρ e.1=some l/\l.cb=k,ρ,w,[]⟩
 have since0:Since b0 ρ s1.H w:=by rw[f2];exact⟨fun k hk=>⟨hk,rfl⟩,rfl,rfl,rfl,jc _,fun _ _ _=>rfl,fun e he l hl=>.inl ⟨e,he,l,hl,rfl⟩,fun k hk=>.inl hk,fun _ _=>rfl,jc _⟩
 refine(h l.cb b0 _ w rfl ⟨ρ,since0,by rw[f2];exact o1,f3,.of_eq rfl⟩ _ fun x s a1 w1 hq ha1=>?_).wp;obtain⟨rfl,pend1,ks1,vs1,ts1,sz1,ps1,as1,bd1,H1,hk1,hset1,hw⟩:=hq;obtain⟨ρ1,k1,k2,k3,k4⟩:=ha1;obtain⟨l1,hl1,_,hlt1,r1,hr1,u1,u2,_⟩:=k2.block hk1;have hbn:b < H.n:=by
  rcases jR b H.n with hh|hh
  ·exact hh
  ·rw[sm.dom b hh]at hl;cases hl
 have hl1':ρ1 b=some l:=by rw[k1.low b hbn];exact hl
 rw[hl1']at hl1;cases hl1;refine⟨w1.putObj l.cb (.loop { r1 with state:=.busy }),run_beginRound hr1 u1,?_⟩;have hset1':s.H.set b (.loop .busy r1.pending ks1 vs1 ts1 sz1 ps1 as1 bd1)=some H1:=by rw[u2];exact hset1
 obtain⟨s4,t4⟩:=k2.turnLoop hk1 hl1' hr1 hset1';refine(hw b0 a1 _ rfl ⟨ρ1,k1.step t4,s4,k3.heap H1,k4.step t4⟩ _ fun x3 s3 a2 w2 hq2 ha2=>?_).wp;obtain⟨st2,pend2,ks2,vs2,ts2,sz2,ps2,as2,bd2,H2,hk2,hset2,hv,σ,Φ,hfh⟩:=hq2;obtain⟨ρ2,m1,m2,m3,m4⟩:=ha2;have hl2':ρ2 b=some l:=by rw[m1.low b hbn];exact hl
 obtain⟨l2,hl2,_,hlt2,r2,hr2,_⟩:=m2.block hk2;rw[hl2']at hl2;cases hl2;have fin:∀(jump:Option Code) (st':LoopState),st'=(if jump.isNone then .ready else .done)->s3.H.set b (.loop st' jump ks2 vs2 ts2 sz2 ps2 as2 bd2)=some H2->v=.bool jump.isNone ->
   ∃v' w',(Instr.endRound l.cb jump).run C.P w2=.ok v' w'/\za7 ρ H w v H' (.returned v') w':=by
  intro jump st' hst' hset hv;obtain⟨s5,t5⟩:=m2.turnLoop hk2 hl2' hr2 hset;rw[hst']at s5 t5;have m5:=m1.step t5;have sim2:=hfh.sim s5 m5.num;have sin2:=FitH.since (b:=b0) hfh s5 m5;refine⟨_,_,run_endRound jump hr2,.bool jump.isNone,_,rfl,by rw[hv];exact .bool _,sim2,?_⟩;exact⟨⟨qn6 sm sin2.low,sin2.fz,sin2.os,sin2.tape,sin2.output⟩,sin2.size,fun k hk hn=>sin2.keeps k hk fun⟨e,he,l,hl,hlk⟩=>hn e he l hl hlk,
   fun e he l hl=>sin2.rows e he l hl,sin2.num,sin2.low,sin2.cold⟩
 cases x3 with
 |normal=>exact fin none _ rfl hset2 hv
 |ret=>exact fin (some .ret) _ rfl hset2 hv
 |exit id=>exact fin (some (.exit id)) _ rfl hset2 hv
 |goto q=>exact fin (some (.goto q)) _ rfl hset2 hv
end
theorem FitH.empty{H:Heap}:FitH 0 [] [] H ⟨0,[]⟩ where
 nd1:=jS
 nd2:=jS
 nd3:=jS
 lt:=fun x h=>by cases h
 idn:=fun x h=>by cases h
 num:=jc _
 src:=fun e he=>by simp[Heap.ents]at he
 frz:=fun x h=>by cases h
theorem FitH.froze{H:Heap} {Φ:List (Nat × List AV)} (nd:(Φ.map (·.1)).Nodup) (frz:∀x,x∈Φ->∃cs,H.get x.1=some (.cells cs)/\qaz [] Φ cs x.2/\qa9 x.2=true):FitH 0 [] Φ H ⟨0,[]⟩ where
 nd1:=by simpa using nd
 nd2:=jS
 nd3:=jS
 lt:=fun x h=>by cases h
 idn:=fun x h=>by cases h
 num:=jc _
 src:=fun e he=>by simp[Heap.ents]at he
 frz:=frz
section
variable {C:Ctx} {f:FuncId} {args args':List AV} {v:AV}
theorem Sim.bare{ρ:Place} {H:Heap} {w:World} (s:Sim ρ H w):Sim ρ.bare ⟨0,[]⟩ w where
 base:=s.base
 below:=s.below
 os:=s.os
 tape:=s.tape
 output:=s.output
 dom:=fun _ _=>rfl
 nodup:=jS
 live:=fun e he=>by cases he
 inj:=fun e e' he=>by cases he
theorem CallAt.lift(h:CallAt C f args ⟨0,[]⟩ v ⟨0,[]⟩) (hp:qa9 args=true) (H:Heap):CallAt C f args H v H:=by
 intro ρ w xs sm hx;have up:∀{x:Value} {ρ':Place} {w':World},VR ρ' v x->Sim ρ' ⟨0,[]⟩ w'->Step ρ.bare ⟨0,[]⟩ w ρ' ⟨0,[]⟩ w'->∃ρ'',VR ρ'' v x/\Sim ρ'' H w'/\Step ρ H w ρ'' H w':=by
  intro x ρ' w' h1 h2 h3;have hle:ρ.le { ρ' with at_:=ρ.at_ }:=⟨fun _ _ h=>h,h3.le.fz,h3.le.os,h3.le.tape,h3.le.output⟩;have hkeep:∀k,k < w.heap.size->w'.heap[k]? = w.heap[k]?:=fun k hk=>h3.keeps k hk fun e he=>by cases he
  have hbl:ρ'.le { ρ' with at_:=ρ.at_ }:=⟨fun b l hb=>(by have hd:=h2.dom b (jh _);rw[hd]at hb;cases hb),fun _ hk=>⟨hk,rfl⟩,rfl,rfl,rfl⟩;refine⟨{ ρ' with at_:=ρ.at_ },h1.mono hbl,⟨h2.base,h2.below,h2.os,h2.tape,h2.output,sm.dom,sm.nodup,fun e he=>?_,sm.inj⟩,
   ⟨hle,h3.size,fun k hk _=>hkeep k hk,fun e he l hl=>.inl ⟨e,he,l,hl,rfl⟩,jc _,fun _ _=>rfl,fun k hk=>?_⟩⟩
  ·obtain⟨l,g1,g2,g3,g4⟩:=sm.live e he;refine⟨l,g1,fun hB=>?_,jI g3 h3.size,(g4.same (hkeep _ g3)).mono hle⟩;rcases h3.cold _ hB with h|⟨e,he,_⟩|h
   ·exact g2 h
   ·cases he
   ·omega
  ·rcases h3.cold _ hk with h|⟨e,he,_⟩|h
   ·exact .inl h
   ·cases he
   ·exact .inr (.inr h)
 rcases h ρ.bare w xs sm.bare (hx.pure hp)with⟨x,ρ',w',h0,h1,h2,h3⟩|⟨g,ys,h0,h1⟩
 ·obtain⟨ρ'',k1,k2,k3⟩:=up h1 h2 h3;exact .inl ⟨x,ρ'',w',h0,k1,k2,k3⟩
 ·refine .inr ⟨g,ys,h0,h1.mono ?_⟩;rintro e w' ⟨x,ρ',rfl,m1,m2,m3⟩;obtain⟨ρ'',k1,k2,k3⟩:=up m1 m2 m3;exact⟨x,ρ'',rfl,k1,k2,k3⟩
theorem CallAt.borrow(h:CallAt C f args' ⟨0,[]⟩ v ⟨0,[]⟩) (hs:qge v=true) {H:Heap} {Φ:List (Nat × List AV)} (hH:(H.ents.map (·.1)).Nodup->FitH 0 [] Φ H ⟨0,[]⟩) (hf:qaz [] Φ args args'):CallAt C f args H v H:=by
 intro ρ w xs sm hx;have fh:=hH sm.nodup;have hx':VRs (qei 0 [] Φ ρ w sm.below) args' xs:=by obtain⟨k1,k2⟩:=qe0 hf;refine⟨by rw[hx.1,k1],fun i h1 h2=>?_⟩;exact Fits.run (fh.fits sm) sm _ (jc _) (hx.2 i (by omega) h2) (k2 i (by omega) h1)
 have up:∀{x:Value} {ρ':Place} {w':World},VR ρ' v x->Sim ρ' ⟨0,[]⟩ w'->Step (qei 0 [] Φ ρ w sm.below) ⟨0,[]⟩ w ρ' ⟨0,[]⟩ w'->VR ρ v x/\Sim ρ H w'/\Step ρ H w ρ H w':=by
  intro x ρ' w' h1 h2 h3;have hkeep:∀k,k < w.heap.size->w'.heap[k]? = w.heap[k]?:=fun k hk=>h3.keeps k hk fun e he=>by cases he
  refine⟨h1.scalar hs,⟨fun k hk=>jI (sm.base k hk) h3.size,fun k hk=>(hkeep k (sm.base k hk)).trans (sm.below k hk),?_,?_,?_,sm.dom,sm.nodup,fun e he=>?_,sm.inj⟩,
   ⟨Place.le_refl _,h3.size,fun k hk _=>hkeep k hk,fun e he l hl=>.inl ⟨e,he,l,hl,rfl⟩,jc _,fun _ _=>rfl,fun k hk=>.inl hk⟩⟩
  ·exact(h2.os.trans h3.le.os).trans sm.os
  ·exact(h2.tape.trans h3.le.tape).trans sm.tape
  ·exact(h2.output.trans h3.le.output).trans sm.output
  ·obtain⟨l,g1,g2,g3,g4⟩:=sm.live e he;exact⟨l,g1,g2,jI g3 h3.size,g4.same (hkeep _ g3)⟩
 rcases h _ w xs (fh.sim sm (jh _)) hx' with⟨x,ρ',w',h0,h1,h2,h3⟩|⟨g,ys,h0,h1⟩
 ·obtain⟨k1,k2,k3⟩:=up h1 h2 h3;exact .inl ⟨x,ρ,w',h0,k1,k2,k3⟩
 ·refine .inr ⟨g,ys,h0,h1.mono ?_⟩;rintro e w' ⟨x,ρ',rfl,m1,m2,m3⟩;obtain⟨k1,k2,k3⟩:=up m1 m2 m3;exact⟨x,ρ,rfl,k1,k2,k3⟩
end
def chunk(sz:Nat):Nat->List AV->List AV
 |0,_=>[]
 |Nat.succ n,cs=>(if sz=1 then cs.headD .undef else .agg (cs.take sz))::chunk sz n (cs.drop sz)
def qll(H:Heap) (sz:Nat):AV->Option AV
 |.slc b o len _=>match H.get b with
  |some (.cells cs)=>if qa9 cs=true then match qek o (len * sz) cs with
   |some r=>if qep sz (chunk sz len r)=true/\qa5 (chunk sz len r)=r/\(chunk sz len r).length=len then some (.fslc sz (chunk sz len r)) else none
   |none=>none
   else none
  |_=>none
 |.ptr b o=>match H.get b with
  |some (.cells cs)=>if qa9 cs=true then some (.fptr cs o) else none
  |_=>none
 |.nilS=>if sz=0 then some .nilS else some (.fslc sz [])
 |.zslc=>if sz=0 then some .zslc else some (.fslc sz [])
 |.eslc=>if sz=0 then some .eslc else some (.fslc sz [])
 |v=>if qab v=true then some v else none
def qq5(H:Heap):List Nat->List AV->Option (List AV)
 |_,[]=>some []
 |ss,a::r=>(qll H (ss.headD 0) a).bind fun a'=>(qq5 H ss.tail r).bind fun r'=>some (a'::r')
def okV:AV->Bool
 |.nilS | .zslc | .eslc=>false
 |.agg cs=>qa9 cs && cs.all fun c=>match c with
  |.nilS | .zslc | .eslc=>false
  |_=>true
 |v=>qab v
theorem okV_pure{v:AV} (h:okV v=true):qab v=true:=by cases v<;>simp_all [okV,qab]
def qet(H:Heap) (ss:List Nat) (v:AV):Option AV:=if okV v=true then some v else match v with
 |.agg cs=>(qq5 H ss cs).bind fun cs'=>some (.agg cs')
 |.func fn a c=>(qq5 H [] a).bind fun a'=>(qq5 H [] c).bind fun c'=>some (.func fn a' c')
 |v=>qll H (ss.headD 0) v
def qga(H:Heap):List (List Nat)->List AV->Option (List AV)
 |_,[]=>some []
 |ss,a::r=>(qet H (ss.headD []) a).bind fun a'=>(qga H ss.tail r).bind fun r'=>some (a'::r')
def qeh:List (Nat × Blk)->List (Nat × List AV)
 |[]=>[]
 |e::r=>match e.2 with
  |.cells cs=>if qa9 cs=true then (e.1,cs)::qeh r else qeh r
  |_=>qeh r
theorem qev:∀{l:List (Nat × Blk)} {x:Nat × List AV},x∈qeh l->(x.1,.cells x.2)∈l/\qa9 x.2=true
 |[],x,h=>by cases h
 |e::r,x,h=>by
  unfold qeh at h;split at h
  ·rename_i cs hcs;split at h
   ·rename_i hp;rcases ja.1 h with rfl|h
    ·exact⟨by rw[<- hcs];exact jA,hp⟩
    ·exact⟨jp _ (qev h).1,(qev h).2⟩
   ·exact⟨jp _ (qev h).1,(qev h).2⟩
  ·exact⟨jp _ (qev h).1,(qev h).2⟩
theorem qhy:∀(l:List (Nat × Blk)),((qeh l).map (·.1)).Sublist (l.map (·.1))
 |[]=>by simp[qeh]
 |e::r=>by
  unfold qeh;split
  ·split
   ·simpa using qhy r
   ·simpa using(qhy r).trans (yH _ _)
  ·simpa using(qhy r).trans (yH _ _)
theorem qg4:∀{l:List (Nat × Blk)} {b:Nat} {cs:List AV},(l.map (·.1)).Nodup->(b,.cells cs)∈l->qa9 cs=true->qca b (qeh l)=some cs
 |[],_,_,_,h,_=>by cases h
 |e::r,b,cs,hn,h,hp=>by
  rw[jj,jr]at hn;unfold qeh;rcases ja.1 h with rfl|h
  ·simp only[hp,if_true,qca]
  ·have hne:e.1≠b:=fun hx=>hn.1 (ji.2 ⟨_,h,hx.symm⟩);split
   ·split
    ·simp only[qca,if_neg hne];exact qg4 hn.2 h hp
    ·exact qg4 hn.2 h hp
   ·exact qg4 hn.2 h hp
theorem qgi:∀{fs:List (List (Nat × Blk))} {b:Nat} {k:Blk},(fs.flatten.map (·.1)).Nodup->(b,k)∈fs.flatten->getFs b fs=some k
 |fs,b,k,hn,h=>by
  have key:∀(f:List (Nat × Blk)),(b,k)∈f->(f.map (·.1)).Nodup->getF b f=some k:=by
   intro f;induction f with
   |nil=>intro h;cases h
   |cons e r ih=>
    intro h hn;rw[jj,jr]at hn;unfold getF;rcases ja.1 h with rfl|h
    ·simp
    ·have hne:e.1≠b:=fun hx=>hn.1 (ji.2 ⟨_,h,hx.symm⟩);rw[qaw hne];exact ih h hn.2
  have miss:∀(f:List (Nat × Blk)),b ∉ f.map (·.1)->getF b f=none:=by
   intro f;induction f with
   |nil=>intro _;rfl
   |cons e r ih=>intro h;simp only[jj,ja,not_or]at h;unfold getF;rw[qaw (fun hx=>h.1 hx.symm)];exact ih h.2
  induction fs with
  |nil=>cases h
  |cons f r ih=>
   simp only[je,j3]at hn h;obtain⟨n1,n2,n3⟩:=yb.1 hn;unfold getFs;rcases jl.1 h with h|h
   ·rw[key f h n1]
   ·have hm:b ∉ f.map (·.1):=fun hx=>n3 b hx b (ji.2 ⟨_,h,rfl⟩) rfl;rw[miss f hm];exact ih n2 h
section
variable {H:Heap}
theorem qwd(hn:(H.ents.map (·.1)).Nodup):FitH 0 [] (qeh H.ents) H ⟨0,[]⟩:=
 .froze ((qhy H.ents).nodup hn) fun x hx=>by obtain⟨h1,h2⟩:=qev hx;exact⟨x.2,qgi hn h1,qaf h2,h2⟩
theorem qvp(hn:(H.ents.map (·.1)).Nodup) {sz:Nat} {v v':AV} (h:qll H sz v=some v'):qat [] (qeh H.ents) v v':=by
 cases v
 case slc b o len cap=>
  unfold qll at h;simp only at h;split at h
  ·rename_i cs hg;split at h
   ·rename_i hp;split at h
    ·rename_i r hr;split at h
     next hc=>simp only[sj]at h;subst h;simp only[qat];exact .inl ⟨cs,qg4 hn (Heap.get_mem hg) hp,by rw[hc.2.1];exact hr,hc.2.2,hc.1⟩
     ·cases h
    ·cases h
   ·cases h
  ·cases h
 case ptr b o=>
  unfold qll at h;simp only at h;split at h
  ·rename_i cs hg;split at h
   next hp=>simp only[sj]at h;subst h;simp only[qat];exact⟨qg4 hn (Heap.get_mem hg) hp,trivial⟩
   ·cases h
  ·cases h
 case nilS=>
  unfold qll at h;simp only at h;split at h<;>(simp only[sj]at h;subst h;simp[qat])
 case zslc=>
  unfold qll at h;simp only at h;split at h<;>(simp only[sj]at h;subst h;simp[qat])
 case eslc=>
  unfold qll at h;simp only at h;split at h<;>(simp only[sj]at h;subst h;simp[qat])
 all_goals
  unfold qll at h;simp only at h;split at h
  next hp=>simp only[sj]at h;subst h;exact qbe hp
  ·cases h
theorem qmi(hn:(H.ents.map (·.1)).Nodup):∀{ss:List Nat} {l l':List AV},qq5 H ss l=some l'->qaz [] (qeh H.ents) l l'
 |ss,[],l',h=>by simp only[qq5,sj]at h;subst h;simp[qaz]
 |ss,a::r,l',h=>by obtain⟨a',h1,h⟩:=obs h;obtain⟨r',h2,h⟩:=obs h;simp only[sj]at h;subst h;simp only[qaz];exact⟨qvp hn h1,qmi hn h2⟩
theorem zf2(hn:(H.ents.map (·.1)).Nodup) {ss:List Nat} {v v':AV} (h:qet H ss v=some v'):qat [] (qeh H.ents) v v':=by
 unfold qet at h;split at h
 next hp=>simp only[sj]at h;subst h;exact qbe (okV_pure hp)
 ·split at h
  ·obtain⟨cs',h1,h⟩:=obs h;simp only[sj]at h;subst h;simp only[qat];exact .inl (qmi hn h1)
  ·obtain⟨a',h1,h⟩:=obs h;obtain⟨c',h2,h⟩:=obs h;simp only[sj]at h;subst h;simp only[qat];exact .inl ⟨trivial,qmi hn h1,qmi hn h2⟩
  ·exact qvp hn h
theorem qjp(hn:(H.ents.map (·.1)).Nodup):∀{ss:List (List Nat)} {l l':List AV},qga H ss l=some l'->qaz [] (qeh H.ents) l l'
 |ss,[],l',h=>by simp only[qga,sj]at h;subst h;simp[qaz]
 |ss,a::r,l',h=>by obtain⟨a',h1,h⟩:=obs h;obtain⟨r',h2,h⟩:=obs h;simp only[sj]at h;subst h;simp only[qaz];exact⟨zf2 hn h1,qjp hn h2⟩
end
theorem CallAt.norm{C:Ctx} {f:FuncId} {args args':List AV} {H H':Heap} {v:AV} (h:CallAt C f args' H v H') (hf:qaz [] [] args args'):CallAt C f args H v H':=by intro ρ w xs sm hx;have ft:Fits [] [] ρ ρ H w:=⟨ρ.bare_le,sm.below,fun _ _ h=>(by cases h),fun _ _ h=>(by cases h)⟩;obtain⟨k1,k2⟩:=qe0 hf;exact h ρ w xs sm ⟨by rw[hx.1,k1],fun i h1 h2=>Fits.run ft sm _ (jc _) (hx.2 i (by omega) h2) (k2 i (by omega) h1)⟩
def qlm(ss:List (List Nat)) (pf:List AV->Option AV):List AV->Heap->Option (AV × Heap):=fun args H=>
 if qa9 args=true then (qga ⟨0,[]⟩ ss args).bind fun args'=>(pf args').bind fun v=>some (v,H)
 else (qga H ss args).bind fun args'=>(pf args').bind fun v=>if qge v=true then some (v,H) else none
theorem zct{C:Ctx} {f:FuncId} {pf:List AV->Option AV} (h:∀args v,pf args=some v->CallAt C f args ⟨0,[]⟩ v ⟨0,[]⟩) (ss:List (List Nat)) :
  ∀args H v H',qlm ss pf args H=some (v,H')->CallAt C f args H v H':=by
 intro args H v H' hv ρ w xs sm hx;unfold qlm at hv;split at hv
 next hp=>obtain⟨args',ha,hv⟩:=obs hv;obtain⟨u,hu,hv⟩:=obs hv;simp only[sj,jf]at hv;obtain⟨rfl,rfl⟩:=hv;have hf:=qjp (H:=⟨0,[]⟩) jS ha;exact((h _ _ hu).norm hf).lift hp H ρ w xs sm hx
 ·obtain⟨args',ha,hv⟩:=obs hv;obtain⟨u,hu,hv⟩:=obs hv;split at hv
  next hs=>simp only[sj,jf]at hv;obtain⟨rfl,rfl⟩:=hv;exact(h _ _ hu).borrow hs (fun hn=>qwd hn) (qjp sm.nodup ha) ρ w xs sm hx
  ·cases hv
open Classical in
def pfOf{α:Type} (enc:α->List AV) (pre:α->Prop) (post:α->AV):List AV->Option AV:=fun args=>
 if h:∃x,args=enc x/\pre x then some (post h.choose) else none
theorem zg6{α:Type} {enc:α->List AV} {pre:α->Prop} {post:α->AV} (inj:∀x y,enc x=enc y->x=y) {x:α} (hx:pre x):pfOf enc pre post (enc x)=some (post x):=by unfold pfOf;have h:∃y,enc x=enc y/\pre y:=⟨x,rfl,hx⟩;rw[dif_pos h,<- inj _ _ h.choose_spec.1]
theorem pfOf_ok{α:Type} {enc:α->List AV} {pre:α->Prop} {post:α->AV} {C:Ctx} {f:FuncId} (h:∀x,pre x->CallAt C f (enc x) ⟨0,[]⟩ (post x) ⟨0,[]⟩) :
  ∀args v,pfOf enc pre post args=some v->CallAt C f args ⟨0,[]⟩ v ⟨0,[]⟩:=by
 intro args v hv;unfold pfOf at hv;split at hv
 ·rename_i hx;simp only[sj]at hv;subst hv;have hs:=hx.choose_spec;have:=h _ hs.2
  rwa [<- hs.1]at this
 ·cases hv
structure Entry (P:Program) where
 f:FuncId
 g:List AV->Heap->Option (AV × Heap)
 ok:∀args H v H',g args H=some (v,H')->CallAt ⟨P,fun _=>[],fun _=>none⟩ f args H v H'
def qaa{P:Program} (f:FuncId):List (Entry P)->Option (List AV->Heap->Option (AV × Heap))
 |[]=>none
 |e::r=>match Nat.beq e.f f with
  |true=>some e.g
  |false=>qaa f r
def mkC(P:Program) (keep:FuncId->List Nat) (T:List (Entry P)):Ctx:={ P:=P,keep:=keep,summ:=fun f=>qaa f T }
theorem quu{P:Program} {f:FuncId} {g:List AV->Heap->Option (AV × Heap)}:∀{T:List (Entry P)},qaa f T=some g->∀args H v H',g args H=some (v,H')->CallAt ⟨P,fun _=>[],fun _=>none⟩ f args H v H'
 |[],h=>by cases h
 |e::r,h=>by
  unfold qaa at h;split at h
  next hb=>simp only[sj]at h;subst h;rw[<- Nat.eq_of_beq_eq_true hb];exact e.ok
  ·exact quu h
theorem zbd(P:Program) (keep:FuncId->List Nat) (T:List (Entry P)):qy6 (mkC P keep T):=fun _ _ h=>quu h
theorem mkC_call(P:Program) (keep:FuncId->List Nat) (T:List (Entry P)) (hm:P.follows .mixedOrders=true):CallOK (mkC P keep T) (qb7 (mkC P keep T)):=callL_ok (zbd P keep T)
structure Fact (C:Ctx) where
 f:FuncId
 args:List AV
 H:Heap
 v:AV
 H':Heap
 ok:CallAt C f args H v H'
open Classical in
def qcu{C:Ctx}:List (Fact C)->qcj->qcj
 |[],call,c,args,H=>call c args H
 |x::r,call,c,args,H=>if c=.fn x.f/\args=x.args/\H=x.H then some (x.v,x.H') else qcu r call c args H
theorem qpx{C:Ctx} {call:qcj} (hc:CallOK C call):∀(l:List (Fact C)),CallOK C (qcu l call)
 |[]=>hc
 |x::r=>{
  fn:=fun f args H v H' h=>by
   unfold qcu at h;split at h
   next hx=>obtain⟨hf,rfl,rfl⟩:=hx;simp only[sj,jf]at h;obtain⟨rfl,rfl⟩:=h;cases hf;exact x.ok
   ·exact(qpx hc r).fn f args H v H' h
  yl:=fun b args H v H' h=>by
   unfold qcu at h;split at h
   next hx=>cases hx.1
   ·exact(qpx hc r).yl b args H v H' h }
attribute [simp] qbe qaf
@[simp]theorem fitV_undef{σ:List (Nat × Nat)} {Φ:List (Nat × List AV)} {v:AV}:qat σ Φ v .undef:=by cases v<;>simp[qat]
theorem qcn{α:Type}:∀(l:List α),qef l.length l=some l
 |[]=>rfl
 |x::r=>by simp[qef,qcn r]
@[simp]theorem zj5(cs:List AV):AV.cells (.agg cs)=cs:=rfl
@[simp]theorem cells_str(s:List UInt8):AV.cells (.str s)=[.str s]:=rfl
@[simp]theorem cells_int(k:IntKind) (n:Int):AV.cells (.int k n)=[.int k n]:=rfl
@[simp]theorem cells_bool(b:Bool):AV.cells (.bool b)=[.bool b]:=rfl
@[simp]theorem cells_ptr(b o:Nat):AV.cells (.ptr b o)=[.ptr b o]:=rfl
@[simp]theorem cells_fptr(cs:List AV) (o:Nat):AV.cells (.fptr cs o)=[.fptr cs o]:=rfl
@[simp]theorem zj4(b o n:Nat) (c:Cap):AV.cells (.slc b o n c)=[.slc b o n c]:=rfl
@[simp]theorem cells_fslc(n:Nat) (es:List AV):AV.cells (.fslc n es)=[.fslc n es]:=rfl
@[simp]theorem cells_nilS  : AV.cells (.nilS)=[.nilS]:=rfl
@[simp]theorem cells_nilP  : AV.cells (.nilP)=[.nilP]:=rfl
@[simp]theorem cells_nilM  : AV.cells (.nilM)=[.nilM]:=rfl
@[simp]theorem cells_map(b:Nat):AV.cells (.map b)=[.map b]:=rfl
@[simp]theorem cells_func(f:Go.Fn) (a c:List AV):AV.cells (.func f a c)=[.func f a c]:=rfl
@[simp]theorem cells_nilF  : AV.cells (.nilF)=[.nilF]:=rfl
@[simp]theorem cells_float(k:FloatKind) (n:Nat):AV.cells (.float k n)=[.float k n]:=rfl
@[simp]theorem cells_cplx(k:FloatKind) (a b:Nat):AV.cells (.cplx k a b)=[.cplx k a b]:=rfl
@[simp]theorem cells_iface(t:TypeId) (v:AV):AV.cells (.iface t v)=[.iface t v]:=rfl
@[simp]theorem cells_nilI  : AV.cells (.nilI)=[.nilI]:=rfl
section
variable {α:Type} {x y:α} {r vs:List α} {i o n:Nat}
@[simp]theorem getL_c0:qcy (x::r) 0=some x:=rfl
@[simp]theorem getL_cS:qcy (x::r) (i+1)=qcy r i:=rfl
@[simp]theorem getL_nil:qcy ([]:List α) i=none:=rfl
@[simp]theorem takeL_0:qef 0 r=some []:=by unfold qef;rfl
@[simp]theorem takeL_cS:qef (n+1) (x::r)=(qef n r).bind fun r'=>some (x::r'):=rfl
@[simp]theorem overL_n:qif [] r=some r:=by unfold qif;rfl
@[simp]theorem overL_c:qif (y::vs) (x::r)=(qif vs r).bind fun r'=>some (y::r'):=rfl
@[simp]theorem layL_0:qho vs 0 (x::r)=qif vs (x::r):=rfl
@[simp]theorem layL_n0:qho vs 0 []=qif vs []:=rfl
@[simp]theorem layL_cS:qho vs (o+1) (x::r)=(qho vs o r).bind fun r'=>some (x::r'):=rfl
@[simp]theorem subL_0:qek 0 n (x::r)=qef n (x::r):=rfl
@[simp]theorem subL_cS:qek (o+1) n (x::r)=qek o n r:=rfl
@[simp]theorem subL_nn:qek o 0 r=some []:=by unfold qek;simp
end
theorem qsl{H H':Heap} {sz:Nat} {v:AV} (h:qab v=true):qll H sz v=qll H' sz v:=by cases v<;>first|rfl|simp[qab]at h
theorem qkt{H H':Heap}:∀{ss:List Nat} {l:List AV},qa9 l=true->qq5 H ss l=qq5 H' ss l
 |_,[],_=>rfl
 |ss,a::r,h=>by simp only[qa9,jd]at h;simp only[qq5,qsl (H':=H') h.1,qkt (H':=H') h.2]
theorem zcq{H H':Heap} {ss:List Nat} {v:AV} (h:qab v=true):qet H ss v=qet H' ss v:=by
 unfold qet;split
 ·rfl
 ·rename_i hno;clear hno;cases v
  case agg cs=>simp only[qkt (H':=H') (show qa9 cs=true from h)]
  case func fn a c=>
   simp only[qab,jd]at h;simp only[qkt (H':=H') h.1,qkt (H':=H') h.2]
  all_goals exact qsl h
theorem qsk{H H':Heap}:∀{ss:List (List Nat)} {l:List AV},qa9 l=true->qga H ss l=qga H' ss l
 |_,[],_=>rfl
 |ss,a::r,h=>by simp only[qa9,jd]at h;simp only[qga,zcq (H':=H') h.1,qsk (H':=H') h.2]
section
variable {P:Program} {α:Type}
def mkE(f:FuncId) (ss:List (List Nat)) (enc:α->List AV) (pre:α->Prop) (post:α->AV) (h:∀x,pre x->CallAt ⟨P,fun _=>[],fun _=>none⟩ f (enc x) ⟨0,[]⟩ (post x) ⟨0,[]⟩):Entry P:=
 ⟨f,qlm ss (pfOf enc pre post),zct (pfOf_ok h) ss⟩
theorem qin{C:Ctx} {f:FuncId} {g:List AV->Heap->Option (AV × Heap)} (h:C.summ f=some g) (args:List AV) (H:Heap):qb7 C (.fn f) args H=g args H:=by unfold qb7;simp only[h]
variable {keep:FuncId->List Nat} {T:List (Entry P)} {f:FuncId} {ss:List (List Nat)} {enc:α->List AV} {pre:α->Prop} {post:α->AV} {h:∀x,pre x->CallAt ⟨P,fun _=>[],fun _=>none⟩ f (enc x) ⟨0,[]⟩ (post x) ⟨0,[]⟩}
theorem qd2(hT:qaa f T=some (mkE f ss enc pre post h).g) (inj:∀x y,enc x=enc y->x=y) (x:α) (hx:pre x) {args:List AV} (hp:qa9 args=true) (ht:qga ⟨0,[]⟩ ss args=some (enc x)) (H:Heap):qb7 (mkC P keep T) (.fn f) args H=some (post x,H):=by rw[qin (g:=(mkE f ss enc pre post h).g) hT];show qlm ss (pfOf enc pre post) args H=_;unfold qlm;rw[if_pos hp,ht];simp only[jb,zg6 inj hx]
theorem mkE_thaw(hT:qaa f T=some (mkE f ss enc pre post h).g) (inj:∀x y,enc x=enc y->x=y) (x:α) (hx:pre x) (hs:qge (post x)=true) {args:List AV} {H:Heap} (hp:qa9 args=false) (ht:qga H ss args=some (enc x)) :
  qb7 (mkC P keep T) (.fn f) args H=some (post x,H):=by
 rw[qin (g:=(mkE f ss enc pre post h).g) hT];show qlm ss (pfOf enc pre post) args H=_;unfold qlm;rw[hp,if_neg (by simp),ht];simp only[jb,zg6 inj hx,hs,if_true]
theorem qac(hT:qaa f T=some (mkE f ss enc pre post h).g) (inj:∀x y,enc x=enc y->x=y) (x:α) (hx:pre x) (hs:qge (post x)=true) {args:List AV} {H:Heap} (ht:qga H ss args=some (enc x)) :
  qb7 (mkC P keep T) (.fn f) args H=some (post x,H):=by
 cases hp:qa9 args with
 |true=>exact qd2 hT inj x hx hp (by rw[<- ht];exact qsk hp) H
 |false=>exact mkE_thaw hT inj x hx hs hp ht
end
section
variable {H:Heap} {ss:List Nat}
@[simp]theorem thawL_nil{ss:List (List Nat)}:qga H ss []=some []:=by unfold qga;rfl
@[simp]theorem thawL_cons{ss:List (List Nat)} {a:AV} {r:List AV}:qga H ss (a::r)=(qet H (ss.headD []) a).bind fun a'=>(qga H ss.tail r).bind fun r'=>some (a'::r'):=by
 conv=>lhs;unfold qga
theorem qao{v:AV} (h:okV v=true):qet H ss v=some v:=by unfold qet;rw[if_pos h]
@[simp]theorem thawA_str(s:List UInt8):qet H ss (.str s)=some (.str s):=qao rfl
@[simp]theorem thawA_int(k:IntKind) (n:Int):qet H ss (.int k n)=some (.int k n):=qao rfl
@[simp]theorem thawA_bool(b:Bool):qet H ss (.bool b)=some (.bool b):=qao rfl
@[simp]theorem thawA_fslc(n:Nat) (es:List AV):qet H ss (.fslc n es)=some (.fslc n es):=qao rfl
theorem zcr{sz:Nat} {r:List Nat} (h:sz≠0):qet H (sz::r) .nilS=some (.fslc sz []):=by simp[qet,okV,qll,h]
theorem qq7{f:FuncId} {b o:Nat} {cs:List AV} (h:H.get b=some (.cells cs)) (hp:qa9 cs=true):qet H ss (.func (.func f) [] [.ptr b o])=some (.func (.func f) [] [.fptr cs o]):=by simp[qet,okV,qab,qa9,qq5,qll,h,hp]
theorem qtc{sz:Nat} (h1:1 < sz):∀{es:List AV},(∀e,e∈es->∃cs,e=.agg cs/\cs.length=sz)->chunk sz es.length (qa5 es)=es
 |[],_=>rfl
 |e::r,h=>by
  obtain⟨cs,rfl,hc⟩:=h e (by simp);have hne:¬ sz=1:=by omega
  simp only[jx,chunk,qa5,zj5,hne,if_false];rw[List.take_append_of_le_length (by omega),jz (by omega),y3 (by omega),List.drop_of_length_le (by omega),jq,qtc h1 fun e he=>h e (by simp[he])]
theorem qxt:∀{es:List AV},(∀e,e∈es->e.cells=[e])->chunk 1 es.length (qa5 es)=es
 |[],_=>rfl
 |e::r,h=>by have h0:=h e (by simp);simp only[jx,chunk,qa5,h0,if_true,List.cons_append,jq,List.headD_cons,List.drop_succ_cons,jF];rw[qxt fun e he=>h e (by simp[he])]
theorem ql7{sz:Nat}:∀{es:List AV},(∀e,e∈es->e.cells.length=sz)->qep sz es=true
 |[],_=>rfl
 |e::r,h=>by unfold qep;rw[h e (by simp),jD];exact ql7 fun e he=>h e (by simp[he])
theorem quq{sz:Nat}:∀{es:List AV},(∀e,e∈es->e.cells.length=sz)->(qa5 es).length=es.length * sz
 |[],_=>by simp[qa5]
 |e::r,h=>by have ih:=quq (es:=r) fun e he=>h e (jp _ he);simp only[qa5,jo,jx,h e (by simp),ih];rw[Nat.add_mul];omega
theorem qrm:∀{es:List AV},(∀e,e∈es->qa9 e.cells=true)->qa9 (qa5 es)=true
 |[],_=>rfl
 |e::r,h=>by have ih:=qrm (es:=r) fun e he=>h e (jp _ he);simp only[qa5,qgm,h e (by simp),ih,Bool.and_self]
structure Elems (sz:Nat) (es:List AV):Prop where
 sz0:sz≠0
 all:∀e,e∈es->e.cells.length=sz/\qa9 e.cells=true/\(sz=1->e.cells=[e])/\(sz≠1->∃cs,e=.agg cs)
theorem Elems.chunk{sz:Nat} {es:List AV} (h:Elems sz es):Proofs.YtocnpnnplllneaaGreatDoor.chunk sz es.length (qa5 es)=es:=by
 by_cases h1:sz=1
 ·subst h1;exact qxt fun e he=>(h.all e he).2.2.1 rfl
 ·have:=h.sz0;refine qtc (by omega) fun e he=>?_;obtain⟨cs,rfl⟩:=(h.all e he).2.2.2 h1;exact⟨cs,rfl,(h.all _ he).1⟩
theorem qq6{sz:Nat} {r:List Nat} {b:Nat} {cap:Cap} {es:List AV} (he:Elems sz es) (h:H.get b=some (.cells (qa5 es))):qet H (sz::r) (.slc b 0 es.length cap)=some (.fslc sz es):=by
 have hl:=quq fun e h=>(he.all e h).1;have hp:=qrm fun e h=>(he.all e h).2.1;have hz:=ql7 fun e h=>(he.all e h).1;have hs:qek 0 (es.length * sz) (qa5 es)=some (qa5 es):=by unfold qek;rw[jF,<- hl,qcn]
 unfold qet;rw[if_neg (by simp[okV,qab])];simp only[qll,List.headD_cons,h,hp,if_true,hs,he.chunk,hz,and_self]
end
theorem CallAt.thaw{C:Ctx} {f:FuncId} {args args':List AV} {v:AV} (h:CallAt C f args' ⟨0,[]⟩ v ⟨0,[]⟩) (hs:qge v=true) (ss:List (List Nat)) {H:Heap} (ht:qga H ss args=some args'):CallAt C f args H v H:=
 fun ρ w xs sm hx=>h.borrow hs (fun hn=>qwd hn) (qjp sm.nodup ht) ρ w xs sm hx
theorem qa2{H:Heap} {u v:AV} (hp:qab u=true) (h:u=v):∃σ Φ,qat σ Φ u v/\FitH 0 σ Φ H ⟨0,[]⟩:=⟨[],[],by rw[<- h];exact qbe hp,FitH.empty⟩
theorem qt8{H:Heap} {b len sz:Nat} {cap:Cap} {es:List AV} {cs:List AV} (hb:H.get b=some (.cells cs)) (hcs:cs=qa5 es) (hp:qa9 cs=true) (hl:es.length=len) (hz:qep sz es=true) (hn:cs.length=len * sz) :
  ∃σ Φ,qat σ Φ (.slc b 0 len cap) (.fslc sz es)/\FitH 0 σ Φ H ⟨0,[]⟩:=by
 refine⟨[],[(b,cs)],?_,.froze (by simp) fun x hx=>?_⟩
 ·simp only[qat];refine .inl ⟨cs,by simp[qca],?_,hl,hz⟩;have take_all:∀(l:List AV),qef l.length l=some l:=fun l=>by
   induction l with
   |nil=>rfl
   |cons x r ih=>simp[qef,ih]
  have:=take_all cs;rw[hn]at this;simp only[qek,jF,this];rw[hcs]
 ·simp only[ju]at hx;subst hx;exact⟨cs,hb,qaf hp,hp⟩
theorem ends_nil{H:Heap} {sz:Nat}:∃σ Φ,qat σ Φ .nilS (.fslc sz [])/\FitH 0 σ Φ H ⟨0,[]⟩:=⟨[],[],by simp[qat],FitH.empty⟩
theorem qbz{i n:Nat} (h:i < n):idx (i:Int) n=some i:=by
 have:Nat.blt i n=true:=by simpa using h
 show (match Nat.blt i n with|true=>some i|false=>none)=_;rw[this]
theorem qi2{α β:Type} {f:α->β}:∀{l:List α} {i:Nat} (h:i < l.length),qcy (l.map f) i=some (f l[i])
 |[],i,h=>absurd h (jk i)
 |x::r,0,_=>rfl
 |x::r,i+1,h=>by have:=qi2 (f:=f) (l:=r) (i:=i) (by simpa using h);simpa[qcy]using this
theorem qf4{α:Type}:∀{l:List α} {i:Nat} (h:i < l.length),qcy l i=some l[i]
 |[],i,h=>absurd h (jk i)
 |x::r,0,_=>rfl
 |x::r,i+1,h=>by have:=qf4 (l:=r) (i:=i) (by simpa using h);simpa[qcy]using this
theorem qdi{n:Int} (h1 : -1000000000000<=n) (h2:n<=1000000000000):wr .i64 n=some n:=by have:zi0 n=true:=fits64_iff.2 (by omega);simp[wr,this]
theorem qbd{i:Nat} (h:i<=1000000000):wr .i64 ((i:Int)+1)=some ((i+1:Nat):Int):=by rw[qdi (by omega) (by omega)];simp
theorem qir{α:Type}:∀{n:Nat} {l:List α},n<=l.length->qef n l=some (l.take n)
 |0,_,_=>rfl
 |n+1,[],h=>by simp at h
 |n+1,x::r,h=>by simp[qef,qir (n:=n) (l:=r) (by simpa using h)]
theorem qku{α:Type} {o n:Nat} {l:List α} (h:o+n<=l.length):qek o n l=some ((l.drop o).take n):=by unfold qek;exact qir (by simp;omega)
section
variable {P:Program} {t:TypeId} {k:IntKind} {a b:Int} {x y:List UInt8}
@[simp]theorem bin_add:qdy P .add t (.int k a) (.int k b)=(wr k (a+b)).bind fun n=>some (.int k n):=by simp[qdy,qpc]
@[simp]theorem bin_sub:qdy P .sub t (.int k a) (.int k b)=(wr k (a - b)).bind fun n=>some (.int k n):=by simp[qdy,qpc]
@[simp]theorem bin_mul:qdy P .mul t (.int k a) (.int k b)=(wr k (a * b)).bind fun n=>some (.int k n):=by simp[qdy,qpc]
@[simp]theorem bin_lss:qdy P .lss t (.int k a) (.int k b)=some (.bool (decide (a < b))):=by simp[qdy,qpc]
@[simp]theorem bin_leq:qdy P .leq t (.int k a) (.int k b)=some (.bool (decide (a<=b))):=by simp[qdy,qpc]
@[simp]theorem bin_gtr:qdy P .gtr t (.int k a) (.int k b)=some (.bool (decide (b < a))):=by simp[qdy,qpc]
@[simp]theorem bin_geq:qdy P .geq t (.int k a) (.int k b)=some (.bool (decide (b<=a))):=by simp[qdy,qpc]
@[simp]theorem bin_eql:qdy P .eql t (.int k a) (.int k b)=some (.bool (decide (a=b))):=by simp only[qdy,qpc,if_true];congr 2
@[simp]theorem bin_neq:qdy P .neq t (.int k a) (.int k b)=some (.bool (!decide (a=b))):=by simp only[qdy,qpc,if_true,bne];congr 3
@[simp]theorem un_not{c:Bool}:unA .not (.bool c)=some (.bool !c):=rfl
@[simp]theorem un_neg:unA .neg (.int k a)=(wr k (0 - a)).bind fun m=>some (.int k m):=rfl
@[simp]theorem bin_seql:qdy P .eql t (.str x) (.str y)=some (.bool (decide (x=y))):=by simp[qdy,qvv,qkc]
@[simp]theorem bin_sneq:qdy P .neq t (.str x) (.str y)=some (.bool (!decide (x=y))):=by simp[qdy,qvv,qkc]
end
set_option maxRecDepth 100000
theorem zN:type_of% (And.intro @ofV.eq_1 (And.intro @ofV.eq_2 (And.intro @ofV1.eq_1 (And.intro @ofV1.eq_2 (And.intro @ofV1.eq_3 (And.intro @ofV1.eq_4 (And.intro @ofV1.eq_5 (And.intro @ofV1.eq_6 (And.intro @ofV1.eq_7 (And.intro @ofV1.eq_8 (And.intro @ofV1.eq_9 (And.intro @ofV1.eq_10 (And.intro @ofV1.eq_11 (And.intro @writeVar.eq_1 (And.intro @writeVar.eq_2 (And.intro @writeCells.eq_1 (And.intro @readCells.eq_1 (And.intro @allSingle.eq_1 (And.intro @allSingle.eq_2 (And.intro @AV.single.eq_1 (And.intro @AV.single.eq_2 (And.intro @AV.single.eq_3 (And.intro @AV.single.eq_4 (And.intro @getFs.eq_1 (And.intro @getFs.eq_2 (And.intro @getF.eq_1 (And.intro @getF.eq_2 (And.intro @setFs.eq_1 (And.intro @setFs.eq_2 (And.intro @setF.eq_1 (And.intro @setF.eq_2 (And.intro @Heap.get.eq_1 (And.intro @Heap.set.eq_1 (And.intro @Heap.new.eq_1 (And.intro @Heap.kill.eq_1 (And.intro @killF.eq_1 (And.intro @killF.eq_2 (And.intro @pushF.eq_1 (And.intro @pushF.eq_2 (And.intro @sliceParts.eq_1 (And.intro @fillA.eq_1 (And.intro @fillA.eq_2 (And.intro @replL.eq_1 (@replL.eq_2)))))))))))))))))))))))))))))))))))))))))))):=And.intro @ofV.eq_1 (And.intro @ofV.eq_2 (And.intro @ofV1.eq_1 (And.intro @ofV1.eq_2 (And.intro @ofV1.eq_3 (And.intro @ofV1.eq_4 (And.intro @ofV1.eq_5 (And.intro @ofV1.eq_6 (And.intro @ofV1.eq_7 (And.intro @ofV1.eq_8 (And.intro @ofV1.eq_9 (And.intro @ofV1.eq_10 (And.intro @ofV1.eq_11 (And.intro @writeVar.eq_1 (And.intro @writeVar.eq_2 (And.intro @writeCells.eq_1 (And.intro @readCells.eq_1 (And.intro @allSingle.eq_1 (And.intro @allSingle.eq_2 (And.intro @AV.single.eq_1 (And.intro @AV.single.eq_2 (And.intro @AV.single.eq_3 (And.intro @AV.single.eq_4 (And.intro @getFs.eq_1 (And.intro @getFs.eq_2 (And.intro @getF.eq_1 (And.intro @getF.eq_2 (And.intro @setFs.eq_1 (And.intro @setFs.eq_2 (And.intro @setF.eq_1 (And.intro @setF.eq_2 (And.intro @Heap.get.eq_1 (And.intro @Heap.set.eq_1 (And.intro @Heap.new.eq_1 (And.intro @Heap.kill.eq_1 (And.intro @killF.eq_1 (And.intro @killF.eq_2 (And.intro @pushF.eq_1 (And.intro @pushF.eq_2 (And.intro @sliceParts.eq_1 (And.intro @fillA.eq_1 (And.intro @fillA.eq_2 (And.intro @replL.eq_1 (@replL.eq_2)))))))))))))))))))))))))))))))))))))))))))
theorem zR:type_of% (And.intro @refs.eq_1 (And.intro @refs.eq_2 (And.intro @refs.eq_3 (And.intro @refs.eq_4 (And.intro @refs.eq_5 (And.intro @refs.eq_6 (And.intro @refs.eq_7 (And.intro @refs.eq_8 (And.intro @refs.eq_9 (And.intro @refs.eq_10 (And.intro @refs.eq_11 (@Heap.ready.eq_1)))))))))))):=And.intro @refs.eq_1 (And.intro @refs.eq_2 (And.intro @refs.eq_3 (And.intro @refs.eq_4 (And.intro @refs.eq_5 (And.intro @refs.eq_6 (And.intro @refs.eq_7 (And.intro @refs.eq_8 (And.intro @refs.eq_9 (And.intro @refs.eq_10 (And.intro @refs.eq_11 (@Heap.ready.eq_1)))))))))))
theorem zS:type_of% (And.intro zN zR):=And.intro zN zR
theorem zQ:type_of% (And.intro @retVal.eq_1 (And.intro @retVal.eq_2 (And.intro @retVal.eq_3 (And.intro @oneOr.eq_1 @oneOr.eq_2)))):=And.intro @retVal.eq_1 (And.intro @retVal.eq_2 (And.intro @retVal.eq_3 (And.intro @oneOr.eq_1 @oneOr.eq_2)))
theorem zG:type_of% (And.intro @getFs.eq_1 (And.intro @getFs.eq_2 (And.intro @getF.eq_1 (And.intro @getF.eq_2 @Heap.get.eq_1)))):=And.intro @getFs.eq_1 (And.intro @getFs.eq_2 (And.intro @getF.eq_1 (And.intro @getF.eq_2 @Heap.get.eq_1)))
theorem zad{α:Type} {a b c:List α} {o n:Nat} (h1:a.length=o) (h2:b.length=n):qek o n (a++b++c)=some b:=by subst h1;subst h2;unfold qek;rw[List.append_assoc,List.drop_left,qir (by simp),List.take_left]
theorem qwh{α:Type}:∀{b b' c:List α},b.length=b'.length->qif b' (b++c)=some (b'++c)
 |[],[],c,_=>rfl
 |x::b,y::b',c,h=>by simp only[qif,List.cons_append];rw[qwh (by simpa using h)];rfl
 |[],_::_,_,h=>by simp at h
 |_::_,[],_,h=>by simp at h
theorem qh3{α:Type} {b b' c:List α} (h:b.length=b'.length):∀{a:List α},qho b' a.length (a++b++c)=some (a++b'++c)
 |[]=>by simpa[qho]using qwh h
 |x::a=>by simp only[jx,qho,List.cons_append];rw[qh3 h];rfl
theorem qbq(a b:List AV):qa5 (a++b)=qa5 a++qa5 b:=by
 induction a with
 |nil=>rfl
 |cons x r ih=>simp[qa5,ih]
theorem zdr{es:List AV} {i:Nat} (h:i < es.length):qa5 es=qa5 (es.take i)++es[i].cells++qa5 (es.drop (i+1)):=by
 have e:es=es.take i++(es[i]::es.drop (i+1)):=by rw[<- List.drop_eq_getElem_cons h,yt]
 conv=>lhs;rw[e]
 rw[qbq,qa5,List.append_assoc]
theorem Elems.take{sz:Nat} {es:List AV} (h:Elems sz es) (i:Nat):Elems sz (es.take i):=⟨h.sz0,fun e he=>h.all e (List.mem_of_mem_take he)⟩
theorem Elems.drop{sz:Nat} {es:List AV} (h:Elems sz es) (i:Nat):Elems sz (es.drop i):=⟨h.sz0,fun e he=>h.all e (List.mem_of_mem_drop he)⟩
theorem Elems.len{sz:Nat} {es:List AV} (h:Elems sz es):(qa5 es).length=es.length * sz:=quq fun e he=>(h.all e he).1
theorem Elems.pure{sz:Nat} {es:List AV} (h:Elems sz es):qa9 (qa5 es)=true:=qrm fun e he=>(h.all e he).2.1
theorem Elems.size{sz:Nat} {es:List AV} (h:Elems sz es):qep sz es=true:=ql7 fun e he=>(h.all e he).1
theorem Elems.append{sz:Nat} {a b:List AV} (h:Elems sz a) (k:Elems sz b):Elems sz (a++b):=⟨h.sz0,fun e he=>(jl.1 he).elim (h.all e) (k.all e)⟩
theorem lay_at{sz:Nat} {es:List AV} (h:Elems sz es) {i:Nat} (hi:i < es.length) {e:AV} (he:e.cells.length=sz):qho e.cells (i * sz) (qa5 es)=some (qa5 (es.set i e)):=by
 rw[zdr hi];have h1:(qa5 (es.take i)).length=i * sz:=by rw[(h.take i).len,yh,Nat.min_eq_left (by omega)]
 have h2:es[i].cells.length=e.cells.length:=by rw[he];exact(h.all _ (jy hi)).1
 rw[<- h1,qh3 h2,yE,if_pos hi,qbq,qa5,List.append_assoc]
theorem qd1{a b:List AV}:allSingle (a++b)=(allSingle a && allSingle b):=by
 induction a with
 |nil=>simp[allSingle]
 |cons x r ih=>cases h:x.single<;>simp[allSingle,h,ih]
theorem qq9{sz:Nat} {es:List AV} (h:Elems sz es) {k:Nat} (hk:k<=es.length):qek 0 (k * sz) (qa5 es)=some (qa5 (es.take k)):=by
 have e:qa5 es=[]++qa5 (es.take k)++qa5 (es.drop k):=by rw[jq,<- qbq,yt]
 rw[e];exact zad rfl (by rw[(h.take k).len,yh,Nat.min_eq_left hk])
theorem Elems.map{α:Type} {f:α->AV} {sz:Nat} (h0:sz≠0) (h:∀x,(f x).cells.length=sz/\qa9 (f x).cells=true/\(sz=1->(f x).cells=[f x])/\(sz≠1->∃cs,f x=.agg cs)) (l:List α):Elems sz (l.map f):=
 ⟨h0,fun e he=>by obtain⟨x,_,rfl⟩:=ji.1 he;exact h x⟩
def qdo(b sz:Nat) (es:List AV):AV:=match es with
 |[]=>.zslc
 |_::_=>.slc b 0 es.length (.rest sz)
def qe4(b:Nat) (es:List AV):List (Nat × Blk):=match es with
 |[]=>[]
 |_::_=>[(b,.cells (qa5 es))]
def qy8(H:Heap) (es:List AV):Heap:=match es with
 |[]=>H
 |_::_=>H.new (.cells (qa5 es))
theorem zg9{b:Nat} {es:List AV} {f g:List (Nat × Blk)} {n:Nat} {fs:List (List (Nat × Blk))} (h:∀e,e∈f++g->e.1≠b) (h2:∀e,e∈fs.flatten->e.1≠b):Heap.drop ⟨n,(f++(qe4 b es++g))::fs⟩ b=⟨n,(f++g)::fs⟩:=by
 have miss:∀(l:List (Nat × Blk)),(∀e,e∈l->e.1≠b)->getF b l=none:=by
  intro l;induction l with
  |nil=>intro _;rfl
  |cons e r ih=>intro h;unfold getF;rw[qaw (h e (by simp))];exact ih fun x hx=>h x (by simp[hx])
 have stay:∀(l:List (Nat × Blk)),(∀e,e∈l->e.1≠b)->killF b l=l:=by
  intro l;induction l with
  |nil=>intro _;rfl
  |cons e r ih=>intro h;unfold killF;rw[qaw (h e (by simp))];simp only;rw[ih fun x hx=>h x (by simp[hx])]
 have stayF:∀(l:List (List (Nat × Blk))),(∀e,e∈l.flatten->e.1≠b)->qem b l=l:=by
  intro l;induction l with
  |nil=>intro _;rfl
  |cons f r ih=>intro h;unfold qem;rw[miss f fun e he=>h e (by simp[he])];simp only;rw[ih fun e he=>h e (by rw[je];exact List.mem_append_right _ he)]
 unfold Heap.drop;simp only;congr 1;cases es with
 |nil=>simp only[qe4,jq];rw[stayF];intro e he;rw[je]at he;exact(jl.1 he).elim (h e) (h2 e)
 |cons x r=>
  have hit:∀(l:List (Nat × Blk)),(∀e,e∈l->e.1≠b)->∀k,getF b (l++((b,k)::g))=some k/\killF b (l++((b,k)::g))=l++g:=by
   intro l;induction l with
   |nil=>intro _ k;simp[getF,killF]
   |cons e r ih=>intro h k;obtain⟨i1,i2⟩:=ih (fun x hx=>h x (by simp[hx])) k;simp only[List.cons_append];unfold getF killF;rw[qaw (h e (by simp))];exact⟨i1,by simp[i2]⟩
  obtain⟨i1,i2⟩:=hit f (fun e he=>h e (List.mem_append_left _ he)) (.cells (qa5 (x::r)));simp only[qe4,List.cons_append,jq];unfold qem;rw[i1];simp only[i2]
theorem qch{b sz:Nat} {es:List AV} (h:es≠[]):qdo b sz es=.slc b 0 es.length (.rest sz):=by cases es<;>first|exact absurd rfl h|rfl
theorem qci{b:Nat} {es:List AV} (h:es≠[]):qe4 b es=[(b,.cells (qa5 es))]:=by cases es<;>first|exact absurd rfl h|rfl
theorem qie{P:Program} {H:Heap} {elem:TypeId} {b sz by_ n:Nat} {es cs:List AV} {x z:AV} (hsz:qcg P elem=some sz) (hby:qco P elem=some by_) (hz:qc1 P elem=some z) (hzl:z.cells.length=sz) (h0:sz≠0) (hb0:by_≠0)
  (hx:qc7 x=some (n+1)) (hc:qbb H sz (n+1) x=some cs) (hcl:cs.length=(n+1) * sz) (hcs:allSingle cs=true) (he:Elems sz es) (hroom:(es.length+(n+1)) * by_<=17592186044416)
  (hb:es≠[]->H.get b=some (.cells (qa5 es))) (hd:es=[]->H.drop b=H)
  (hrow:∀cs,qpi P elem cs=.cells cs):qby P H elem (qdo b sz es) x=some (.slc H.n 0 (es.length+(n+1)) (.rest sz),(H.drop b).new (.cells (qa5 es++cs))):=by
 have c0:(Nat.beq sz 0 || !(Nat.beq z.cells.length sz && Nat.blt 0 by_))=false:=by
  have h1:Nat.beq sz 0=false:=qaw h0;have h2:Nat.blt 0 by_=true:=by simp;omega
  rw[h1,hzl,jD,h2];rfl
 have hr:qcf (es.length+(n+1)) by_=true:=by unfold qcf;rw[jN];exact hroom
 have hcb:Nat.beq cs.length ((n+1) * sz)=true:=by rw[hcl];exact jD _
 unfold qby;simp only[hsz,hby,hz,hx,jb,c0];cases es with
 |nil=>simp only[qdo];simp only[jW,jO]at hr;simp only[hr,hc,jb,hcb,hd rfl,qa5,jq,jW,jO,hrow]
 |cons e r=>
  have hg:=hb (by simp);have hl:(qa5 (e::r)).length=(e::r).length * sz:=he.len;simp only[qdo,hc,jb,hr,hcs];have h1:Nat.beq sz sz=true:=jD _;have hk:qck H b=some ((e::r).length * sz):=by unfold qck;simp only[hg,jb,qty,hl]
  have h2:Nat.ble (0+((e::r).length+(n+1)) * sz) ((e::r).length * sz)=false:=by rw[<- Bool.not_eq_true,jN,Nat.add_mul];have:0 < (n+1) * sz:=Nat.mul_pos (by omega) (by omega);omega
  have h3:Nat.beq (0+(e::r).length * sz) ((e::r).length * sz)=true:=by rw[jO];exact jD _
  have h4:readCells H b 0 ((e::r).length * sz)=some (qa5 (e::r)):=by unfold readCells;simp only[hg,jb,qty];unfold qek;rw[jF,<- hl,qcn]
  simp only[h1,hk,jb,h2,h3,hcb,h4,hg,qt3]
theorem qmw{P:Program} {elem:TypeId} {b sz by_ t m:Nat} {es cs:List AV} {z:AV} {g:List (Nat × Blk)} {fs:List (List (Nat × Blk))} (hsz:qcg P elem=some sz) (hby:qco P elem=some by_) (hz:qc1 P elem=some z) (hzl:z.cells.length=sz)
  (h0:sz≠0) (hb0:by_≠0) (hcl:cs.length=sz) (hcs:allSingle cs=true) (he:Elems sz es) (hroom:(es.length+1) * by_<=17592186044416) (htb:t≠b) (hg:∀e,e∈g->e.1≠b) (hfs:∀e,e∈fs.flatten->e.1≠b) (hrow:∀cs,qpi P elem cs=.cells cs:=by intro cs;rfl) :
  qby P ⟨m,((t,.cells cs)::(qe4 b es++g))::fs⟩ elem (qdo b sz es) (.slc t 0 1 (.ex 1))=some (.slc m 0 (es.length+1) (.rest sz),⟨m+1,((m,.cells (qa5 es++cs))::(t,.cells cs)::g)::fs⟩):=by
 have hd:=zg9 (b:=b) (es:=es) (f:=[(t,.cells cs)]) (g:=g) (n:=m) (fs:=fs) (fun e he=>by
  rcases jl.1 he with he|he
  ·simp at he;subst he;exact htb
  ·exact hg e he) hfs
 simp only[List.cons_append,jq]at hd;have hsub:qek 0 sz cs=some cs:=by have:=qcn cs;rw[hcl]at this;unfold qek;rw[jF];exact this
 have:=qie (P:=P) (H:=⟨m,((t,.cells cs)::(qe4 b es++g))::fs⟩) (elem:=elem) (b:=b) (n:=0) (es:=es) (x:=.slc t 0 1 (.ex 1)) (cs:=cs) hsz hby hz hzl h0 hb0 rfl
  (by simp[qbb,readCells,Heap.get,getFs,getF,hsub]) (by simpa using hcl) hcs he (by simpa using hroom)
  (fun hne=>by rw[qci hne];simp[Heap.get,getFs,getF,qaw htb]) (fun hes=>by subst hes;simpa[qe4]using hd) hrow
 rw[hd]at this;simpa[Heap.new,pushF]using this
theorem CallAt.new{C:Ctx} {f:FuncId} {args:List AV} {len:Nat} {cap:Cap} {cs:List AV} (h:CallAt C f args ⟨0,[]⟩ (.slc 0 0 len cap) ⟨1,[[(0,.cells cs)]]⟩) (hp:qa9 args=true) (hc:qa9 cs=true) (H:Heap) :
  CallAt C f args H (.slc H.n 0 len cap) (H.new (.cells cs)):=by
 intro ρ w xs sm hx;have up:∀{x:Value} {ρ':Place} {w':World},VR ρ' (.slc 0 0 len cap) x->Sim ρ' ⟨1,[[(0,.cells cs)]]⟩ w'->Step ρ.bare ⟨0,[]⟩ w ρ' ⟨1,[[(0,.cells cs)]]⟩ w' ->
   ∃ρ'',VR ρ'' (.slc H.n 0 len cap) x/\Sim ρ'' (H.new (.cells cs)) w'/\Step ρ H w ρ'' (H.new (.cells cs)) w':=by
  intro x ρ' w' h1 h2 h3;obtain⟨l,l1,l2,l3,l4⟩:=h2.live (0,.cells cs) (by simp[Heap.ents]);simp only at l1;have hrow:w.heap.size<=l.cb:=by
   rcases h3.rows (0,.cells cs) (by simp[Heap.ents]) l l1 with⟨e,he,_⟩|h
   ·cases he
   ·exact h
  have hkeep:∀k,k < w.heap.size->w'.heap[k]? = w.heap[k]?:=fun k hk=>h3.keeps k hk fun e he=>by cases he
  have hle:ρ.le { ρ' with at_:=fun b=>if b=H.n then some l else ρ b }:=⟨fun b m hb=>by show (if b=H.n then some l else ρ b)=some m;rw[if_neg (fun e=>by subst e;rw[sm.dom _ (jc _)]at hb;cases hb)];exact hb,h3.le.fz,h3.le.os,h3.le.tape,h3.le.output⟩;have hat:(({ ρ' with at_:=fun b=>if b=H.n then some l else ρ b }:Place)) H.n=some l:=if_pos rfl;have hother:∀b,b≠H.n->(({ ρ' with at_:=fun b=>if b=H.n then some l else ρ b }:Place)) b=ρ b:=fun b hb=>if_neg hb;have hid:∀e,e∈H.ents->e.1≠H.n:=fun e he=>by have:=sm.id_lt he;omega
  refine⟨{ ρ' with at_:=fun b=>if b=H.n then some l else ρ b },?_,⟨h2.base,h2.below,h2.os,h2.tape,h2.output,fun b hb=>?_,?_,fun e he=>?_,fun e e' he he' m m' hm hm' hcb=>?_⟩,
   ⟨hle,h3.size,fun k hk _=>hkeep k hk,fun e he m hm=>?_,yK _,fun b hb=>hother b (by omega),fun k hk=>?_⟩⟩
  ·cases h1 with
   |slcE b o len' c l' hl' hcap=>rw[l1]at hl';cases hl';exact .slcE _ _ _ c l hat hcap
   |slcR b o len' sz c l' hl' hcap hfin=>rw[l1]at hl';cases hl';exact .slcR _ _ _ _ c l hat hcap hfin
  ·have hb':H.n+1<=b:=hb;rw[hother b (by omega)];exact sm.dom b (by omega)
  ·rw[Heap.new_ents,jj,jr];exact⟨fun hm=>by obtain⟨e,he,hx⟩:=ji.1 hm;exact hid e he hx,sm.nodup⟩
  ·rw[Heap.new_ents]at he;rcases ja.1 he with rfl|he
   ·refine⟨l,hat,l2,l3,l4.1,l4.2.1,fun i hi=>?_⟩;obtain⟨y,hy,hv⟩:=l4.2.2 i hi;have hbl:ρ'.bare.le { ρ' with at_:=fun b=>if b=H.n then some l else ρ b }:=⟨fun _ _ h=>(by simp[Place.bare]at h),fun _ hk=>⟨hk,rfl⟩,rfl,rfl,rfl⟩;exact⟨y,hy,(hv.pure (qf9 hc i hi)).mono hbl⟩
   ·obtain⟨m,g1,g2,g3,g4⟩:=sm.live e he;refine⟨m,by rw[hother _ (hid e he)];exact g1,fun hB=>?_,jI g3 h3.size,(g4.same (hkeep _ g3)).mono hle⟩;rcases h3.cold _ hB with h|⟨e,he,_⟩|h
    ·exact g2 h
    ·cases he
    ·omega
  ·rw[Heap.new_ents]at he he';rcases ja.1 he with rfl|he<;>rcases ja.1 he' with rfl|he'
   ·rfl
   ·rw[hat]at hm;cases hm;rw[hother _ (hid e' he')]at hm';obtain⟨q,g1,_,g3,_⟩:=sm.live e' he';rw[hm']at g1;cases g1;omega
   ·rw[hat]at hm';cases hm';rw[hother _ (hid e he)]at hm;obtain⟨q,g1,_,g3,_⟩:=sm.live e he;rw[hm]at g1;cases g1;omega
   ·rw[hother _ (hid e he)]at hm;rw[hother _ (hid e' he')]at hm';exact sm.inj e e' he he' m m' hm hm' hcb
  ·rw[Heap.new_ents]at he;rcases ja.1 he with rfl|he
   ·rw[hat]at hm;cases hm;exact .inr hrow
   ·rw[hother _ (hid e he)]at hm;exact .inl ⟨e,he,m,hm,rfl⟩
  ·rcases h3.cold _ hk with h|⟨e,he,_⟩|h
   ·exact .inl h
   ·cases he
   ·exact .inr (.inr h)
 rcases h ρ.bare w xs sm.bare (hx.pure hp)with⟨x,ρ',w',h0,h1,h2,h3⟩|⟨g,ys,h0,h1⟩
 ·obtain⟨ρ'',k1,k2,k3⟩:=up h1 h2 h3;exact .inl ⟨x,ρ'',w',h0,k1,k2,k3⟩
 ·refine .inr ⟨g,ys,h0,h1.mono ?_⟩;rintro e w' ⟨x,ρ',rfl,m1,m2,m3⟩;obtain⟨ρ'',k1,k2,k3⟩:=up m1 m2 m3;exact⟨x,ρ'',rfl,k1,k2,k3⟩
theorem CallAt.own{C:Ctx} {f:FuncId} {args:List AV} {sz:Nat} {es:List AV} (he:Elems sz es) (h:CallAt C f args ⟨0,[]⟩ (qdo 0 sz es) ⟨1,[qe4 0 es]⟩) (hp:qa9 args=true) (H:Heap) :
  CallAt C f args H (qdo H.n sz es) (qy8 H es):=by
 cases es with
 |nil=>
  have h':CallAt C f args ⟨0,[]⟩ .zslc ⟨0,[]⟩:=by
   intro ρ w xs sm hx;have dn:∀{x:Value} {ρ':Place} {w':World},VR ρ' .zslc x->Sim ρ' ⟨1,[[]]⟩ w'->Step ρ ⟨0,[]⟩ w ρ' ⟨1,[[]]⟩ w'->∃ρ'',VR ρ'' .zslc x/\Sim ρ'' ⟨0,[]⟩ w'/\Step ρ ⟨0,[]⟩ w ρ'' ⟨0,[]⟩ w':=fun {x ρ' w'} h1 h2 h3=>(by have hd:∀b,ρ b=none:=fun b=>sm.dom b (jh _);refine⟨ρ'.bare,h1.pure rfl,h2.bare,⟨⟨fun b l hb=>(by rw[hd b]at hb;cases hb),h3.le.fz,h3.le.os,h3.le.tape,h3.le.output⟩,h3.size,h3.keeps,fun e he=>(by cases he),jc _,fun b hb=>absurd hb (jk b),h3.cold⟩⟩);rcases h ρ w xs sm hx with⟨x,ρ',w',h0,h1,h2,h3⟩|⟨g,ys,h0,h1⟩
   ·obtain⟨ρ'',k1,k2,k3⟩:=dn h1 h2 h3;exact .inl ⟨x,ρ'',w',h0,k1,k2,k3⟩
   ·refine .inr ⟨g,ys,h0,h1.mono ?_⟩;rintro e w' ⟨x,ρ',rfl,m1,m2,m3⟩;obtain⟨ρ'',k1,k2,k3⟩:=dn m1 m2 m3;exact⟨x,ρ'',rfl,k1,k2,k3⟩
  exact h'.lift hp H
 |cons e r=>exact CallAt.new h hp he.pure H
theorem FitH.keep1{H:Heap} {b:Nat} {cs:List AV} (h:H.get b=some (.cells cs)) (hp:qa9 cs=true) {fs:List (List (Nat × Blk))} (hfs:fs.flatten=[(0,.cells cs)]):FitH 0 [(b,0)] [] H ⟨1,fs⟩ where
 nd1:=by simp
 nd2:=by simp
 nd3:=by simp[Heap.ents,hfs]
 lt:=fun x hx=>by simp at hx;subst hx;exact Nat.zero_lt_one
 idn:=fun x hx h=>absurd h (jk _)
 num:=jh _
 src:=fun e he=>by have he':e∈fs.flatten:=he;rw[hfs]at he';simp at he';subst he';exact⟨b,.cells cs,by simp,h,qaf hp⟩
 frz:=fun x hx=>by cases hx
theorem FitH.keep0{H:Heap} {m:Nat} {fs:List (List (Nat × Blk))} (hfs:fs.flatten=[]):FitH 0 [] [] H ⟨m,fs⟩ where
 nd1:=jS
 nd2:=jS
 nd3:=by simp[Heap.ents,hfs]
 lt:=fun x h=>by cases h
 idn:=fun x h=>by cases h
 num:=jh _
 src:=fun e he=>by have he':e∈fs.flatten:=he;rw[hfs]at he';cases he'
 frz:=fun x h=>by cases h
theorem FitH.same{n:Nat} {σ:List (Nat × Nat)} {H H':Heap} (hσ:∀x,x∈σ->x.1=x.2) (nd:(σ.map (·.1)).Nodup) (lt:∀x,x∈σ->x.2 < H'.n) (num:n<=H'.n) (nd3:(H'.ents.map (·.1)).Nodup)
  (src:∀e,e∈H'.ents->(e.1,e.1)∈σ/\H.get e.1=some e.2/\qhp σ [] e.2 e.2):FitH n σ [] H H' where
 nd1:=by simpa using nd
 nd2:=by have:σ.map (·.2)=σ.map (·.1):=yM fun x hx=>(hσ x hx).symm;rw[this];exact nd
 nd3:=nd3
 lt:=lt
 idn:=fun x hx _=>hσ x hx
 num:=num
 src:=fun e he=>⟨e.1,e.2,(src e he).1,(src e he).2.1,(src e he).2.2⟩
 frz:=fun x h=>by cases h
theorem FitH.canonS{sz b:Nat} {es:List AV} {g g0:List (Nat × Blk)} (he:Elems sz es) (hs:g.Sublist g0) (h0:∀e,e∈g0->e.1 < b) (hg:∀e,e∈g->qhp ((b,b)::g.map fun e=>(e.1,e.1)) [] e.2 e.2) (hn0:(g0.map (·.1)).Nodup) :
  FitH 0 ((b,b)::g.map fun e=>(e.1,e.1)) [] (qy8 ⟨b,[g0]⟩ es) ⟨b+1,[qe4 b es++g]⟩:=by
 have hn:(g.map (·.1)).Nodup:=(hs.map _).nodup hn0;have hb0:b ∉ g0.map (·.1):=fun h=>by obtain⟨e,he,hx⟩:=ji.1 h;have:=h0 e he;omega
 have hb:b ∉ g.map (·.1):=fun h=>hb0 ((hs.map _).subset h);have hm:(g.map fun e=>(e.1,e.1)).map (·.1)=g.map (·.1):=by simp
 refine .same (fun x hx=>?_) ?_ (fun x hx=>?_) (jh _) ?_ fun e hx=>?_
 ·rcases ja.1 hx with rfl|hx
  ·rfl
  ·obtain⟨e,_,rfl⟩:=ji.1 hx;rfl
 ·rw[jj,hm];exact jr.2 ⟨hb,hn⟩
 ·rcases ja.1 hx with rfl|hx
  ·exact jX _
  ·obtain⟨e,hm,rfl⟩:=ji.1 hx;have:=h0 e (hs.subset hm);show e.1 < b+1;omega
 ·cases es with
  |nil=>simpa[Heap.ents,qe4]using hn
  |cons x r=>simp only[Heap.ents,qe4,je,js,jg,List.cons_append,jq,jj];exact jr.2 ⟨hb,hn⟩
 ·have old:e∈g->(e.1,e.1)∈(b,b)::(g.map fun e=>(e.1,e.1))/\(qy8 ⟨b,[g0]⟩ es).get e.1=some e.2/\qhp ((b,b)::g.map fun e=>(e.1,e.1)) [] e.2 e.2:=fun h=>by
   refine⟨jp _ (ji.2 ⟨e,h,rfl⟩),?_,hg e h⟩;cases es with
   |nil=>exact qgi (fs:=[g0]) (by simpa using hn0) (by simpa using hs.subset h)
   |cons x r=>exact qgi (fs:=[(b,.cells (qa5 (x::r)))::g0]) (by simpa using⟨fun y hy=>hb0 (ji.2 ⟨_,hy,rfl⟩),hn0⟩) (by simp[hs.subset h])
  have hx':e∈qe4 b es++g:=by simpa[Heap.ents]using hx
  cases es with
  |nil=>exact old hx'
  |cons x r=>
   rcases ja.1 hx' with rfl|h
   ·refine⟨jA,?_,qaf he.pure⟩;simp[qy8,Heap.new,pushF,Heap.get,getFs,getF]
   ·exact old h
theorem FitH.canon{sz b:Nat} {es:List AV} {g:List (Nat × Blk)} (he:Elems sz es) (hg:∀e,e∈g->e.1 < b/\qhp ((b,b)::g.map fun e=>(e.1,e.1)) [] e.2 e.2) (hn:(g.map (·.1)).Nodup) :
  FitH 0 ((b,b)::g.map fun e=>(e.1,e.1)) [] (qy8 ⟨b,[g]⟩ es) ⟨b+1,[qe4 b es++g]⟩:=
 .canonS he (yj _) (fun e h=>(hg e h).1) (fun e h=>(hg e h).2) hn
def litV(b m sz:Nat) (es:List AV):AV:=match es with
 |[]=>.slc b 0 0 (.ex 0)
 |_::_=>.slc m 0 es.length (.rest sz)
theorem qh5{σ:List (Nat × Nat)} {Φ:List (Nat × List AV)} {b b' sz:Nat} {es:List AV} (h:qb2 b σ=some b'):qat σ Φ (qdo b sz es) (qdo b' sz es):=by cases es<;>simp[qdo,qat,h]
theorem qpw{H:Heap} {b sz len:Nat} {es:List AV} (he:Elems sz es) (hne:es≠[]) (hl:es.length=len) (hb:H.get b=some (.cells (qa5 es))):∃σ Φ,qat σ Φ (.slc b 0 len (.rest sz)) (qdo 0 sz es)/\FitH 0 σ Φ H ⟨1,[qe4 0 es]⟩:=by subst hl;refine⟨[(b,0)],[],?_,.keep1 hb he.pure (by simp[qci hne])⟩;rw[qch hne];simp[qat,qb2]
theorem qkd{H:Heap} {u:AV} {sz:Nat} (h:u=.nilS\/u=.zslc\/∃b,u=.slc b 0 0 (.ex 0)):∃σ Φ,qat σ Φ u (qdo 0 sz [])/\FitH 0 σ Φ H ⟨1,[qe4 0 []]⟩:=by refine⟨[],[],?_,.keep0 (by simp[qe4])⟩;rcases h with rfl|rfl|⟨b,rfl⟩<;>simp[qdo,qat]
open Classical in
def ownG{α:Type} (ss:List (List Nat)) (enc:α->List AV) (pre:α->Prop) (sz:Nat) (els:α->List AV):List AV->Heap->Option (AV × Heap):=fun args H=>
 if h:qa9 args=true/\∃x,qga ⟨0,[]⟩ ss args=some (enc x)/\pre x then some (qdo H.n sz (els h.2.choose),qy8 H (els h.2.choose)) else none
def mkOwn{P:Program} {α:Type} (f:FuncId) (ss:List (List Nat)) (enc:α->List AV) (pre:α->Prop) (sz:Nat) (els:α->List AV) (he:∀x,Elems sz (els x))
  (h:∀x,pre x->CallAt ⟨P,fun _=>[],fun _=>none⟩ f (enc x) ⟨0,[]⟩ (qdo 0 sz (els x)) ⟨1,[qe4 0 (els x)]⟩):Entry P:=
 ⟨f,ownG ss enc pre sz els,fun args H v H' hv=>by
  unfold ownG at hv;split at hv
  next hx=>obtain⟨hp,hx2⟩:=hx;simp only[sj,jf]at hv;obtain⟨rfl,rfl⟩:=hv;have hs:=hx2.choose_spec;have hf:=qjp (H:=⟨0,[]⟩) jS hs.1;exact((h _ hs.2).norm hf).own (he _) hp H
  ·cases hv⟩
theorem zbc{P:Program} {keep:FuncId->List Nat} {T:List (Entry P)} {α:Type} {f:FuncId} {ss:List (List Nat)} {enc:α->List AV} {pre:α->Prop} {sz:Nat} {els:α->List AV} {he:∀x,Elems sz (els x)}
  {h:∀x,pre x->CallAt ⟨P,fun _=>[],fun _=>none⟩ f (enc x) ⟨0,[]⟩ (qdo 0 sz (els x)) ⟨1,[qe4 0 (els x)]⟩} (hT:qaa f T=some (mkOwn f ss enc pre sz els he h).g) (inj:∀x y,enc x=enc y->x=y) (x:α) (hx:pre x)
  {args:List AV} (hp:qa9 args=true) (ht:qga ⟨0,[]⟩ ss args=some (enc x)) (H:Heap):qb7 (mkC P keep T) (.fn f) args H=some (qdo H.n sz (els x),qy8 H (els x)):=by
 rw[qin (g:=(mkOwn f ss enc pre sz els he h).g) hT];show ownG ss enc pre sz els args H=_;unfold ownG;have hex:qa9 args=true/\∃y,qga ⟨0,[]⟩ ss args=some (enc y)/\pre y:=⟨hp,x,ht,hx⟩;rw[dif_pos hex];have e:enc x=enc hex.2.choose:=yw (ht.symm.trans hex.2.choose_spec.1);rw[<- inj _ _ e]
theorem zaf{H:Heap} {sz n:Nat} {es:List AV} (h:es.length=n):qc7 (.fslc sz es)=some n/\qbb H sz n (.fslc sz es)=some (qa5 es):=by subst h;refine⟨rfl,?_⟩;simp only[qbb,jD,List.take_length]
theorem app_lit{P:Program} {H:Heap} {elem:TypeId} {b sz by_ n:Nat} {cs:List AV} {x z:AV} (hsz:qcg P elem=some sz) (hby:qco P elem=some by_) (hz:qc1 P elem=some z) (hzl:z.cells.length=sz) (h0:sz≠0) (hb0:by_≠0)
  (hx:qc7 x=some (n+1)) (hc:qbb H sz (n+1) x=some cs) (hcl:cs.length=(n+1) * sz) (hcs:allSingle cs=true) (hroom:(n+1) * by_<=17592186044416) (hb:H.get b=some (.cells [])) (hrow:∀cs,qpi P elem cs=.cells cs) :
  qby P H elem (.slc b 0 0 (.ex 0)) x=some (.slc H.n 0 (n+1) (.rest sz),H.new (.cells cs)):=by
 have c0:(Nat.beq sz 0 || !(Nat.beq z.cells.length sz && Nat.blt 0 by_))=false:=by
  have h1:Nat.beq sz 0=false:=qaw h0;have h2:Nat.blt 0 by_=true:=by simp;omega
  rw[h1,hzl,jD,h2];rfl
 have hr:qcf (0+(n+1)) by_=true:=by unfold qcf;rw[jN,jO];exact hroom
 have hcb:Nat.beq cs.length ((n+1) * sz)=true:=by rw[hcl];exact jD _
 have h2:Nat.ble (0+(n+1)) 0=false:=by rw[<- Bool.not_eq_true,jN];omega
 unfold qby;simp only[hsz,hby,hz,hx,jb,c0,hc,hr,hcs,h2,hcb,hrow];simp[readCells,hb,qek,qef]
theorem qvd{P:Program} {elem:TypeId} {b m sz by_:Nat} {es:List AV} {z:AV} {g:List (Nat × Blk)} {fs:List (List (Nat × Blk))} (hsz:qcg P elem=some sz) (hby:qco P elem=some by_) (hz:qc1 P elem=some z) (hzl:z.cells.length=sz) (h0:sz≠0) (hb0:by_≠0)
  (he:Elems sz es) (hcs:allSingle (qa5 es)=true) (hroom:es.length * by_<=17592186044416) (hrow:∀cs,qpi P elem cs=.cells cs:=by intro cs;rfl) :
  qby P ⟨m,((b,.cells [])::g)::fs⟩ elem (.slc b 0 0 (.ex 0)) (.fslc sz es)=some (litV b m sz es,qy8 ⟨m,((b,.cells [])::g)::fs⟩ es):=by
 cases es with
 |nil=>
  have c0:(Nat.beq sz 0 || !(Nat.beq z.cells.length sz && Nat.blt 0 by_))=false:=by have h1:Nat.beq sz 0=false:=qaw h0;have h2:Nat.blt 0 by_=true:=(by simp;omega);rw[h1,hzl,jD,h2];rfl
  unfold qby;simp only[hsz,hby,hz,jb,qc7,jW,c0,qbb,jD,List.take_nil,qa5];simp[qcf,allSingle,writeCells,Heap.get,getFs,getF,qho,qif,Heap.ready,Heap.set,setFs,setF,litV,qy8]
 |cons e r=>have:=app_lit (P:=P) (H:=⟨m,((b,.cells [])::g)::fs⟩) (elem:=elem) (b:=b) (n:=r.length) (x:=.fslc sz (e::r)) (cs:=qa5 (e::r)) hsz hby hz hzl h0 hb0 (zaf (H:=⟨0,[]⟩) (es:=e::r) (n:=r.length+1) (by simp)).1 (zaf (es:=e::r) (n:=r.length+1) (by simp)).2 he.len hcs hroom (by simp[Heap.get,getFs,getF]) hrow;rw[this];rfl
theorem qym{b:Nat} {es:List AV} {g:List (Nat × Blk)} (h:es≠[]):getF b (qe4 b es++g)=some (.cells (qa5 es)):=by rw[qci h];show getF b ((b,_)::g)=_;unfold getF;rw[jD]
theorem zb3{b c:Nat} {es:List AV} {g:List (Nat × Blk)} (h:c≠b):getF c (qe4 b es++g)=getF c g:=by
 cases es with
 |nil=>rfl
 |cons x r=>
  show getF c ((b,_)::g)=_
  conv=>lhs;unfold getF
  rw[qaw (fun e=>h e.symm)]
theorem FitH.grown{H:Heap} {b sz:Nat} {es:List AV} (he:Elems sz es) (hne:es≠[]) (h:H.get b=some (.cells (qa5 es))):FitH 0 [(b,0)] [] H ⟨1,[qe4 0 es]⟩:=.keep1 h he.pure (by simp[qci hne])
section
variable {P:Program} {H:Heap} {t elem:TypeId} {b sz len i:Nat} {cs:List AV}
end
theorem CallAt.freeze{C:Ctx} {f:FuncId} {args:List AV} {v v':AV} {H1:Heap} {Φ:List (Nat × List AV)} (h:CallAt C f args ⟨0,[]⟩ v H1) (fv:qat [] Φ v v') (fh:FitH 0 [] Φ H1 ⟨0,[]⟩):CallAt C f args ⟨0,[]⟩ v' ⟨0,[]⟩:=by
 intro ρ w xs sm hx;have dn:∀{x:Value} {ρ':Place} {w':World},VR ρ' v x->Sim ρ' H1 w'->Step ρ ⟨0,[]⟩ w ρ' H1 w'->∃ρ'',VR ρ'' v' x/\Sim ρ'' ⟨0,[]⟩ w'/\Step ρ ⟨0,[]⟩ w ρ'' ⟨0,[]⟩ w':=fun {x ρ' w'} h1 h2 h3=>by
  have hd:∀b,ρ b=none:=fun b=>sm.dom b (jh _);refine⟨qei 0 [] Φ ρ' w' h2.below,Fits.run (fh.fits h2) h2 _ (jc _) h1 fv,fh.sim h2 (jh _),⟨⟨fun b l hb=>(by rw[hd b]at hb;cases hb),fun k hk=>?_,?_,?_,?_⟩,h3.size,h3.keeps,fun e he=>(by cases he),jc _,fun b hb=>absurd hb (jk b),fun k hk=>?_⟩⟩
  ·obtain⟨g1,g2⟩:=h3.le.fz k hk;exact⟨.inl g1,(h2.below k g1).trans g2⟩
  ·exact h2.os.trans h3.le.os
  ·exact h2.tape.trans h3.le.tape
  ·exact h2.output.trans h3.le.output
  ·rcases hk with hk|⟨b,cs,l,m1,m2,rfl⟩
   ·exact h3.cold k hk
   ·obtain⟨cs0,g1,_⟩:=fh.frz _ m1;rcases h3.rows _ (Heap.get_mem g1) l m2 with⟨e,he,_⟩|h
    ·cases he
    ·exact .inr (.inr h)
 rcases h ρ w xs sm hx with⟨x,ρ',w',h0,h1,h2,h3⟩|⟨g,ys,h0,h1⟩
 ·obtain⟨ρ'',k1,k2,k3⟩:=dn h1 h2 h3;exact .inl ⟨x,ρ'',w',h0,k1,k2,k3⟩
 ·refine .inr ⟨g,ys,h0,h1.mono ?_⟩;rintro e w' ⟨x,ρ',rfl,m1,m2,m3⟩;obtain⟨ρ'',k1,k2,k3⟩:=dn m1 m2 m3;exact⟨x,ρ'',rfl,k1,k2,k3⟩
theorem CallAt.froze{C:Ctx} {f:FuncId} {args:List AV} {sz:Nat} {es:List AV} (he:Elems sz es) (h:CallAt C f args ⟨0,[]⟩ (qdo 0 sz es) ⟨1,[qe4 0 es]⟩):CallAt C f args ⟨0,[]⟩ (.fslc sz es) ⟨0,[]⟩:=by
 cases es with
 |nil=>exact h.freeze (Φ:=[]) (by simp[qdo,qat]) FitH.empty
 |cons e r=>
  refine h.freeze (Φ:=[(0,qa5 (e::r))]) ?_ (.froze (by simp) fun x hx=>?_)
  ·simp only[qdo,qat];refine .inl ⟨qa5 (e::r),by simp[qca],?_,trivial,he.size⟩;unfold qek;rw[jF,<- he.len,qcn]
  ·simp at hx;subst hx;exact⟨qa5 (e::r),by simp[qe4,Heap.get,getFs,getF],qaf he.pure,he.pure⟩
theorem qt9{H:Heap} {b sz len:Nat} {cap:Cap} {es fr:List AV} (he:Elems sz es) (hb:H.get b=some (.cells (qa5 es))) (hl:len<=es.length) (hf:fr=es.take len):∃σ Φ,qat σ Φ (.slc b 0 len cap) (.fslc sz fr)/\FitH 0 σ Φ H ⟨0,[]⟩:=by
 subst hf;refine⟨[],[(b,qa5 es)],?_,.froze (by simp) fun x hx=>?_⟩
 ·simp only[qat];exact .inl ⟨qa5 es,by simp[qca],qq9 he hl,by simp;omega,(he.take len).size⟩
 ·simp only[ju]at hx;subst hx;exact⟨qa5 es,hb,qaf he.pure,he.pure⟩
section
variable {κ ν:Type} [DecidableEq κ]
def getM(a:κ):List (κ × ν)->Option ν
 |[]=>none
 |p::r=>if p.1=a then some p.2 else getM a r
def setM(a:κ) (v:ν):List (κ × ν)->List (κ × ν)
 |[]=>[(a,v)]
 |p::r=>if p.1=a then (a,v)::r else p::setM a v r
def delM(a:κ):List (κ × ν)->List (κ × ν)
 |[]=>[]
 |p::r=>if p.1=a then r else p::delM a r
def qo6(a:κ):List (κ × ν)->Option Nat
 |[]=>none
 |p::r=>if p.1=a then some 0 else (qo6 a r).map (· + 1)
structure MapT (P:Program) (t:TypeId) (ek:κ->AV) (ev:ν->AV) where
 tk:TypeId
 te:TypeId
 kd:TypeDesc
 hu:P.underlying t=some (.map tk te)
 hk:P.underlying tk=some kd
 eq:∀a b,qz0 P tk kd (ek a) (ek b)=some (decide (a=b))
 pure:∀a v,[ek a,ev v].flatMap (refs 6)=[]
def qdh(ek:κ->AV) (ev:ν->AV) (M:List (κ × ν)):List (AV × AV):=M.map fun p=>(ek p.1,ev p.2)
variable {P:Program} {t:TypeId} {ek:κ->AV} {ev:ν->AV}
theorem MapT.pos(m:MapT P t ek ev) (a:κ):∀(M:List (κ × ν)) (i:Nat),posA P m.tk m.kd (ek a) i (qdh ek ev M)=some ((qo6 a M).map (i + ·))
 |[],i=>rfl
 |p::r,i=>by
  simp only[qdh,jj,posA,m.eq,jb,qo6];by_cases h:p.1=a
  ·have h':a=p.1:=h.symm;simp[h]
  ·have h':¬ a=p.1:=fun e=>h e.symm;simp only[h',decide_false,h,if_false];have:=MapT.pos m a r (i+1);rw[qdh]at this;rw[this];cases qo6 a r with
   |none=>rfl
   |some j=>simp;omega
theorem MapT.ok(m:MapT P t ek ev) (a:κ):qx1 P m.tk m.kd (ek a)=some ():=by simp[qx1,m.eq]
theorem qpr{a:κ}:∀{M:List (κ × ν)} {i:Nat},qo6 a M=some i->∃h:i < M.length,M[i].1=a/\getM a M=some M[i].2
 |[],_,h=>by cases h
 |p::r,i,h=>by
  unfold qo6 at h;unfold getM;split at h
  next hp=>simp only[sj]at h;subst h;exact⟨by simp,hp,by simp[hp]⟩
  ·rename_i hp;cases hj:qo6 a r with
   |none=>simp[hj]at h
   |some j=>simp only[hj,jZ,sj]at h;subst h;obtain⟨h1,h2,h3⟩:=qpr hj;exact⟨by simpa using h1,by simpa using h2,by simp[hp,h3]⟩
theorem qx8{a:κ}:∀{M:List (κ × ν)},qo6 a M=none->getM a M=none
 |[],_=>rfl
 |p::r,h=>by
  unfold qo6 at h;unfold getM;split at h
  ·cases h
  ·rename_i hp;cases hj:qo6 a r with
   |none=>simp[hp,qx8 hj]
   |some j=>simp[hj]at h
theorem MapT.find(m:MapT P t ek ev) (a:κ) (M:List (κ × ν)):findA P m.tk m.kd (ek a) (qdh ek ev M)=some ((getM a M).map ev):=by
 unfold findA;rw[m.pos];simp only[jb];cases h:qo6 a M with
 |none=>simp[qx8 h]
 |some i=>
  obtain⟨h1,h2,h3⟩:=qpr h;simp only[jZ,jO,h3];have hl:i < (qdh ek ev M).length:=by simpa[qdh]using h1
  rw[qf4 hl];simp[qdh]
theorem zak{a:κ} {v:ν}:∀{M:List (κ × ν)} {i:Nat},qo6 a M=some i->setL (ek a,ev v) (qdh ek ev M) i=some (qdh ek ev (setM a v M))
 |[],_,h=>by cases h
 |p::r,i,h=>by
  unfold qo6 at h;unfold setM;split at h
  next hp=>simp only[sj]at h;subst h;simp[hp,qdh,setL]
  ·rename_i hp;cases hj:qo6 a r with
   |none=>simp[hj]at h
   |some j=>simp only[hj,jZ,sj]at h;subst h;have:=zak (v:=v) hj;rw[qdh]at this;simp[hp,qdh,setL,this]
theorem qtw{a:κ} {v:ν}:∀{M:List (κ × ν)},qo6 a M=none->setM a v M=M++[(a,v)]
 |[],_=>rfl
 |p::r,h=>by
  unfold qo6 at h;unfold setM;split at h
  ·cases h
  ·rename_i hp;cases hj:qo6 a r with
   |none=>simp[hp,qtw hj]
   |some j=>simp[hj]at h
theorem MapT.upd(m:MapT P t ek ev) (a:κ) (v:ν) (M:List (κ × ν)):updA P m.tk m.kd (ek a) (ev v) (qdh ek ev M)=some (qdh ek ev (setM a v M)):=by
 unfold updA;rw[m.pos];simp only[jb];cases h:qo6 a M with
 |none=>simp[qtw h,qdh]
 |some i=>
  obtain⟨h1,h2,_⟩:=qpr h;simp only[jZ,jO];have hl:i < (qdh ek ev M).length:=by simpa[qdh]using h1
  rw[qf4 hl];have he:(qdh ek ev M)[i].1=ek a:=by simp[qdh,h2]
  simp only[jb,he,decide_true];exact zak h
theorem zc9{a:κ}:∀{M:List (κ × ν)} {i:Nat},qo6 a M=some i->(qdh ek ev M).eraseIdx i=qdh ek ev (delM a M)
 |[],_,h=>by cases h
 |p::r,i,h=>by
  unfold qo6 at h;unfold delM;split at h
  next hp=>simp only[sj]at h;subst h;simp[hp,qdh]
  ·rename_i hp;cases hj:qo6 a r with
   |none=>simp[hj]at h
   |some j=>simp only[hj,jZ,sj]at h;subst h;have:=zc9 hj;rw[qdh]at this;simp[hp,qdh,this]
theorem qxp{a:κ}:∀{M:List (κ × ν)},qo6 a M=none->delM a M=M
 |[],_=>rfl
 |p::r,h=>by
  unfold qo6 at h;unfold delM;split at h
  ·cases h
  ·rename_i hp;cases hj:qo6 a r with
   |none=>simp[hp,qxp hj]
   |some j=>simp[hj]at h
theorem MapT.del(m:MapT P t ek ev) (a:κ) (M:List (κ × ν)):delA P m.tk m.kd (ek a) (qdh ek ev M)=some (qdh ek ev (delM a M)):=by
 unfold delA;rw[m.pos];simp only[jb];cases h:qo6 a M with
 |none=>simp[qxp h]
 |some i=>simp[zc9 h]
variable {H:Heap} {b:Nat} {M:List (κ × ν)}
theorem MapT.look(m:MapT P t ek ev) {z:AV} (hz:qc1 P m.te=some z) (hb:H.get b=some (.map (qdh ek ev M))) (a:κ):qk0 P H t (.map b) (ek a) false=some (((getM a M).map ev).getD z):=by unfold qk0;simp only[m.hu,m.hk,jb,m.ok,hb,m.find];cases getM a M<;>simp[hz]
theorem MapT.update(m:MapT P t ek ev) (hb:H.get b=some (.map (qdh ek ev M))) (a:κ) (v:ν):qiz P H t (.map b) (ek a) (ev v)=H.set b (.map (qdh ek ev (setM a v M))):=by
 unfold qiz;simp only[m.hu,m.hk,jb,m.ok,hb,m.upd];have:H.ready b [ek a,ev v]=H:=by unfold Heap.ready;rw[m.pure]
 rw[this]
theorem MapT.delete(m:MapT P t ek ev) (hb:H.get b=some (.map (qdh ek ev M))) (a:κ):qof P H t (.map b) (ek a)=H.set b (.map (qdh ek ev (delM a M))):=by unfold qof;simp only[m.hu,m.hk,jb,m.ok,hb,m.del]
theorem MapT.len(m:MapT P t ek ev) (hb:H.get b=some (.map (qdh ek ev M))):qer P H t (.map b)=some M.length:=by unfold qer;simp only[m.hu,jb,hb];simp[qdh]
end
def okFs(ok:TypeId->Bool) (P:Program):Nat->List Field->Option Nat
 |o,[]=>some o
 |o,f::r=>match Nat.beq f.offset o && ok f.type with
  |true=>okFs ok P (o+P.cellsOf f.type) r
  |false=>none
def zed(P:Program):Nat->TypeId->Bool
 |0,_=>false
 |Nat.succ n,t=>match P.underlying t with
  |some .bool=>Nat.beq (P.cellsOf t) 1
  |some (.int _)=>Nat.beq (P.cellsOf t) 1
  |some .string=>Nat.beq (P.cellsOf t) 1
  |some (.slice e)=>Nat.beq (P.cellsOf t) 1 && Nat.ble 1 (P.cellsOf e) && (qi8 P e).isSome && zed P n e && (match qi8 P e with
   |some false=>Nat.beq (P.cellsOf e) 1
   |_=>true)
  |some (.struct fs)=>match okFs (zed P n) P 0 fs.toList with
   |some k=>Nat.beq k (P.cellsOf t)
   |none=>false
  |_=>false
inductive Parts (S:TypeId->List AV->Prop):List Field->List AV->Prop
 |nil:Parts S [] []
 |cons (f:Field) (r:List Field) (a b:List AV) (h:S f.type a) (k:Parts S r b):Parts S (f::r) (a++b)
def qda(P:Program):Nat->TypeId->List AV->Prop
 |0,_,_=>False
 |Nat.succ n,t,as=>match P.underlying t with
  |some .bool=>∃b,as=[.bool b]
  |some (.int k)=>∃i,as=[.int k i]/\(Lit.int k i).wf=true
  |some .string=>∃s:List UInt8,as=[.str s]/\s.length<=maxLen
  |some (.slice e)=>∃es,as=[.fslc (P.cellsOf e) es]/\es.length<=maxLen/\∀x,x∈es->∃ag cs,qi8 P e=some ag/\qhr ag cs=some x/\qda P n e cs
  |some (.struct fs)=>Parts (qda P n) fs.toList as
  |_=>False
section
variable {W:World} {H:Type} {enc:TypeId × Value->H} {P:Program} {base:Nat} {sp:Nat->Bool} {held:Bool}
theorem qjs:∀{n:Nat} {t:TypeId} {as:List AV},zed P n t=true->qda P n t as->as.length=P.cellsOf t/\allSingle as=true
 |0,_,_,h,_=>by simp[zed]at h
 |n+1,t,as,h,hs=>by
  unfold zed at h;unfold qda at hs;split at h
  next hu=>rw[hu]at hs;obtain⟨b,rfl⟩:=hs;exact⟨(Nat.eq_of_beq_eq_true h).symm,rfl⟩
  next hu=>rw[hu]at hs;obtain⟨b,rfl,_⟩:=hs;exact⟨(Nat.eq_of_beq_eq_true h).symm,rfl⟩
  next hu=>rw[hu]at hs;obtain⟨b,rfl,_⟩:=hs;exact⟨(Nat.eq_of_beq_eq_true h).symm,rfl⟩
  next hu=>rw[hu]at hs;obtain⟨es,rfl,_⟩:=hs;simp only[jd]at h;exact⟨(Nat.eq_of_beq_eq_true h.1.1.1.1).symm,rfl⟩
  ·rename_i fs hu;rw[hu]at hs;have key:∀(l:List Field) (o:Nat) (as:List AV) (k:Nat),okFs (zed P n) P o l=some k->Parts (qda P n) l as->o+as.length=k/\allSingle as=true:=by
    intro l;induction l with
    |nil=>intro o as k h1 h2;cases h2;simp only[okFs,sj]at h1;exact⟨by simpa using h1,rfl⟩
    |cons f r ih=>
     intro o as k h1 h2;cases h2 with
     |cons _ _ a b ha hb=>
      unfold okFs at h1;split at h1
      next hc=>simp only[jd]at hc;obtain⟨l1,l2⟩:=qjs hc.2 ha;obtain⟨m1,m2⟩:=ih _ _ _ h1 hb;exact⟨by rw[jo];omega,by rw[qd1,l2,m2];rfl⟩
      ·cases h1
   split at h
   next k hk=>obtain⟨h1,h2⟩:=key _ _ _ _ hk hs;exact⟨by rw[<- Nat.eq_of_beq_eq_true h];omega,h2⟩
   ·cases h
  ·cases h
theorem qqd:∀{n:Nat} {fuel:Nat} {t:TypeId} {cs:List Value} {x:DataW H × List MemPlace},zed P n t=true->DataW.trod enc P W base sp held fuel t cs=some x->∃as,qgc P n t x.1=some as/\qda P n t as
 |0,_,_,_,_,h,_=>by simp[zed]at h
 |n+1,fuel,t,cs,x,h,htr=>by
  have hfu:∃m,fuel=m+1:=by
   cases fuel with
   |zero=>simp[DataW.trod]at htr
   |succ m=>exact⟨m,rfl⟩
  obtain⟨m,rfl⟩:=hfu;have h':=h;unfold zed at h;split at h
  next hu=>unfold DataW.trod at htr;rw[hu]at htr;split at htr<;>simp_all;obtain⟨rfl⟩:=htr;exact⟨_,by simp[qgc,hu,litA];rfl,by simp[qda,hu]⟩
  next k hu=>unfold DataW.trod at htr;rw[hu]at htr;split at htr<;>simp_all;obtain⟨⟨rfl,hw⟩,rfl⟩:=htr;exact⟨_,by simp[qgc,hu,litA];rfl,by simp[qda,hu,hw]⟩
  next hu=>unfold DataW.trod at htr;rw[hu]at htr;split at htr<;>simp_all;obtain⟨hw,rfl⟩:=htr;refine⟨_,by simp[qgc,hu,litA];rfl,?_⟩;simp only[qda,hu];refine⟨_,rfl,?_⟩;have e:∀s:ByteArray,s.data.toList.length=s.size:=fun s=>(by rw[Array.length_toList];rfl);rw[e];exact hw
  ·rename_i e hu;simp only[jd]at h;obtain⟨⟨⟨⟨_,h1⟩,h2⟩,h3⟩,h4⟩:=h;obtain⟨ag,hag⟩:=yW.1 h2;rw[hag]at h4;rcases DataW.trod_slice hu htr with⟨rfl,rfl⟩|⟨a,len,cap,elems,rest,m',hm,rfl,rfl,hb,hl,hc,hlen,hel,_⟩
   ·refine⟨_,by simp only[qgc,hu,jb];rfl,?_⟩;simp only[qda,hu];exact⟨[],rfl,jh _,fun x hx=>by cases hx⟩
   ·-- each element
    have each:∀y,y∈elems->∃as a,qgc P n e y.1=some as/\qda P n e as/\qhr ag as=some a:=by
     intro y hy;obtain⟨i,hi,rfl⟩:=yp hy;have hi':=hel i (by omega);rw[List.getElem?_eq_getElem hi]at hi';obtain⟨ci,_,hti⟩:=obs hi';obtain⟨as,q1,q2⟩:=qqd h3 hti;obtain⟨l1,l2⟩:=qjs h3 q2;refine⟨as,?_⟩;cases ag with
     |true=>exact⟨_,q1,q2,rfl⟩
     |false=>
      have h5:=Nat.eq_of_beq_eq_true h4;rw[h5]at l1
      match as,l1,l2 with
      |[a],_,l2=>
       refine⟨a,q1,q2,?_⟩;have hs:a.single=true:=by
        cases hx:a.single with
        |true=>rfl
        |false=>simp[allSingle,hx]at l2
       simp only[qhr,hs]
    have all:∀l:List (DataW H × List MemPlace),(∀y,y∈l->∃as a,qgc P n e y.1=some as/\qda P n e as/\qhr ag as=some a) ->
      ∃es,qt0 (fun d=>(qgc P n e d).bind (qhr ag)) (l.map (·.1))=some es/\es.length=l.length/\∀x,x∈es->∃ag cs,qi8 P e=some ag/\qhr ag cs=some x/\qda P n e cs:=by
     intro l;induction l with
     |nil=>intro _;exact⟨[],rfl,rfl,fun x hx=>by cases hx⟩
     |cons y r ih=>
      intro hy;obtain⟨as,a,q1,q2,q3⟩:=hy y (by simp);obtain⟨es,r1,r2,r3⟩:=ih fun z hz=>hy z (by simp[hz]);refine⟨a::es,by simp[qt0,q1,q3,r1],by simp[r2],fun x hx=>?_⟩;rcases ja.1 hx with rfl|hx
      ·exact⟨ag,as,hag,q3,q2⟩
      ·exact r3 x hx
    obtain⟨es,r1,r2,r3⟩:=all elems each;have hlenes:es.length<=maxLen:=(by omega);cases elems with
    |nil=>refine⟨_,by simp only[qgc,hu,jb,ye];rfl,?_⟩;simp only[qda,hu];exact⟨[],rfl,jh _,fun x hx=>by cases hx⟩
    |cons y r=>
     have hsz:qep (P.cellsOf e) es=true:=ql7 fun x hx=>(by obtain⟨ag',cs',k1,k2,k3⟩:=r3 x hx;rw[qpz k2];exact(qjs h3 k3).1);refine⟨[.fslc (P.cellsOf e) es],?_,?_⟩
     ·simp only[qgc,hu,jb,jj,hag];simp only[jj]at r1;simp only[r1,jb,hsz,h1]
     ·simp only[qda,hu];exact⟨es,rfl,hlenes,r3⟩
  ·rename_i fs hu;unfold DataW.trod at htr;rw[hu]at htr;have hst:(if cs.length=P.cellsOf t then (fs.toList.mapM fun f=>DataW.trod enc P W base sp held m f.type ((cs.drop f.offset).take (P.cellsOf f.type))).map fun xs=>(DataW.agg (xs.map (·.1)),xs.flatMap (·.2)) else none)=some x:=(by split at htr<;>simp_all);split at hst
   ·obtain⟨xs,hxs,rfl⟩:=Option.map_eq_some_iff.1 hst;have key:∀(l:List Field) (o k:Nat) (xs:List (DataW H × List MemPlace)),okFs (zed P n) P o l=some k->l.mapM (fun f=>DataW.trod enc P W base sp held m f.type ((cs.drop f.offset).take (P.cellsOf f.type)))=some xs ->
      ∃as,qqs (qgc P n) P o l (xs.map (·.1))=some as/\Parts (qda P n) l as/\o+as.length=k:=by
     intro l;induction l with
     |nil=>intro o k xs h1 h2;simp at h2;subst h2;simp only[okFs,sj]at h1;exact⟨[],rfl,.nil,by simpa using h1⟩
     |cons f r ih=>
      intro o k xs h1 h2;rw[List.mapM_cons]at h2;obtain⟨y,hy,h2⟩:=obs h2;obtain⟨ys,hys,h2⟩:=obs h2;obtain rfl:y::ys=xs:=(by simpa using h2);unfold okFs at h1;split at h1
      next hc=>simp only[jd]at hc;obtain⟨as,q1,q2⟩:=qqd hc.2 hy;obtain⟨bs,r1,r2,r3⟩:=ih _ _ _ h1 hys;obtain⟨l1,_⟩:=qjs hc.2 q2;have hb:Nat.beq as.length (P.cellsOf f.type)=true:=(by rw[l1];exact jD _);refine⟨as++bs,?_,.cons f r as bs q2 r2,by rw[jo];omega⟩;simp only[jj,qqs,hc.1,q1,jb,hb,r1]
      ·cases h1
    split at h
    next k hk=>obtain⟨as,q1,q2,q3⟩:=key _ _ _ _ hk hxs;have hb:Nat.beq as.length (P.cellsOf t)=true:=(by rw[<- Nat.eq_of_beq_eq_true h,<- q3,jO];exact jD _);refine⟨as,?_,by simp only[qda,hu];exact q2⟩;simp only[qgc,hu,jb,q1,hb]
    ·cases h
   ·cases hst
  ·cases h
end
open Classical in
def quz(C:Ctx) (call:qcj) (ops:Array Oper) (H0:Heap):List Oper->St->Option St
 |[],s=>some s
 |o::r,s=>(qi4 C call ops o s).bind fun s1=>if s1.H=H0 then quz C call ops H0 r s1 else none
def qhz:List Oper->Bool
 |[]=>true
 |o::r=>match qc4 o.op with
  |.allocs=>false
  |_=>qhz r
section
variable {C:Ctx} {call:qcj} {ops:Array Oper} {H0:Heap}
theorem qbf{s:St}:quz C call ops H0 [] s=some s:=rfl
open Classical in
theorem qt5{o:Oper} {r:List Oper} {s:St}:quz C call ops H0 (o::r) s=(qi4 C call ops o s).bind fun s1=>if s1.H=H0 then quz C call ops H0 r s1 else none:=rfl
open Classical in
def zcp(C:Ctx) (call:qcj) (ops:Array Oper) (H0:Heap):Option St->List Oper->Option St
 |some s,l=>if s.H=H0 then quz C call ops H0 l s else none
 |none,_=>none
theorem qc6{o:Oper} {r:List Oper} {s:St}:quz C call ops H0 (o::r) s=zcp C call ops H0 (qi4 C call ops o s) r:=by rw[qt5];cases qi4 C call ops o s<;>rfl
theorem qb9{s:St} {l:List Oper} (h:s.H=H0):zcp C call ops H0 (some s) l=quz C call ops H0 l s:=by simp only[zcp,h,if_true]
structure InvK (C:Ctx) (call:qcj) (H0:Heap) (d:DrawSt) (s:St):Prop where
 s_:d.s=s
 H_:s.H=H0
 ps:d.ps=[]
 hs:∀h,h∈d.hs->h.2=H0
 rs:∀x,x∈d.rs->∃y,qae C call x.o { x.s with H:=H0 }=some y/\y.1=x.v
theorem step_K{bef:Array Nat} {base i:Nat} {o:Oper} {s s1:St} {d:DrawSt} (hn:qc4 o.op≠.allocs) (h:qi4 C call ops o s=some s1) (hH:s1.H=H0) (k:InvK C call H0 d s):∃d',qib C call ops bef base i o d=some d'/\InvK C call H0 d' s1:=by
 obtain⟨ds,ps,hs,rs⟩:=d;obtain⟨rfl,k2,rfl,k4,k5⟩:=k;simp only at k2 k4 k5 h;obtain⟨g,hg,h⟩:=obs h;unfold qib;simp only[hg,jb];cases g with
 |false=>
  simp only at h ⊢;rw[h];simp only[jb,qb4,qb0,Heap.lay];cases hc:qc4 o.op with
  |acts=>exact⟨_,rfl,rfl,hH,rfl,fun x hx=>by
    rcases ja.1 hx with rfl|hx
    ·exact hH
    ·exact k4 x hx,k5⟩
  |pure=>exact⟨_,rfl,rfl,hH,rfl,k4,k5⟩
  |reads=>exact⟨_,rfl,rfl,hH,rfl,k4,k5⟩
  |allocs=>exact absurd hc hn
 |true=>
  simp only at h ⊢;obtain⟨⟨v,Hv⟩,hv,hp⟩:=obs h;simp only at hp;cases hc:qc4 o.op with
  |acts=>
   simp only[qb4,qb0,Heap.lay];have e:qae C call o (ds.wH ds.H)=some (v,Hv):=hv;have hp':St.put (ds.wH Hv) o.dst v=some s1:=hp;simp only[e,jb,hp'];exact⟨_,rfl,rfl,hH,rfl,fun x hx=>by
    rcases ja.1 hx with rfl|hx
    ·exact hH
    ·exact k4 x hx,k5⟩
  |pure=>obtain⟨e,_⟩:=qka hc hv;subst e;have hp':ds.put o.dst v=some s1:=hp;simp only[hv,jb,hp'];exact⟨_,rfl,rfl,hH,rfl,k4,k5⟩
  |reads=>
   have e:=qj2 hc hv;subst e;have hp':ds.put o.dst v=some s1:=hp;simp only[hv,jb,hp'];refine⟨_,rfl,rfl,hH,rfl,k4,fun x hx=>?_⟩;rcases ja.1 hx with rfl|hx
   ·simp only;rw[<- k2];exact⟨_,hv,rfl⟩
   ·exact k5 x hx
  |allocs=>exact absurd hc hn
theorem zig{bef:Array Nat} {base:Nat}:∀{l:List Oper} {i:Nat} {s s':St} {d:DrawSt},qhz l=true->quz C call ops H0 l s=some s'->InvK C call H0 d s->∃d',qnl C call ops bef base i l d=some d'/\InvK C call H0 d' s'
 |[],i,s,s',d,_,h,k=>by rw[qbf,sj]at h;subst h;exact⟨d,rfl,k⟩
 |o::r,i,s,s',d,hn,h,k=>by
  have hno:qc4 o.op≠.allocs/\qhz r=true:=by unfold qhz at hn;cases hc:qc4 o.op<;>simp[hc]at hn ⊢<;>exact hn
  rw[qt5]at h;obtain⟨s1,h1,h2⟩:=obs h;split at h2
  next hH=>obtain⟨d1,q1,q2⟩:=step_K (bef:=bef) (base:=base) (i:=i) hno.1 h1 hH k;obtain⟨d2,r1,r2⟩:=zig (bef:=bef) (base:=base) (i:=i+1) hno.2 h2 q2;exact⟨d2,by simp only[qnl,q1,jb];exact r1,r2⟩
  ·cases h2
theorem zht:∀{l:List Oper} {s:St},qhz l=true->qas l s=s
 |[],s,_=>rfl
 |o::r,s,hn=>by
  have hno:qc4 o.op≠.allocs/\qhz r=true:=by unfold qhz at hn;cases hc:qc4 o.op<;>simp[hc]at hn ⊢<;>exact hn
  have:qbw s o=s:=by unfold qbw;cases hop:o.op<;>first|rfl|(exfalso;exact hno.1 (by rw[hop];rfl))
  simp only[qas,this];exact zht hno.2
theorem same_K{bef:Array Nat} {x:Rec} (hx:∃y,qae C call x.o { x.s with H:=H0 }=some y/\y.1=x.v):∀{hs:List (Nat × Heap)},(∀h,h∈hs->h.2=H0)->qcs C call bef x H0 hs=true
 |[],_=>by obtain⟨y,h1,h2⟩:=hx;simp only[qcs,qe5,h1,h2,decide_true]
 |h::r,hh=>by
  obtain⟨y,h1,h2⟩:=hx;have e:=hh h (by simp);have ih:=same_K (bef:=bef) ⟨y,h1,h2⟩ (hs:=r) fun z hz=>hh z (by simp[hz]);have hs:qe5 C call x h.2=true:=by rw[e];simp only[qe5,h1,h2,decide_true]
  unfold qcs;rw[hs,ih];cases ahead bef x.i h.1<;>cases ahead bef h.1 x.i<;>rfl
theorem qyh{bef:Array Nat} {hs:List (Nat × Heap)} (hh:∀h,h∈hs->h.2=H0):∀{rs:List Rec},(∀x,x∈rs->∃y,qae C call x.o { x.s with H:=H0 }=some y/\y.1=x.v)->qcb C call bef H0 hs rs=true
 |[],_=>rfl
 |x::r,h=>by unfold qcb;rw[same_K (h x (by simp)) hh];exact qyh hh fun y hy=>h y (by simp[hy])
theorem qbh{n:Nat} {s:St} {Q:Out->St->Prop} {id:Nat} (hm:C.P.follows .mixedOrders=true) (hC:CallOK C call) (hd:qtb ops=true) (hn:qhz ops.toList=true)
  (h:∃s',quz C call ops ⟨s.H.n+ops.size,s.H.fs⟩ ops.toList { s with ts:=[],H:=⟨s.H.n+ops.size,s.H.fs⟩ }=some s'/\Q .normal s'):WpS C n (.region id ops true) s Q:=by
 obtain⟨s',h1,h2⟩:=h;refine qcc hm hC hd fun B hB=>?_;have hr:qbn (qas ops.toList { s with ts:=[] }) ops.size={ s with ts:=[],H:=⟨s.H.n+ops.size,s.H.fs⟩ }:=by rw[zht hn];rfl
 rw[hr];obtain⟨d,q1,q2⟩:=zig (bef:=B) (base:=s.H.n) (i:=0) (d:=⟨{ s with ts:=[],H:=⟨s.H.n+ops.size,s.H.fs⟩ },[],[],[]⟩) hn h1 ⟨rfl,rfl,rfl,fun h hh=>(by cases hh),fun x hx=>(by cases hx)⟩;refine⟨d,q1,qyh q2.hs q2.rs,?_⟩;rw[q2.ps,q2.s_];exact h2
end
theorem zgv {C : Ctx} {f : FuncId} {fn : Func} {body : Code} {args : Array Value} {as : List AV} {W : World} {hg : GlobsIn W} (hf : C.P.funcs[f]? = some fn) (hname : (fn.name == "runtime.NumGoroutine") = false) (hb : fn.body = some body)
  (h:CallAt C f as ⟨0,[]⟩ (.bool true) ⟨0,[]⟩) (hx:VRs (start W hg) as args.toList):Calls C.P f args W fun e w'=>e=.returned (.bool true)/\Below W.heap.size W w':=by
 have hname' : ¬ fn.name = "runtime.NumGoroutine" := fun e => by rw [e] at hname; simp at hname
 have hrun:(callFunc f args).run C.P W=.ok (.enter f args) W:=by simp[callFunc,hf,hname',hb]
 rcases h (start W hg) W args.toList (zfl W hg) hx with⟨x,ρ',w',h0,_⟩|⟨g,ys,h0,h1⟩
 ·rw[yL,hrun]at h0;cases h0
 ·rw[yL,hrun]at h0;cases h0;refine(h1.calls fun k=>room_wide k).mono ?_;rintro e w' ⟨x,ρ',rfl,k1,k2,k3⟩;have hx':x=.bool true:=by cases k1;rfl
  subst hx';exact⟨rfl,Step.grown k2 k3⟩
section
variable {H:Type} {enc:TypeId × Value->H} {P:Program} {W:World} {hg:GlobsIn W}
theorem zjt{n:Nat} {r:Reach} {b0 base:Nat} {sp:Nat->Bool} {held:Bool} {t:TypeId} {v:Value} {d:DataW H} {ps:List MemPlace} (hok:zed P n t=true) {ag:Bool} (hag:qi8 P t=some ag) (ha:ag=false->P.cellsOf t=1)
  (ht:DataW.Trod enc P W base sp held t v d ps) (hv:Value.okWide P W r b0 t v):∃as a,qda P n t as/\qhr ag as=some a/\VR (start W hg) a v:=by
 have ht':=ht;obtain⟨fuel,hf⟩:=ht;obtain⟨as,h1,h2⟩:=qqd hok hf;obtain⟨l1,l2⟩:=qjs hok h2;have hw:∃a,qhr ag as=some a:=by
  cases ag with
  |true=>exact⟨_,rfl⟩
  |false=>
   rw[ha rfl]at l1
   match as,l1,l2 with
   |[a],_,l2=>
    have hs:a.single=true:=by
     cases hx:a.single with
     |true=>rfl
     |false=>simp[allSingle,hx]at l2
    exact⟨a,by simp only[qhr,hs]⟩
 obtain⟨a,hw⟩:=hw;have harg:argA P n t d=some a:=by unfold argA;simp only[hag,jb,h1];exact hw
 exact⟨as,a,h2,hw,argA_run ht' hv harg⟩
end
mutual
def qiu(τ:Nat->Nat):AV->AV
 |.ptr b o=>.ptr (τ b) o
 |.slc b o len cap=>.slc (τ b) o len cap
 |.map b=>.map (τ b)
 |.yld b=>.yld (τ b)
 |.zptr b o=>.zptr (τ b) o
 |.func fn a c=>.func fn (qgr τ a) (qgr τ c)
 |.iface t v=>.iface t (qiu τ v)
 |.agg cs=>.agg (qgr τ cs)
 |.tup cs=>.tup (qgr τ cs)
 |v=>v
def qgr(τ:Nat->Nat):List AV->List AV
 |[]=>[]
 |v::r=>qiu τ v::qgr τ r
end
theorem qct(τ:Nat->Nat):∀(l:List AV),(qgr τ l).length=l.length
 |[]=>rfl
 |v::r=>by simp[qgr,qct τ r]
theorem qkx(τ:Nat->Nat):∀(l:List AV) (i:Nat) (h:i < (qgr τ l).length) (h':i < l.length),(qgr τ l)[i]=qiu τ l[i]
 |[],i,h,_=>absurd h (jk i)
 |v::r,0,_,_=>rfl
 |v::r,i+1,h,h'=>by simpa[qgr]using qkx τ r i (by simpa[qgr]using h) (by simpa using h')
mutual
theorem qid(τ:Nat->Nat):∀{v:AV},qab v=true->qiu τ v=v
 |.func fn a c,h=>by simp only[qab,jd]at h;simp only[qiu,qbt τ h.1,qbt τ h.2]
 |.iface t v,h=>by simp only[qiu,qid τ (show qab v=true from h)]
 |.agg cs,h=>by simp only[qiu,qbt τ (show qa9 cs=true from h)]
 |.tup cs,h=>by simp only[qiu,qbt τ (show qa9 cs=true from h)]
 |.ptr _ _,h=>by simp[qab]at h
 |.slc _ _ _ _,h=>by simp[qab]at h
 |.map _,h=>by simp[qab]at h
 |.yld _,h=>by simp[qab]at h
 |.zptr _ _,h=>by simp[qab]at h
 |.undef,_=>rfl
 |.bool _,_=>rfl
 |.int _ _,_=>rfl
 |.float _ _,_=>rfl
 |.cplx _ _ _,_=>rfl
 |.str _,_=>rfl
 |.nilP,_=>rfl
 |.fptr _ _,_=>rfl
 |.nilS,_=>rfl
 |.eslc,_=>rfl
 |.zslc,_=>rfl
 |.fslc _ _,_=>rfl
 |.xslc _ _,_=>rfl
 |.nilM,_=>rfl
 |.nilF,_=>rfl
 |.nilI,_=>rfl
 |.val _,_=>rfl
theorem qbt(τ:Nat->Nat):∀{l:List AV},qa9 l=true->qgr τ l=l
 |[],_=>rfl
 |v::r,h=>by simp only[qa9,jd]at h;simp only[qgr,qid τ h.1,qbt τ h.2]
end
theorem VR.ren{τ:Nat->Nat} {ρ ρ':Place} {v:AV} {x:Value} (r:VR ρ v x):(∀b l,ρ b=some l->ρ' (τ b)=some l)->ρ'.bare=ρ.bare->VR ρ' (qiu τ v) x:=by
 induction r generalizing ρ' with
 |undef x=>exact fun _ _=>.undef x
 |bool b=>exact fun _ _=>.bool b
 |int k n=>exact fun _ _=>.int k n
 |float k n=>exact fun _ _=>.float k n
 |cplx k a b=>exact fun _ _=>.cplx k a b
 |str s=>exact fun _ _=>.str s
 |nilP=>exact fun _ _=>.nilP
 |ptr b o l e=>exact fun h _=>.ptr _ o l (h b l e)
 |fptr cs o cb off vs hB hc hv ih=>intro _ hb;have hW:=congrArg Place.W hb;have hBB:=congrArg Place.B hb;simp only[Place.bare]at hW hBB;exact .fptr cs o cb off vs (by rw[hBB];exact hB) (fun i hi=>by rw[hW];exact hc i hi) fun i hi=>by rw[hb];exact hv i hi
 |nilS=>exact fun _ _=>.nilS
 |eslc a c=>exact fun _ _=>.eslc a c
 |zslcN=>exact fun _ _=>.zslcN
 |zslcE a=>exact fun _ _=>.zslcE a
 |slcE b o len c l e hc=>exact fun h _=>.slcE _ o len c l (h b l e) hc
 |slcR b o len sz c l e hc hf=>exact fun h _=>.slcR _ o len sz c l (h b l e) hc hf
 |fslc sz es cb off cap vs hB hcap hz hc hv ih=>intro _ hb;have hW:=congrArg Place.W hb;have hBB:=congrArg Place.B hb;simp only[Place.bare]at hW hBB;exact .fslc sz es cb off cap vs (by rw[hBB];exact hB) hcap hz (fun i hi j hj=>by rw[hW];exact hc i hi j hj) fun i hi j hj=>by rw[hb];exact hv i hi j hj
 |xslc sz es cb off vs hB hz hc hv ih=>intro _ hb;have hW:=congrArg Place.W hb;have hBB:=congrArg Place.B hb;simp only[Place.bare]at hW hBB;exact .xslc sz es cb off vs (by rw[hBB];exact hB) hz (fun i hi j hj=>by rw[hW];exact hc i hi j hj) fun i hi j hj=>by rw[hb];exact hv i hi j hj
 |fnil sz=>exact fun _ _=>.fnil sz
 |fnone sz a c=>exact fun _ _=>.fnone sz a c
 |nilM=>exact fun _ _=>.nilM
 |map b l e=>exact fun h _=>.map _ l (h b l e)
 |nilF=>exact fun _ _=>.nilF
 |func fn a c a' c' ha hc hav hcv iha ihc=>
  intro h hb;exact .func fn _ _ a' c' (by rw[qct];exact ha) (by rw[qct];exact hc)
   (fun i h1 h2=>by rw[qkx τ a i h1 (by rw[<- qct τ];exact h1)];exact iha i _ h2 h hb)
   (fun i h1 h2=>by rw[qkx τ c i h1 (by rw[<- qct τ];exact h1)];exact ihc i _ h2 h hb)
 |nilI=>exact fun _ _=>.nilI
 |iface t v x _ ih=>exact fun h hb=>.iface t _ x (ih h hb)
 |agg cs vs hl hv ih=>exact fun h hb=>.agg _ vs (by rw[qct];exact hl) fun i h1 h2=>by rw[qkx τ cs i h1 (by rw[<- qct τ];exact h1)];exact ih i _ h2 h hb
 |tup cs vs hl hv ih=>exact fun h hb=>.tup _ vs (by rw[qct];exact hl) fun i h1 h2=>by rw[qkx τ cs i h1 (by rw[<- qct τ];exact h1)];exact ih i _ h2 h hb
 |yld b l e=>exact fun h _=>.yld _ l (h b l e)
 |zptrN b o=>exact fun _ _=>.zptrN _ o
 |zptrP b o l e=>exact fun h _=>.zptrP _ o l (h b l e)
 |val v e=>exact fun _ _=>.val v e
def renT(τ:Nat->Nat):List (Nat × AV)->List (Nat × AV)
 |[]=>[]
 |x::r=>(x.1,qiu τ x.2)::renT τ r
def renM(τ:Nat->Nat):List (AV × AV)->List (AV × AV)
 |[]=>[]
 |x::r=>(qiu τ x.1,qiu τ x.2)::renM τ r
def qky(τ:Nat->Nat):Blk->Blk
 |.cells cs=>.cells (qgr τ cs)
 |.map es=>.map (renM τ es)
 |.obj t cs=>.obj t (qgr τ cs)
 |.buf t fz cs=>.buf t fz (qgr τ cs)
 |.iter s p=>.iter s p
 |.rng l c=>.rng l c
 |.loop st pend ks vs ts sz ps a b=>.loop st pend ks (qgr τ vs) (renT τ ts) sz ps a b
theorem qlr(τ:Nat->Nat):∀(l:List (AV × AV)),(renM τ l).length=l.length
 |[]=>rfl
 |v::r=>by simp[renM,qlr τ r]
theorem zar(τ:Nat->Nat):∀(l:List (AV × AV)) (i:Nat) (h:i < (renM τ l).length) (h':i < l.length),(renM τ l)[i]=(qiu τ l[i].1,qiu τ l[i].2)
 |[],i,h,_=>absurd h (jk i)
 |v::r,0,_,_=>rfl
 |v::r,i+1,h,h'=>by simpa[renM]using zar τ r i (by simpa[renM]using h) (by simpa using h')
theorem zbh(τ:Nat->Nat) {t:Nat}:∀{ts:List (Nat × AV)} {v:AV},look t (renT τ ts)=some v->∃u,look t ts=some u/\v=qiu τ u
 |[],v,h=>by simp[renT,qov]at h
 |x::r,v,h=>by
  unfold renT at h;rw[qfo]at h;rw[qfo];split at h
  next hb=>simp only[sj]at h;exact⟨x.2,by simp[hb],h.symm⟩
  next hb=>obtain⟨u,h1,h2⟩:=zbh τ h;exact⟨u,by simp[hb,h1],h2⟩
theorem qwt(τ:Nat->Nat) {t:Nat}:∀{ks:List Nat} {vs:List AV},qgw t ks (qgr τ vs)=(qgw t ks vs).map (qiu τ)
 |[],vs=>by simp[qe8,qk2]
 |k::ks,[]=>by simp[qgr,qe8]
 |k::ks,v::r=>by
  unfold qgr;rw[qe8,qe8];simp only;split
  ·rfl
  ·exact qwt τ
theorem BlkR.ren{τ:Nat->Nat} {ρ ρ':Place} {w:World} {l:Loc} {k:Blk} (r:BlkR ρ w l k) (h:∀b l,ρ b=some l->ρ' (τ b)=some l) (hb:ρ'.bare=ρ.bare):BlkR ρ' w l (qky τ k):=by
 have cells:∀{cs:List AV},(∀i (h:i < cs.length),∃x,w.cell? ⟨l.cb,l.off+i,none⟩=some x/\VR ρ cs[i] x)->∀i (h:i < (qgr τ cs).length),∃x,w.cell? ⟨l.cb,l.off+i,none⟩=some x/\VR ρ' (qgr τ cs)[i] x:=fun {cs} hv i hi=>by
  have hi':i < cs.length:=by rw[<- qct τ];exact hi
  obtain⟨x,hx,hxv⟩:=hv i hi';exact⟨x,hx,by rw[qkx τ cs i hi hi'];exact hxv.ren h hb⟩
 cases k with
 |cells cs=>exact⟨by rw[qct];exact r.1,r.2.1,cells r.2.2⟩
 |map es=>
  obtain⟨ents,clock,h1,h2,h3,h4⟩:=r;refine⟨ents,clock,h1,by rw[qlr];exact h2,fun i a b=>?_,h4⟩;have ha:i < es.length:=by rw[<- qlr τ];exact a
  rw[zar τ es i a ha];exact⟨(h3 i ha b).1.ren h hb,(h3 i ha b).2.ren h hb⟩
 |obj t cs=>exact⟨⟨by rw[qct];exact r.1.1,r.1.2.1,cells r.1.2.2⟩,r.2.1,by rw[qct];exact r.2.2⟩
 |buf t fz cs=>exact⟨⟨by rw[qct];exact r.1.1,r.1.2.1,cells r.1.2.2⟩,r.2.1,by rw[qct];exact r.2.2.1,r.2.2.2⟩
 |iter s p=>exact r
 |rng l c=>obtain⟨h0,q,h1,h2,h3,h4,h5⟩:=r;have hW:=congrArg Place.W hb;have hBB:=congrArg Place.B hb;simp only[Place.bare]at hW hBB;exact⟨h0,q,by rw[hBB];exact h1,by rw[hW];exact h2,h3,h4,by rw[hb];exact h5⟩
 |loop st pend ks vs ts sz ps a b=>
  obtain⟨q,h1,h2,h3,h4,h5,h6,h7,h8⟩:=r;refine⟨q,h1,h2,h3,h4,h5,h6,h7,fun t v hv=>?_⟩;rw[qwt]at hv;cases hk:qgw t ks vs with
  |some u=>simp only[hk,jZ,sj]at hv;subst hv;exact(h8 t u (by simp[hk])).ren h hb
  |none=>simp only[hk,Option.map_none]at hv;obtain⟨u,g1,g2⟩:=zbh τ hv;subst g2;exact(h8 t u (by simp[hk,g1])).ren h hb
def qg9(σ:List (Nat × Nat)) (N m:Nat) (b:Nat):Nat:=match qdr b σ with
 |some x=>x
 |none=>N+(b - m)
structure OutH (σ:List (Nat × Nat)) (H Hs Hs' H':Heap):Prop where
 num:H'.n=H.n+(Hs'.n - Hs.n)
 nodup:(H.ents.map (·.1)).Nodup->(∀e,e∈H.ents->e.1 < H.n)->(H'.ents.map (·.1)).Nodup
 src:∀e,e∈H'.ents->(∃e',e'∈Hs'.ents/\e=(qg9 σ H.n Hs.n e'.1,qky (qg9 σ H.n Hs.n) e'.2))\/(e∈H.ents/\∀x,x∈σ->x.1≠e.1)
theorem CallAt.framed{C:Ctx} {f:FuncId} {args args':List AV} {v':AV} {H Hs Hs' H':Heap} {σ:List (Nat × Nat)} (h:CallAt C f args' Hs v' Hs') (fh:FitH 0 σ [] H Hs) (hf:qaz σ [] args args') (out:OutH σ H Hs Hs' H') (hmn:Hs.n<=Hs'.n) :
  CallAt C f args H (qiu (qg9 σ H.n Hs.n) v') H':=by
 intro ρ w xs sm hx;obtain⟨ρs,hρs⟩ : ∃ρs,ρs=qei 0 σ [] ρ w sm.below:=⟨_,rfl⟩;have sms:Sim ρs Hs w:=by rw[hρs];exact fh.sim sm (jh _)
 have hxs:VRs ρs args' xs:=by obtain⟨k1,k2⟩:=qe0 hf;rw[hρs];refine⟨by rw[hx.1,k1],fun i h1 h2=>?_⟩;exact Fits.run (fh.fits sm) sm _ (jc _) (hx.2 i (by omega) h2) (k2 i (by omega) h1)
 have hB:∀k,ρs.B k->ρ.B k:=fun k hk=>by
  rw[hρs]at hk;rcases hk with hk|⟨b,cs,l,h1,_⟩
  ·exact hk
  ·cases h1
 have hB':∀k,ρ.B k->ρs.B k:=fun k hk=>by rw[hρs];exact .inl hk
 have hat:∀b,ρs b=(qdr b σ).bind ρ.at_:=fun b=>by subst hρs;simp only[qei,jk,if_false]
 have hsW:ρs.W=w:=by rw[hρs];rfl
 have hrowS:∀e,e∈Hs.ents->∀l,ρs e.1=some l->∃e0,e0∈H.ents/\ρ e0.1=some l/\(e0.1,e.1)∈σ:=fun e he l hl=>by obtain⟨b,k,h1,h2,_⟩:=fh.src e he;rw[hρs,qew fh h1]at hl;exact⟨(b,k),Heap.get_mem h2,hl,h1⟩
 have up:∀{x:Value} {ρ1:Place} {w':World},VR ρ1 v' x->Sim ρ1 Hs' w'->Step ρs Hs w ρ1 Hs' w'->∃ρ',VR ρ' (qiu (qg9 σ H.n Hs.n) v') x/\Sim ρ' H' w'/\Step ρ H w ρ' H' w':=by
  intro x ρ1 w' hv s1 t1;obtain⟨ρ',hρ'⟩ : ∃ρ':Place,ρ'={ ρ1 with at_:=fun b=>if b < H.n then ρ b else if b < H.n+(Hs'.n - Hs.n) then ρ1 (b - H.n+Hs.n) else none }:=⟨_,rfl⟩;have hlow:∀b,b < H.n->ρ' b=ρ b:=fun b hb=>by rw[hρ'];show (if b < H.n then ρ b else _)=_;rw[if_pos hb]
  have hW':ρ'.W=ρ1.W:=by rw[hρ']
  have hB1:ρ'.B=ρ1.B:=by rw[hρ']
  have hbare:ρ'.bare=ρ1.bare:=by rw[hρ'];rfl
  have key:∀b l,ρ1 b=some l->ρ' (qg9 σ H.n Hs.n b)=some l:=fun b l hl=>by
   have hbn:b < Hs'.n:=by
    rcases jR b Hs'.n with hh|hh
    ·exact hh
    ·rw[s1.dom b hh]at hl;cases hl
   rcases jR b Hs.n with hh|hh
   ·rw[t1.low b hh,hat]at hl;obtain⟨y,hy,hyl⟩:=obs hl;unfold qg9;rw[hy];have hyn:y < H.n:=by
     rcases jR y H.n with hq|hq
     ·exact hq
     ·rw[sm.dom y hq]at hyl;cases hyl
    rw[hlow y hyn];exact hyl
   ·have hno:qdr b σ=none:=by
     cases hq:qdr b σ with
     |none=>rfl
     |some y=>have:=fh.lt _ (qr4 hq);simp only at this;omega
    unfold qg9;rw[hno,hρ'];show (if H.n+(b - Hs.n) < H.n then _ else if H.n+(b - Hs.n) < H.n+(Hs'.n - Hs.n) then ρ1 (H.n+(b - Hs.n) - H.n+Hs.n) else none)=_;rw[if_neg (by omega),if_pos (by omega),show H.n+(b - Hs.n) - H.n+Hs.n=b by omega];exact hl
  have hle:ρ.le ρ':=by
   refine⟨fun b l hl=>?_,fun k hk=>?_,?_,?_,?_⟩
   ·have hbn:b < H.n:=by
     rcases jR b H.n with hq|hq
     ·exact hq
     ·rw[sm.dom b hq]at hl;cases hl
    rw[hlow b hbn];exact hl
   ·obtain⟨g1,g2⟩:=t1.le.fz k (hB' k hk);refine⟨by rw[hB1];exact g1,?_⟩;rw[hW',g2,hsW];exact sm.below k hk
   ·rw[hW',t1.le.os,hsW];exact sm.os
   ·rw[hW',t1.le.tape,hsW];exact sm.tape
   ·rw[hW',t1.le.output,hsW];exact sm.output
  have other:∀e,e∈H.ents->(∀y,y∈σ->y.1≠e.1)->∀l,ρ e.1=some l->∀e',e'∈Hs.ents->∀l',ρs e'.1=some l'->l'.cb≠l.cb:=fun e he hn l hl e' he' l' hl' hcb=>by obtain⟨e0,h1,h2,h3⟩:=hrowS e' he' l' hl';have:=sm.inj _ _ h1 he l' l h2 hl hcb;exact hn _ h3 this
  refine⟨ρ',hv.ren key hbare,⟨?_,?_,?_,?_,?_,?_,?_,?_,?_⟩,⟨hle,t1.size,?_,?_,?_,?_,?_⟩⟩
  ·rw[hB1];exact s1.base
  ·rw[hB1,hW'];exact s1.below
  ·rw[hW'];exact s1.os
  ·rw[hW'];exact s1.tape
  ·rw[hW'];exact s1.output
  ·intro b hb;rw[out.num]at hb;rw[hρ'];show (if b < H.n then ρ b else if b < H.n+(Hs'.n - Hs.n) then _ else none)=none;rw[if_neg (by omega),if_neg (by omega)]
  ·exact out.nodup sm.nodup fun e he=>sm.id_lt he
  ·intro e he;rcases out.src e he with⟨e',he',rfl⟩|⟨he',hn⟩
   ·obtain⟨l,g1,g2,g3,g4⟩:=s1.live e' he';exact⟨l,key _ l g1,by rw[hB1];exact g2,g3,g4.ren key hbare⟩
   ·obtain⟨l,g1,g2,g3,g4⟩:=sm.live e he';refine⟨l,hle.at_ _ _ g1,fun hB2=>?_,jI g3 t1.size,(g4.same (t1.keeps _ g3 fun e2 he2 l2 hl2=>other e he' hn l g1 e2 he2 l2 hl2)).mono hle⟩;rw[hB1]at hB2;rcases t1.cold _ hB2 with hh|⟨e2,he2,l2,hl2,hcb⟩|hh
    ·exact g2 (hB _ hh)
    ·exact other e he' hn l g1 e2 he2 l2 hl2 hcb
    ·omega
  ·intro e e2 he he2 l l2 hl hl2 hcb;have side:∀a,a∈Hs'.ents->∀la,ρ' (qg9 σ H.n Hs.n a.1)=some la->ρ1 a.1=some la:=fun a ha la hla=>(by obtain⟨l0,g1,_⟩:=s1.live a ha;rw[key _ l0 g1]at hla;cases hla;exact g1);have mixed:∀a,a∈Hs'.ents->∀q,q∈H.ents->(∀y,y∈σ->y.1≠q.1)->∀la lq,ρ1 a.1=some la->ρ q.1=some lq->la.cb≠lq.cb:=fun a ha q hq hn la lq hla hlq hc=>by
    rcases t1.rows a ha la hla with⟨e0,he0,l0,hl0,hc0⟩|hge
    ·exact other q hq hn lq hlq e0 he0 l0 hl0 (hc0.trans hc)
    ·obtain⟨l3,g1,_,g3,_⟩:=sm.live q hq;rw[hlq]at g1;cases g1;omega
   rcases out.src e he with⟨a,ha,rfl⟩|⟨ha,hn⟩<;>rcases out.src e2 he2 with⟨a2,ha2,rfl⟩|⟨ha2,hn2⟩
   ·have:=s1.inj a a2 ha ha2 l l2 (side a ha l hl) (side a2 ha2 l2 hl2) hcb;simp only[this]
   ·have hq:ρ e2.1=some l2:=(by rw[<- hlow _ (sm.id_lt ha2)];exact hl2);exact absurd hcb (mixed a ha e2 ha2 hn2 l l2 (side a ha l hl) hq)
   ·have hq:ρ e.1=some l:=(by rw[<- hlow _ (sm.id_lt ha)];exact hl);exact absurd hcb.symm (mixed a2 ha2 e ha hn l2 l (side a2 ha2 l2 hl2) hq)
   ·have hq:ρ e.1=some l:=(by rw[<- hlow _ (sm.id_lt ha)];exact hl);have hq2:ρ e2.1=some l2:=(by rw[<- hlow _ (sm.id_lt ha2)];exact hl2);exact sm.inj e e2 ha ha2 l l2 hq hq2 hcb
  ·intro k hk hn;refine t1.keeps k hk fun e he l hl=>?_;obtain⟨e0,h1,h2,_⟩:=hrowS e he l hl;exact hn e0 h1 l h2
  ·intro e he l hl;rcases out.src e he with⟨a,ha,rfl⟩|⟨ha,hn⟩
   ·obtain⟨l0,g1,_⟩:=s1.live a ha;have e1:=key _ l0 g1;simp only at hl;rw[e1]at hl;cases hl;rcases t1.rows a ha _ g1 with⟨e0,he0,l1,hl1,hc0⟩|hge
    ·obtain⟨e3,h1,h2,_⟩:=hrowS e0 he0 l1 hl1;exact .inl ⟨e3,h1,l1,h2,hc0⟩
    ·exact .inr hge
   ·have hq:ρ e.1=some l:=(by rw[<- hlow _ (sm.id_lt ha)];exact hl);exact .inl ⟨e,ha,l,hq,rfl⟩
  ·rw[out.num];omega
  ·exact hlow
  ·intro k hk;rw[hB1]at hk;rcases t1.cold k hk with hh|⟨e,he,l,hl,hlk⟩|hh
   ·exact .inl (hB _ hh)
   ·obtain⟨e0,h1,h2,_⟩:=hrowS e he l hl;exact .inr (.inl ⟨e0,h1,l,h2,hlk⟩)
   ·exact .inr (.inr hh)
 rcases h ρs w xs sms hxs with⟨x,ρ1,w',h0,h1,h2,h3⟩|⟨g,ys,h0,h1⟩
 ·obtain⟨ρ',k1,k2,k3⟩:=up h1 h2 h3;exact .inl ⟨x,ρ',w',h0,k1,k2,k3⟩
 ·refine .inr ⟨g,ys,h0,h1.mono ?_⟩;rintro e w' ⟨x,ρ1,rfl,m1,m2,m3⟩;obtain⟨ρ',k1,k2,k3⟩:=up m1 m2 m3;exact⟨x,ρ',rfl,k1,k2,k3⟩
