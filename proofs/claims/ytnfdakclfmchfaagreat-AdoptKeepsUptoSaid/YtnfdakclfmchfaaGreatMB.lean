/- How E's single operations meet the model's: addresses, indexes, slices. No condition. -/
import Derived.CallsIn
import Derived.RangeFuncIn
import Derived.Below
import Derived.Laws.Build
import Derived.Laws.IdiomCopy
import Derived.Laws.NewBlocks
import Derived.Laws.Append
import Derived.Laws.IdiomRangeMap
import Derived.Laws.Tables
import Derived.ChangeKeysEq
import Derived.Laws.Slices
import Derived.Laws.StructEq
import Derived.Laws.Concat
import Derived.IntWalk
import Derived.Laws.BytesString
import Derived.Lib.Builder
import Derived.Laws.IdiomStrings
import Derived.MapKept
import Derived.Lib.UnsafeStr
import Derived.OrdersIn
import Derived.RangeFuncCalls
namespace Go.Proofs.YtnfdakclfmchfaaGreat
noncomputable section
set_option linter.unusedSimpArgs false
set_option linter.unusedVariables false
open Go Go.RowKit
theorem ja:type_of% @Nat.le_refl:=@Nat.le_refl
theorem jc:type_of% @Option.bind_some:=@Option.bind_some
theorem jd:type_of% @List.mem_cons:=@List.mem_cons
theorem je:type_of% @List.mem_append:=@List.mem_append
theorem jf:type_of% @Bool.and_eq_true:=@Bool.and_eq_true
theorem jg:type_of% @Prod.mk.injEq:=@Prod.mk.injEq
theorem ji:type_of% @List.mem_cons_of_mem:=@List.mem_cons_of_mem
theorem jk:type_of% @run_underlying:=@run_underlying
theorem jl:type_of% @List.cons.injEq:=@List.cons.injEq
theorem jm:type_of% @if_neg:=@if_neg
theorem jp:type_of% @List.nodup_cons:=@List.nodup_cons
theorem jq:type_of% @List.flatten_cons:=@List.flatten_cons
theorem js:type_of% @List.length_append:=@List.length_append
theorem jv:type_of% @List.nil_append:=@List.nil_append
theorem jw:type_of% @List.mem_map:=@List.mem_map
theorem jx:type_of% @Nat.zero_le:=@Nat.zero_le
theorem jz:type_of% @Bool.false_eq_true:=@Bool.false_eq_true
theorem j3:type_of% @Nat.not_lt_zero:=@Nat.not_lt_zero
theorem j5:type_of% @List.map_append:=@List.map_append
theorem j6:type_of% @Nat.le_trans:=@Nat.le_trans
theorem j8:type_of% @List.mem_cons_self:=@List.mem_cons_self
theorem jA:type_of% @List.getElem_mem:=@List.getElem_mem
theorem jB:type_of% @List.getElem_append_right:=@List.getElem_append_right
theorem jC:type_of% @Nat.beq_refl:=@Nat.beq_refl
theorem jE:type_of% @List.length_cons:=@List.length_cons
theorem jF:type_of% @Nat.lt_or_ge:=@Nat.lt_or_ge
theorem jG:type_of% @Nat.le_of_ble_eq_true:=@Nat.le_of_ble_eq_true
theorem jH:type_of% @List.getElem_cons_zero:=@List.getElem_cons_zero
theorem jI:type_of% @Nat.lt_of_lt_of_le:=@Nat.lt_of_lt_of_le
theorem jL:type_of% @List.length_take:=@List.length_take
theorem jM:type_of% @if_false:=@if_false
theorem jN:type_of% @Result.andThen_ok:=@Result.andThen_ok
theorem jQ:type_of% @if_true:=@if_true
theorem jR:type_of% @congrArg:=@congrArg
theorem jS:type_of% @Nat.zero_add:=@Nat.zero_add
theorem jT:type_of% @Nat.lt_succ_self:=@Nat.lt_succ_self
theorem jU:type_of% @List.getElem_drop:=@List.getElem_drop
theorem jW:type_of% @Nat.ble_eq:=@Nat.ble_eq
theorem jY:type_of% @Sem.run_bind:=@Sem.run_bind
theorem yb:type_of% @List.getElem_append_left:=@List.getElem_append_left
theorem yc:type_of% @true_and:=@true_and
theorem ye:type_of% @List.getElem_take:=@List.getElem_take
theorem yg:type_of% @Option.getD_some:=@Option.getD_some
theorem yi:type_of% @List.foldl_cons:=@List.foldl_cons
theorem yk:type_of% @decide_eq_true_eq:=@decide_eq_true_eq
theorem ym:type_of% @List.Sublist.refl:=@List.Sublist.refl
theorem yq:type_of% @List.drop_zero:=@List.drop_zero
theorem yt:type_of% @Option.map_some:=@Option.map_some
theorem yz:type_of% @decide_true:=@decide_true
theorem y9:type_of% @MapKept.run_getObj_map:=@MapKept.run_getObj_map
theorem yA:type_of% @List.sublist_cons_self:=@List.sublist_cons_self
theorem yC:type_of% @Nat.min_eq_left:=@Nat.min_eq_left
theorem yD:type_of% @Nat.add_zero:=@Nat.add_zero
theorem yK:type_of% @Nat.sub_zero:=@Nat.sub_zero
theorem yL:type_of% @Function.comp_def:=@Function.comp_def
theorem yO:type_of% @List.perm_middle:=@List.perm_middle
theorem yV:type_of% @Sem.run_pure:=@Sem.run_pure
theorem yZ:type_of% @List.getElem_cons_succ:=@List.getElem_cons_succ
theorem Jb:type_of% @List.getElem_map:=@List.getElem_map
theorem Jd:type_of% @Bool.and_self:=@Bool.and_self
theorem Je:type_of% @Array.toArray_toList:=@Array.toArray_toList
theorem Jg:type_of% @Nat.sub_self:=@Nat.sub_self
theorem Ji:type_of% @List.Perm.refl:=@List.Perm.refl
theorem Jj:type_of% @IntWalk.i64_in:=@IntWalk.i64_in
theorem Jn:type_of% @Nat.eq_zero_or_pos:=@Nat.eq_zero_or_pos
theorem Jo:type_of% @List.getElem_range:=@List.getElem_range
theorem Jr:type_of% @Nat.lt_irrefl:=@Nat.lt_irrefl
theorem zL0{p:Prop}(h:p:=by
 (repeat' (first
  |(with_reducible apply qad)
  |(with_reducible apply qa3)
  |(with_reducible apply rE;simp[zS, *,SS.post];exact rfl)
  |(with_reducible apply qaf;simp only[qab,qa4])
  |(refine qal mixed qaz (by decide +kernel) (by decide +kernel) rfl ?_;apply qdm;simp[zS,zW,qb4,qbc,qar,Heap.lay,qap, *,SS.post];exact rfl)
  |(with_reducible apply qav;refine⟨by repeat first|exact qc6|refine qc7 (by decide +kernel) ?_,?_⟩;simp only[qab,qa4,allPend,Heap.lay,qap])
  |(with_reducible refine qfm (fun hc=>?_) (fun hc=>?_)<;>(have hd:=hc;(try simp at hd);(try subst hd);apply qdm;simp[zS,zW,qb4,qbc,qar,Heap.lay,qap, *,SS.post];exact rfl))
  |(with_reducible refine qim (fun hc=>?_) (fun hc=>?_)<;>(have hd:=hc;(try simp at hd);(try subst hd);apply qdm;simp[zS,zW,qb4,qbc,qar,Heap.lay,qap, *,SS.post];exact rfl))
  |(with_reducible refine qdd (fun hc=>?_) (fun hc=>?_)<;>(have hd:=hc;(try simp at hd);(try subst hd);apply qpn;simp[zS, *,SS.post];exact rfl))
  |(with_reducible refine qjs (fun hc=>?_) (fun hc=>?_)<;>(have hd:=hc;(try simp at hd);(try subst hd);apply qpn;simp[zS, *,SS.post];exact rfl))
  |(apply qag rfl)
  |(apply qaj rfl)
  |(refine qbe rfl (fun hc=>?_) (fun hc=>?_)<;>(have hd:=hc;(try simp at hd);(try subst hd)))
  |(with_reducible apply qa5;simp only[qab,qa4])
  |(with_reducible apply qak;simp)
  |((with_reducible apply qa7);(first|show _∧∃vs,retVal _ _ [.tmp _]=some vs∧_|show _∧∃vs,retVal _ _ []=some vs∧_|show _∧∃vs,retVal _ _ [.tmp _,.tmp _]=some vs∧_);simp[zQ])))
 all_goals first
  |((try simp[zQ]);refine qc8 rfl rfl rfl ?_ ne rfl rfl;all_goals (decide;done))
  |(refine hB2 _ ⟨[(_,2),(0,0)],[],rfl,rfl,rfl,?_,fT _ _ _ ?_ nst ?_ ?_⟩;all_goals first|(simp[qb8,qas,qaw,qa2];done)|(omega;done)|(simp[getF];done))
  |(refine hNo _ ⟨[(0,0),(1,1),(2,2)],[],rfl,rfl,rfl,?_,fP [(3,_)] _ (fun q hq=>?_)⟩;all_goals first|(simp[qb8,qas,qaw,qcn,qa2,qa8];done)|(simp[getF,qax (show 3≠q by omega)];done))
  |(refine hB2 _ ⟨[(_,3),(0,0),(1,1)],[],rfl,rfl,rfl,?_,fT _ _ _ ?_ nst ?_ ?_ ?_⟩;all_goals first|(simp[qb8,qas,qaw,qa2];done)|(omega;done)|(simp[getF];done))
  |(refine qai rfl ?_;all_goals (rfl;done))
  |(((try simp[zQ]);refine qc8 rfl rfl rfl ?_ ne1 ?_ ?_;all_goals first|(omega;done)|(simp[getF];done)))
  |((try simp[zQ]);refine qc8 rfl rfl rfl ?_ ne1 rfl rfl;all_goals (decide;done))
  |(refine hE _ ⟨[(2,2),(0,0),(3,3),(1,1)],[],rfl,rfl,rfl,?_,fin _ _ _ _ _ ne ?_ ?_⟩;all_goals first|(simp[qb8,qas,qaw,qa2];done)|(decide;done)|(simp;done))
  |((try simp[zQ]);refine qc8 rfl rfl ?_ ?_ ne rfl rfl;all_goals first|(simp[qa2,qa6];done)|(decide;done))
  |((try simp[zQ]);refine qje rfl ⟨rfl,rfl⟩ ?_ ?_ nS ?_;all_goals first|(decide;done)|(simp;done))
  |(refine hYes _ ⟨[(0,0),(1,1),(2,2)],[],rfl,rfl,rfl,?_,fP [(3,_)] _ (fun q hq=>?_)⟩;all_goals first|(simp[qb8,qas,qaw,qcn,qa2,qa8];done)|(simp[getF,qax (show 3≠q by omega)];done))
  |(refine qk8 rfl rfl ?_ ?_ ne ?_ ?_ ?_;all_goals first|(simp[qa2,qa6];done)|(omega;done)|(simp[getF];done))
  |(refine hB _ ⟨[(3,1),(0,0)],[],rfl,rfl,rfl,?_,g4⟩;all_goals (simp[qb8,qas,qaw,qa2,qa6];done))
  |(refine hB _ ⟨[(0,0)],[],rfl,rfl,rfl,?_,fin _⟩;all_goals (simp[qb8,qas,qaw,qa2,qa6];done))
  |((try simp[zQ]);refine qc8 rfl rfl rfl ?_ ne ?_ ?_;all_goals first|(decide;done)|(simp[getF];done))
  |(refine hB _ ⟨[(1,1),(0,0)],[],rfl,rfl,rfl,?_,fin _ _ ?_ ?_⟩;all_goals first|(simp[qb8,qas,qaw,qa2];done)|(simp[getF];done))
  |(refine hB _ ⟨[(_,2),(0,0)],[],rfl,rfl,rfl,?_,fin _ _ _ ?_ ?_ ?_⟩;all_goals first|(simp[qb8,qas,qaw,qa2];done)|(omega;done)|(simp[getF];done))
  |(refine qai rfl ?_;all_goals (simp[qdl, *];done))
  |(refine qai rfl ?_;all_goals (simp[qgn, *];done))
  |(refine qai rfl ?_;all_goals (simp[qf4, *];done))
  |(refine qai rfl ?_;all_goals (simp[qg2, *];done))
  |(refine qai rfl ?_;all_goals (simp[<- qq1, *];done))
  |(refine qai rfl ?_;all_goals (simp[qf4,in_imp];done))
  |(refine qai rfl ?_;all_goals (simp[stops_eq, *];done))
  |(refine⟨_,_,?_,fin true _⟩;all_goals (simp[qas,qa2];done))
  |(refine⟨_,_,?_,fin b1 _⟩;all_goals (simp[qas,qa2];done))
  |(exact⟨2,_,fun i hi=>rfl,⟨rfl,rfl⟩,rfl⟩)
  |(exact⟨2,_,fun i hi=>rfl,rfl,rfl⟩)
  |(((try simp[zQ]);first|exact qk8 rfl rfl (by (simp[qa2,qa6];done)) (by omega) ne (by (simp[getF];done)) (by (simp[getF];done)) (by (simp[getF, *];done))))
  |(((try simp[zQ]);refine qk8 rfl rfl ?_ ?_ ta ?_ ?_ ?_;all_goals first|(simp[qa2,qa6];done)|(omega;done)|(simp[getF];done)))
  |(refine qk8 rfl rfl rfl ?_ ne ?_ ?_ ?_;all_goals first|(omega;done)|(simp[getF];done))
  |(refine hB2 _ ⟨[(_,3),(0,0),(1,1)],[],rfl,rfl,rfl,?_,fS _ _ _ ?_ ?_ ?_ ?_⟩;all_goals first|(simp[qb8,qas,qaw,qa2];done)|(omega;done)|(simp[getF];done))
  |(refine qk8 rfl rfl ?_ ?_ n9 ?_ ?_ ?_;all_goals first|(simp[qa2,qa6];done)|(omega;done)|(simp[getF];done))
  |((try simp[zQ]);refine qc8 rfl ?_ rfl ?_ (qdi _ _ _ _) rfl rfl;all_goals first|(first|rfl|(simp[ntT,hf];done))|(decide;done))
  |(refine hn _ ⟨[(0,0)],[],rfl,rfl,rfl,?_,fin _⟩;all_goals (simp[qb8,qas,qaw,qa2,qa6];done))
  |(refine hB _ ⟨[(1,1),(0,0)],[],rfl,rfl,rfl,?_,f1⟩;all_goals (simp[qb8,qas,qaw,qa2,qa6,v1];done))
  |(exact fin)
  |((try simp[zQ]);refine qc8 rfl rfl rfl ?_ nx rfl rfl;all_goals (decide;done))
  |(refine hB _ ⟨[(1,1),(0,0)],[],rfl,rfl,rfl,?_,fin _ _ rfl rfl⟩;all_goals (simp[qb8,qas,qaw,qa2];done))
  |(((try simp[zQ]);refine qc8 rfl rfl rfl ?_ ne rfl rfl;all_goals (decide;done)))
  |(((try simp[zQ]);refine qc8 rfl rfl rfl ?_ nr ?_ ?_;all_goals first|(omega;done)|(simp[getF];done)))
  |(refine hB _ ⟨[(2,2),(0,0),(3,3),(1,1)],[],rfl,rfl,rfl,?_,fin _ _ _ _ _ ne ?_ ?_⟩;all_goals first|(simp[qb8,qas,qaw,qa2,qz2];done)|(decide;done)|(simp;done))
  |((try simp[zQ]);refine qc8 ?_ ?_ ?_ ?_ (ne) rfl rfl;all_goals first|(simp[*];done)|(first|rfl|(simp[*];done))|(simp[qa2,qa6];done)|(decide;done))
  |((try simp[zQ]);refine qc8 rfl ?_ rfl ?_ ne rfl rfl;all_goals first|(first|rfl|(simp[*];done))|(decide;done))
  |((try simp[zQ]);refine qc8 rfl ?_ rfl ?_ ne rfl rfl;all_goals first|(first|rfl|(simp[hf];done)|(simp[*];done))|(decide;done))
  |((try simp[zQ]);refine qc8 rfl ?_ rfl ?_ (qdi _ _ _ _) rfl rfl;all_goals first|(first|rfl|(simp[*];done))|(decide;done))
  |((try simp[zQ]);refine qc8 rfl ?_ rfl ?_ (qdi _ _ _ _) rfl rfl;all_goals first|(first|rfl|(simp[hf];done)|(simp[*];done))|(decide;done))
  |((try simp[zQ]);refine qc8 ?_ ?_ ?_ ?_ (qev _ _) rfl rfl;all_goals first|(rfl;done)|(first|rfl|(simp[*];done))|(simp[qa2,qa6];done)|(decide;done))
  |((try simp[zQ]);exact qc8 (by rfl) (by first|rfl|(simp[*];done)) (by (simp[qa2,qa6];done)) (by decide) (by(try exact n1);(all_goals exact qfl ne _ _ _)) rfl rfl)
  |(refine⟨_,_,?_,fin _ _ fun j hj=>rfl⟩;all_goals (first|(simp[qas,qa2, *];done)|(simp_all [qas,qa2];done)))
  |(((try simp[zQ]);refine qc8 ?_ rfl rfl ?_ ne rfl rfl;all_goals first|(first|(simp[*];done)|(simp_all;done))|(decide;done)))
  |(refine qai rfl ?_;all_goals (first|(simp[*];done)|(simp_all;done)))
  |(exfalso;omega)):p:=h
theorem zL1{p:Prop}(h:p:=by
 (repeat' (first
  |(with_reducible apply qad)
  |(with_reducible apply qa3)
  |(with_reducible apply rE;simp[zS, *,SS.post,qa9,qlx,whV,Tk.cs,qa6,qa2,qat,Nd.cs,qiq,qao];exact rfl)
  |(with_reducible apply qaf;simp only[qab,qa4])
  |(refine qal mixed qaz (by decide +kernel) (by decide +kernel) rfl ?_;apply qdm;simp[zS,zW,qb4,qbc,qar,Heap.lay,qap, *,SS.post,qa9,qlx,whV,Tk.cs,qa6,qa2,qat,Nd.cs,qiq,qao];exact rfl)
  |(with_reducible apply qav;refine⟨by repeat first|exact qc6|refine qc7 (by decide +kernel) ?_,?_⟩;simp only[qab,qa4,allPend,Heap.lay,qap])
  |(with_reducible refine qdd (fun hc=>?_) (fun hc=>?_)<;>(have hd:=hc;(try simp at hd);(try subst hd);apply qpn;simp[zS, *,SS.post,qa9,qlx,whV,Tk.cs,qa6,qa2,qat,Nd.cs,qiq,qao];exact rfl))
  |(apply qag rfl)
  |(apply qaj rfl)
  |(refine qbe rfl (fun hc=>?_) (fun hc=>?_)<;>(have hd:=hc;(try simp at hd);(try subst hd)))
  |(with_reducible apply qa5;simp only[qab,qa4])
  |(with_reducible apply qak;simp)
  |((with_reducible apply qa7);(first|show _∧∃vs,retVal _ _ [.tmp _]=some vs∧_|show _∧∃vs,retVal _ _ []=some vs∧_|show _∧∃vs,retVal _ _ [.tmp _,.tmp _]=some vs∧_);simp[zQ])))
 all_goals first
  |(first|exact⟨5,_,fun i hi=>qcu (by omega),rfl,rfl⟩|exact⟨5,_,fun i hi=>qcu (by omega),⟨rfl,rfl,rfl⟩,rfl⟩|exact⟨5,_,fun i hi=>qcu (by omega),⟨rfl,rfl⟩,rfl⟩)
  |(exact hend _)
  |(refine qai rfl ?_;all_goals (rfl;done))
  |(refine hn _ ⟨[(0,0)],[],rfl,rfl,rfl,?_,fin _⟩;all_goals (simp[qb8,qas,qaw,qa2,qa6];done))
  |((try simp[zQ]);refine qc8 rfl ?_ rfl ?_ (qdi _ _ _ _) rfl rfl;all_goals first|(first|rfl|(simp[ntT,hf];done))|(decide;done))
  |(refine qai rfl ?_;all_goals (simp;done))
  |(refine hB _ ⟨[(0,0)],[],rfl,rfl,rfl,?_,FitH.id1 (g:=[(0,.cells [qb3 t])]) ?_ ?_ ?_⟩;all_goals first|(simp[qb8,qas,qaw,qa2,qa6,qa8];done)|(simp;done)|(simp[zG,qa6];done))
  |((try simp[zQ]);refine qvm (k:=4) (c:=27) rfl rfl (qdi _ _ _ _) ?_ ?_ ?_ ?_;all_goals first|(decide;done)|(simp[zG,elS,elT,SS.post,hf];done)|(simp[zG,elS,elT];done)|(simp[zG,elS,qat];done))
  |(refine hB _ ⟨[(0,0)],[],rfl,rfl,rfl,?_,fin _ _⟩;all_goals (simp[qb8,qas,qaw,qa2,qa6];done))
  |((try simp[zQ]);refine qvm (k:=16) (c:=20) rfl rfl (qdi _ _ _ _) ?_ ?_ ?_ ?_;all_goals first|(decide;done)|(simp[zG,elS,elT,SS.post,hf];done)|(simp[zG,elS,elT];done)|(simp[zG,elS,qat];done))
  |(refine hS _ (i+1) ?_ ⟨?_,hinv⟩ ⟨[],[],⟨rfl,rfl,rfl,?_,FitH.nothing⟩⟩;all_goals first|(omega;done)|(simp[qb8,qas,qa2,qa6,qae];done))
  |(refine hB _ ⟨[(21,2),(0,0)],[],rfl,rfl,rfl,?_,fin _ _ _ ?_ ?_ ?_⟩;all_goals first|(simp[qb8,qas,qaw,qa2,qa8];done)|(omega;done)|(simp[getF];done))
  |(refine⟨_,_,?_,fin _ _ fun j hj=>qcu ?_⟩;all_goals first|(first|(simp[qas,qa2, *];done)|(simp_all [qas,qa2];done))|(omega;done))
  |(refine qai rfl ?_;all_goals (first|(simp[*];done)|(simp_all;done)))
  |(exfalso;omega)):p:=h
abbrev lsB0:List UInt8:=[100,100,32,100,116,32,108,105,32,111,112,116,103,114,111,117,112,32,111,112,116,105,111,110,32,112,32,114,98,32,114,112,32,114,116,32,114,116,99]
abbrev lsB1:List UInt8:=[100,101,115,99,32,102,111,114,101,105,103,110,79,98,106,101,99,116,32,116,105,116,108,101]
abbrev lsB2:List UInt8:=[104,116,109,108,32,116,97,98,108,101,32,116,101,109,112,108,97,116,101]
abbrev lsB3:List UInt8:=[109,105,32,109,110,32,109,111,32,109,115,32,109,116,101,120,116]
abbrev lsB4:List UInt8:=[111,112,116,103,114,111,117,112,32,111,112,116,105,111,110]
abbrev lsB5:List UInt8:=[97,100,100,114,101,115,115,32,97,112,112,108,101,116,32,97,114,101,97,32,97,114,116,105,99,108,101,32,97,115,105,100,101,32,98,97,115,101,32,98,97,115,101,102,111,110,116,32,98,103,115,111,117,110,100,32,98,108,111,99,107,113,117,111,116,101,32,98,111,100,121,32,98,114,32,98,117,116,116,111,110,32,99,97,112,116,105,111,110,32,99,101,110,116,101,114,32,99,111,108,32,99,111,108,103,114,111,117,112,32,100,100,32,100,101,116,97,105,108,115,32,100,105,114,32,100,105,118,32,100,108,32,100,116,32,101,109,98,101,100,32,102,105,101,108,100,115,101,116,32,102,105,103,99,97,112,116,105,111,110,32,102,105,103,117,114,101,32,102,111,111,116,101,114,32,102,111,114,109,32,102,114,97,109,101,32,102,114,97,109,101,115,101,116,32,104,49,32,104,50,32,104,51,32,104,52,32,104,53,32,104,54,32,104,101,97,100,32,104,101,97,100,101,114,32,104,103,114,111,117,112,32,104,114,32,104,116,109,108,32,105,102,114,97,109,101,32,105,109,103,32,105,110,112,117,116,32,107,101,121,103,101,110,32,108,105,32,108,105,110,107,32,108,105,115,116,105,110,103,32,109,97,105,110,32,109,97,114,113,117,101,101,32,109,101,110,117,32,109,101,116,97,32,110,97,118,32,110,111,101,109,98,101,100,32,110,111,102,114,97,109,101,115,32,110,111,115,99,114,105,112,116,32,111,98,106,101,99,116,32,111,108,32,111,112,116,103,114,111,117,112,32,111,112,116,105,111,110,32,112,32,112,97,114,97,109,32,112,108,97,105,110,116,101,120,116,32,112,114,101,32,115,99,114,105,112,116,32,115,101,97,114,99,104,32,115,101,99,116,105,111,110,32,115,101,108,101,99,116,32,115,111,117,114,99,101,32,115,116,121,108,101,32,115,117,109,109,97,114,121,32,116,97,98,108,101,32,116,98,111,100,121,32,116,100,32,116,101,109,112,108,97,116,101,32,116,101,120,116,97,114,101,97,32,116,102,111,111,116,32,116,104,32,116,104,101,97,100,32,116,105,116,108,101,32,116,114,32,116,114,97,99,107,32,117,108,32,119,98,114,32,120,109,112]
abbrev lsB6:List UInt8:=[97,110,110,111,116,97,116,105,111,110,45,120,109,108,32,109,105,32,109,110,32,109,111,32,109,115,32,109,116,101,120,116]
abbrev lsB7:List UInt8:=[97,112,112,108,101,116,32,99,97,112,116,105,111,110,32,104,116,109,108,32,109,97,114,113,117,101,101,32,111,98,106,101,99,116,32,116,97,98,108,101,32,116,100,32,116,101,109,112,108,97,116,101,32,116,104]
theorem obs{α β:Type _} {f:α -> Option β} {o:Option α} {b:β} (h:o.bind f = some b):∃a,o = some a /\ f a = some b:=Option.bind_eq_some_iff.1 h
theorem sj{α:Type _} (a b:α):(some a = some b) = (a = b):=Option.some.injEq a b
inductive Cap where
 |ex (c:Nat)
 |rest (sz:Nat)
 deriving DecidableEq
inductive AV where
 |undef
 |bool (b:Bool)
 |int (k:IntKind) (n:Int)
 |str (s:List UInt8)
 |nilP
 |ptr (b o:Nat)
 |fptr (cs:List AV) (o:Nat)
 |nilS
 |eslc
 |zslc
 |slc (b o len:Nat) (cap:Cap)
 |fslc (sz:Nat) (es:List AV)
 /-- as fslc, with no room behind it (not empty) -/
 |xslc (sz:Nat) (es:List AV)
 |nilM
 |map (b:Nat)
 |nilF
 |func (fn:Fn) (first captured:List AV)
 |agg (cs:List AV)
 |tup (cs:List AV)
 |yld (b:Nat)
 |val (v:Value)
def objs:List TypeId:=[]
inductive Blk where
 |cells (cs:List AV)
 |map (es:List (AV × AV))
 |buf (t:TypeId) (fz:Nat) (cs:List AV)
 |iter (s:List UInt8) (pos:Nat)
 |loop (st:LoopState) (pend:Option Code) (ks:List Nat) (vs:List AV) (ts:List (Nat × AV)) (sz:Nat) (ps:List Nat) (assign body:Code)
structure Heap where
 n:Nat
 fs:List (List (Nat × Blk))
def getF(b:Nat):List (Nat × Blk)->Option Blk
 |[]=>none
 |x::r=>match Nat.beq x.1 b with
  |true=>some x.2
  |false=>getF b r
def getFs(b:Nat):List (List (Nat × Blk))->Option Blk
 |[]=>none
 |f::r=>match getF b f with
  |some x=>some x
  |none=>getFs b r
def Heap.get(H:Heap) (b:Nat):Option Blk:=getFs b H.fs
def setF(b:Nat) (k:Blk):List (Nat × Blk)->Option (List (Nat × Blk))
 |[]=>none
 |x::r=>match Nat.beq x.1 b with
  |true=>some ((b,k)::r)
  |false=>(setF b k r).bind fun r'=>some (x::r')
def setFs(b:Nat) (k:Blk):List (List (Nat × Blk))->Option (List (List (Nat × Blk)))
 |[]=>none
 |f::r=>match setF b k f with
  |some f'=>some (f'::r)
  |none=>(setFs b k r).bind fun r'=>some (f::r')
def Heap.set(H:Heap) (b:Nat) (k:Blk):Option Heap:=match H with
 |⟨n,fs0⟩=>(setFs b k fs0).bind fun fs=>some ⟨n,fs⟩
def killF(b:Nat):List (Nat × Blk)->List (Nat × Blk)
 |[]=>[]
 |x::r=>match Nat.beq x.1 b with
  |true=>r
  |false=>x::killF b r
def Heap.kill(H:Heap) (b:Nat):Heap:=match H.fs with
 |[]=>H
 |f::r=>⟨H.n,killF b f::r⟩
def qg0(b:Nat):List (List (Nat × Blk))->List (List (Nat × Blk))
 |[]=>[]
 |f::r=>match getF b f with
  |some _=>killF b f::r
  |none=>f::qg0 b r
def Heap.drop(H:Heap) (b:Nat):Heap:=match H with
 |⟨n,fs⟩=>⟨n,qg0 b fs⟩
def pushF(x:Nat × Blk):List (List (Nat × Blk))->List (List (Nat × Blk))
 |[]=>[[x]]
 |f::r=>(x::f)::r
def Heap.new(H:Heap) (k:Blk):Heap:=match H with
 |⟨n,fs⟩=>⟨Nat.succ n,pushF (n,k) fs⟩
def qcb{α:Type}:List α->Nat->Option α
 |[],_=>none
 |x::r,i=>match i with
  |0=>some x
  |Nat.succ j=>qcb r j
def setL{α:Type} (v:α):List α->Nat->Option (List α)
 |[],_=>none
 |x::r,i=>match i with
  |0=>some (v::r)
  |Nat.succ j=>(setL v r j).bind fun r'=>some (x::r')
def qey{α:Type}:Nat->List α->Option (List α)
 |0,_=>some []
 |Nat.succ n,l=>match l with
  |[]=>none
  |x::r=>(qey n r).bind fun r'=>some (x::r')
def qfe{α:Type} (o n:Nat) (l:List α):Option (List α):=qey n (l.drop o)
def qin{α:Type}:List α->List α->Option (List α)
 |[],l=>some l
 |v::vs,l=>match l with
  |[]=>none
  |_::r=>(qin vs r).bind fun r'=>some (v::r')
def qiz{α:Type} (vs:List α):Nat->List α->Option (List α)
 |0,l=>qin vs l
 |Nat.succ o,l=>match l with
  |[]=>none
  |x::r=>(qiz vs o r).bind fun r'=>some (x::r')
def replL{α:Type} (z:List α):Nat->List α
 |0=>[]
 |Nat.succ n=>z++replL z n
def AV.cells:AV->List AV
 |.agg cs=>cs
 |v=>[v]
def AV.single:AV->Bool
 |.undef | .agg _ | .tup _=>false
 |_=>true
def allSingle:List AV->Bool
 |[]=>true
 |v::r=>match v.single with
  |true=>allSingle r
  |false=>false
def ofV1:Value->AV
 |.bool b=>.bool b
 |.int k n=>.int k n
 |.string s=>.str s.data.toList
 |.pointer none=>.nilP
 |.slice none 0 0=>.nilS
 |.map none=>.nilM
 |.nilFunc=>.nilF
 |_=>.undef
def ofV:Value->AV
 |.agg cs=>.agg (cs.toList.map ofV1)
 |v=>ofV1 v
def qby(P:Program) (t:TypeId):Option AV:=(P.info? t).bind fun i=>i.zero.bind fun z=>some (ofV z)
def qcj(P:Program) (t:TypeId):Option Nat:=(P.info? t).bind fun i=>some i.size
def qch(P:Program) (t:TypeId):Option Nat:=(P.info? t).bind fun i=>some i.bytes
def qh4(P:Program) (t:TypeId):Option Bool:=(P.underlying t).bind fun d=>match d with
 |.struct _ | .array _ _=>some true
 |_=>some false
structure St where
 ks:List Nat
 vs:List AV
 ts:List (Nat × AV)
 sz:Nat
 H:Heap
/- These three are given by List.rec itself: the kernel is several times quicker with it than with the compiled recursion. -/
def look(t:Nat) (l:List (Nat × AV)):Option AV:=
 List.rec (motive:=fun _=>Option AV) none (fun x _ ih=>Bool.rec (motive:=fun _=>Option AV) ih (some x.2) (Nat.beq x.1 t)) l
theorem qmw{t:Nat}:look t []=none:=rfl
theorem qhv{t:Nat} {x:Nat × AV} {r:List (Nat × AV)}:look t (x::r)=match Nat.beq x.1 t with
  |true=>some x.2
  |false=>look t r:=by
 show (Bool.rec (motive:=fun _=>Option AV) (look t r) (some x.2) (Nat.beq x.1 t))=_;cases Nat.beq x.1 t<;>rfl
def qgl(t:Nat) (l:List Nat):List AV->Option AV:=
 List.rec (motive:=fun _=>List AV->Option AV) (fun _=>none) (fun k _ ih vs=>List.rec (motive:=fun _=>Option AV) none (fun v r _=>Bool.rec (motive:=fun _=>Option AV) (ih r) (some v) (Nat.beq k t)) vs) l
theorem qjb{t:Nat} {vs:List AV}:qgl t [] vs=none:=rfl
theorem qe3{t k:Nat} {ks:List Nat} {vs:List AV}:qgl t (k::ks) vs=match vs with
  |v::r=>match Nat.beq k t with
   |true=>some v
   |false=>qgl t ks r
  |[]=>none:=by
 cases vs with
 |nil=>rfl
 |cons v r=>show (Bool.rec (motive:=fun _=>Option AV) (qgl t ks r) (some v) (Nat.beq k t))=_;cases Nat.beq k t<;>rfl
def St.get(s:St) (t:Nat):Option AV:=match qgl t s.ks s.vs with
 |some v=>some v
 |none=>look t s.ts
def qup(t:Nat) (v:AV) (l:List Nat):List AV->Option (List AV):=
 List.rec (motive:=fun _=>List AV->Option (List AV)) (fun _=>none) (fun k _ ih vs=>List.rec (motive:=fun _=>Option (List AV)) none (fun x r _=>Bool.rec (motive:=fun _=>Option (List AV)) ((ih r).bind fun r'=>some (x::r')) (some (v::r)) (Nat.beq k t)) vs) l
theorem putK_n{t:Nat} {v:AV} {vs:List AV}:qup t v [] vs=none:=rfl
theorem qtc{t k:Nat} {v:AV} {ks:List Nat} {vs:List AV}:qup t v (k::ks) vs=match vs with
  |x::r=>match Nat.beq k t with
   |true=>some (v::r)
   |false=>(qup t v ks r).bind fun r'=>some (x::r')
  |[]=>none:=by
 cases vs with
 |nil=>rfl
 |cons x r=>show (Bool.rec (motive:=fun _=>Option (List AV)) ((qup t v ks r).bind fun r'=>some (x::r')) (some (v::r)) (Nat.beq k t))=_;cases Nat.beq k t<;>rfl
def St.set(s:St) (t:Nat) (v:AV):Option St:=match s with
 |⟨ks,vs0,ts,sz,H⟩=>match Nat.blt t sz with
  |true=>match qup t v ks vs0 with
   |some vs=>some ⟨ks,vs,ts,sz,H⟩
   |none=>some ⟨ks,vs0,(t,v)::ts,sz,H⟩
  |false=>none
def St.wH(s:St) (H:Heap):St:=match s with
 |⟨ks,vs,ts,sz,_⟩=>⟨ks,vs,ts,sz,H⟩
def St.wT(s:St):St:=match s with
 |⟨ks,vs,_,sz,H⟩=>⟨ks,vs,[],sz,H⟩
def St.put(s:St) (d:Option Tmp) (v:AV):Option St:=match d with
 |some t=>s.set t v
 |none=>some s
def qc5(s:St):Operand->Option AV
 |.tmp t=>s.get t
 |.const v=>some (ofV v)
 |.func f=>some (.func (.func f) [] [])
 |.global _=>none
def qfy(s:St):List Operand->Option (List AV)
 |[]=>some []
 |x::r=>(qc5 s x).bind fun v=>(qfy s r).bind fun vs=>some (v::vs)
def qhd(s:St):Option Operand->Option (Option AV)
 |none=>some none
 |some x=>(qc5 s x).bind fun v=>some (some v)
def qi1(s:St):List (Nat × Operand)->Option (List (Nat × AV))
 |[]=>some []
 |x::r=>(qc5 s x.2).bind fun v=>(qi1 s r).bind fun vs=>some ((x.1,v)::vs)
def refs:Nat->AV->List Nat
 |0,_=>[]
 |Nat.succ n,v=>match v with
  |.ptr b _=>[b]
  |.slc b _ _ _=>[b]
  |.map b=>[b]
  |.yld b=>[b]
  |.func _ a c=>a.flatMap (refs n)++c.flatMap (refs n)
  |.agg cs=>cs.flatMap (refs n)
  |.tup cs=>cs.flatMap (refs n)
  |_=>[]
def qv1:Blk->List Nat
 |.cells cs=>cs.flatMap (refs 4)
 |.buf _ _ cs=>cs.flatMap (refs 4)
 |.iter _ _=>[]
 |.map es=>es.flatMap fun e=>refs 4 e.1++refs 4 e.2
 |.loop ..=>[]
def qgv:Nat->List Nat->List (Nat × Blk)->List (Nat × Blk)->List (Nat × Blk) × List (Nat × Blk)
 |0,_,f,acc=>(acc,f)
 |Nat.succ n,todo,f,acc=>match todo with
  |[]=>(acc,f)
  |b::r=>match f with
   |[]=>(acc,f)
   |_::_=>match getF b f with
    |none=>qgv n r f acc
    |some k=>qgv n (qv1 k++r) (killF b f) ((b,k)::acc)
def qv0:List (Nat × Blk)->List Nat
 |[]=>[]
 |x::r=>qv1 x.2++qv0 r
def qd3(b:Nat):List Nat->List (Nat × Blk)->List (List (Nat × Blk))->List (List (Nat × Blk))
 |_,carry,[]=>[carry]
 |roots,carry,f::r=>match getF b f with
  |some _=>(carry++f)::r
  |none=>match qgv 100000 roots f []with
   |(ex,rest)=>rest::qd3 b (qv0 ex++roots) (ex++carry) r
def Heap.ready(H:Heap) (b:Nat) (vs:List AV):Heap:=match vs.flatMap (refs 6)with
 |[]=>H
 |r::rs=>⟨H.n,qd3 b (r::rs) [] H.fs⟩
def qap(l:List (Nat × Blk)):List (List (Nat × Blk))->List (List (Nat × Blk))
 |[]=>[l]
 |f::r=>(l++f)::r
def qte(v:AV) (H:Heap):Heap:=match H.fs with
 |[]=>H
 |f::r=>match refs 6 v with
  |[]=>⟨H.n,r⟩
  |b::bs=>⟨H.n,qap (qgv 100000 (b::bs) f []).1 r⟩
def qjj:List UInt8->List AV
 |[]=>[]
 |c::r=>.int .u8 c.toNat::qjj r
def Blk.rd:Blk->Option (List AV)
 |.cells cs=>some cs
 |.buf _ _ cs=>some cs
 |_=>none
def Blk.wt(k:Blk) (o:Nat):Option (List AV):=match k with
 |.cells cs=>some cs
 |.buf _ fz cs=>match Nat.ble fz o with
  |true=>some cs
  |false=>none
 |_=>none
def Blk.re:Blk->List AV->Blk
 |.buf t fz _,cs=>.buf t fz cs
 |_,cs=>.cells cs
def readCells(H:Heap) (b o n:Nat):Option (List AV):=(H.get b).bind fun k=>k.rd.bind fun cs=>qfe o n cs
def qb2(P:Program) (H:Heap) (t:TypeId) (p:AV):Option AV:=(qh4 P t).bind fun ag=>(qcj P t).bind fun n=>
 match ag with
 |true=>match p with
  |.ptr b o=>(readCells H b o n).bind fun cs=>some (.agg cs)
  |.fptr cs o=>(qfe o n cs).bind fun cs=>some (.agg cs)
  |_=>none
 |false=>match p with
  |.ptr b o=>(H.get b).bind fun k=>k.rd.bind fun cs=>qcb cs o
  |.fptr cs o=>qcb cs o
  |_=>none
def writeCells(H:Heap) (b o:Nat) (vs:List AV):Option Heap:=(H.get b).bind fun k=>(k.wt o).bind fun cs=>(qiz vs o cs).bind fun cs'=>(H.ready b vs).set b (k.re cs')
def writeVar(P:Program) (H:Heap) (t:TypeId) (p v:AV):Option Heap:=(qcj P t).bind fun n=>
 match Nat.beq v.cells.length n with
 |true=>match allSingle v.cells with
  |true=>match p with
   |.ptr b o=>writeCells H b o v.cells
   |_=>none
  |false=>none
 |false=>none
def zbs(n:Int):Bool:=match n with
 |.ofNat m=>Nat.ble m 9223372036854775807
 |.negSucc m=>Nat.ble m 9223372036854775807
theorem fits64_iff{n:Int}:zbs n=true ↔ -9223372036854775808<=n/\n<=9223372036854775807:=by
 cases n with
 |ofNat m=>show Nat.ble m 9223372036854775807=true↔_;rw[jW,Int.ofNat_eq_natCast];omega
 |negSucc m=>show Nat.ble m 9223372036854775807=true↔_;rw[jW,Int.negSucc_eq];omega
def wr(k:IntKind) (n:Int):Option Int:=match k with
 |.i64=>match zbs n with
  |true=>some n
  |false=>none
 |k=>some (k.wrap n)
def qot(op:BinOp) (k:IntKind) (x y:Int):Option AV:=match op with
 |.add=>(wr k (x+y)).bind fun n=>some (.int k n)
 |.sub=>(wr k (x - y)).bind fun n=>some (.int k n)
 |.eql=>some (.bool (x == y))
 |.neq=>some (.bool (x != y))
 |.lss=>some (.bool (x < y))
 |.leq=>some (.bool (x<=y))
 |.gtr=>some (.bool (x > y))
 |.geq=>some (.bool (x >= y))
 |_=>none
def eqB:List UInt8->List UInt8->Bool
 |[],l=>match l with|[]=>true|_::_=>false
 |a::x,l=>match l with
  |[]=>false
  |b::y=>match Nat.beq a.toNat b.toNat with
   |true=>eqB x y
   |false=>false
def qqx(op:BinOp) (x y:List UInt8):Option AV:=match op with
 |.add=>if x.length+y.length<=1099511627776 then some (.str (x++y)) else none
 |.eql=>some (.bool (eqB x y))
 |.neq=>some (.bool (!eqB x y))
 |_=>none
def qjd(d:TypeDesc) (x y:AV):Option Bool:=match d,x,y with
 |.bool,.bool a,.bool b=>some (a == b)
 |.int _,.int k a,.int k' b=>if k=k' then some (a == b) else none
 |.string,.str a,.str b=>some (eqB a b)
 |.slice _,.nilS,.nilS=>some true
 |.slice _,.nilS,.slc ..=>some false
 |.slice _,.nilS,.fslc _ (_::_)=>some false
 |.slice _,.nilS,.eslc=>some false
 |.slice _,.slc ..,.nilS=>some false
 |.slice _,.fslc _ (_::_),.nilS=>some false
 |.slice _,.eslc,.nilS=>some false
 |.pointer _,.nilP,.nilP=>some true
 |.pointer _,.nilP,.ptr ..=>some false
 |.pointer _,.nilP,.fptr ..=>some false
 |.pointer _,.ptr ..,.nilP=>some false
 |.pointer _,.fptr ..,.nilP=>some false
 |.map _ _,.nilM,.nilM=>some true
 |.map _ _,.nilM,.map _=>some false
 |.map _ _,.map _,.nilM=>some false
 |.func _ _ _,.nilF,.nilF=>some true
 |.func _ _ _,.nilF,.func ..=>some false
 |.func _ _ _,.func ..,.nilF=>some false
 |_,_,_=>none
def qiv(d:TypeDesc):Bool:=match d with
 |.bool | .int _ | .string=>true
 |_=>false
def eqFields(P:Program):List Field->List AV->List AV->Option Bool
 |[],_,_=>some true
 | f :: fs, xs, ys => match f.name == "_" with
  |true=>none
  |false=>(P.underlying f.type).bind fun d=>match qiv d with
   |false=>none
   |true=>(qcb xs f.offset).bind fun x=>(qcb ys f.offset).bind fun y=>(qjd d x y).bind fun e=>match e with
    |true=>eqFields P fs xs ys
    |false=>some false
def eqA(P:Program) (t:TypeId) (x y:AV):Option Bool:=(P.underlying t).bind fun d=>match d,x,y with
 |.struct fs,.agg xs,.agg ys=>match P.stoodInHeld t,P.eqGuardType P.depth t with
  |false,false=>eqFields P fs.toList xs ys
  |_,_=>none
 |.pointer te,.ptr a c,.ptr b d=>(qcj P te).bind fun n=>match Nat.beq a b && Nat.blt 0 n with
  |true=>some (Nat.beq c d)
  |false=>none
 |_,_,_=>qjd d x y
def qex(P:Program) (op:BinOp) (t:TypeId) (x y:AV):Option AV:=match x,y with
 |.int k a,.int k' b=>if k=k' then qot op k a b else none
 |.str a,.str b=>qqx op a b
 |_,_=>match op with
  |.eql=>(eqA P t x y).bind fun e=>some (.bool e)
  |.neq=>(eqA P t x y).bind fun e=>some (.bool !e)
  |_=>none
def unA(op:UnOp) (x:AV):Option AV:=match op,x with
 |.not,.bool b=>some (.bool !b)
 |.xor,.int k n=>some (.int k (k.wrap (BitVec.ofInt k.bits (if k.signed then -1 else k.max) ^^^ BitVec.ofInt k.bits n).toNat))
 |_,_=>none
def fillA(place:Nat->Option (Nat × Nat)):List (Nat × AV)->List AV->Option (List AV)
 |[],cs=>some cs
 |x::r,cs=>(place x.1).bind fun p=>match Nat.beq x.2.cells.length p.2 with
  |true=>match allSingle x.2.cells with
   |true=>(qiz x.2.cells p.1 cs).bind fun cs'=>fillA place r cs'
   |false=>none
  |false=>none
def qnp(P:Program):List Field->Option (List (Nat × Nat))
 |[]=>some []
 |f::r=>(qcj P f.type).bind fun n=>(qnp P r).bind fun t=>some ((f.offset,n)::t)
def qe6(P:Program) (t:TypeId) (parts:List (Nat × AV)):Option AV:=(qby P t).bind fun z=>(P.underlying t).bind fun d=>match d with
 |.struct fs=>(qnp P fs.toList).bind fun tbl=>(fillA (qcb tbl) parts z.cells).bind fun cs=>some (.agg cs)
 |_=>none
def zag(P:Program) (t:TypeId) (cs:List AV) (off:Nat):Option AV:=(qh4 P t).bind fun ag=>match ag with
 |true=>(qcj P t).bind fun n=>(qfe off n cs).bind fun r=>some (.agg r)
 |false=>qcb cs off
def qbu(P:Program) (t:TypeId) (x:AV) (i:Nat):Option AV:=(P.underlying t).bind fun d=>match d with
 |.struct fs=>(qcb fs.toList i).bind fun f=>match x with
  |.agg cs=>zag P f.type cs f.offset
  |_=>none
 |_=>none
def qb1(P:Program) (t:TypeId) (x:AV) (i:Nat):Option AV:=(P.underlying t).bind fun d=>match d with
 |.struct fs=>(qcb fs.toList i).bind fun f=>(qcj P f.type).bind fun n=>match n with
  |0=>none
  |Nat.succ _=>match x with
   |.ptr b o=>some (.ptr b (o+f.offset))
   |.fptr cs o=>some (.fptr cs (o+f.offset))
   |_=>none
 |_=>none
def idx(i:Int) (n:Nat):Option Nat:=match i with
 |.ofNat j=>match Nat.blt j n with
  |true=>some j
  |false=>none
 |.negSucc _=>none
def qaq(P:Program) (t:TypeId) (x i:AV):Option AV:=match i with
 |.int _ i=>(P.underlying t).bind fun d=>match d with
  |.slice elem=>match x with
   |.slc b o len _=>(idx i len).bind fun j=>(qcj P elem).bind fun n=>some (.ptr b (o+j * n))
   |.fslc sz es=>(idx i es.length).bind fun j=>(qcj P elem).bind fun n=>match Nat.beq n sz with
    |true=>(qcb es j).bind fun e=>some (.fptr e.cells 0)
    |false=>none
   |_=>none
  |_=>none
 |_=>none
def qov(P:Program) (t:TypeId) (x i:AV):Option AV:=match i with
 |.int _ i=>(P.underlying t).bind fun d=>match d with
  |.string=>match x with
   |.str s=>(idx i s.length).bind fun j=>(qcb s j).bind fun c=>some (.int .u8 c.toNat)
   |_=>none
  |_=>none
 |_=>none
def qdc(x:Option AV) (dflt most:Nat):Option Nat:=match x with
 |none=>some dflt
 |some v=>match v with
  |.int _ i=>idx i (Nat.succ most)
  |_=>none
def qbx(H:Heap) (b:Nat):Option Nat:=(H.get b).bind fun k=>k.rd.bind fun cs=>some cs.length
def qpj(P:Program) (elem:TypeId) (cs:List AV):Blk:=match P.underlying elem with
 |some (.int .u8)=>.buf elem 0 cs
 |_=>.cells cs
def goOn(k:Blk) (elem:TypeId) (o:Nat) (cs:List AV):Option Blk:=match k with
 |.cells _=>some (.cells cs)
 |.buf t fz _=>match Nat.beq t elem && Nat.beq o 0 with
  |true=>some (.buf t fz cs)
  |false=>none
 |_=>none
def qgs(H:Heap) (sz b o len:Nat) (cap:Cap) (lo hi mx:Option AV):Option AV:=(qbx H b).bind fun kn=>match cap with
 |.ex c=>(qdc mx c c).bind fun m=>(qdc hi len m).bind fun h=>(qdc lo 0 h).bind fun l=>
   some (.slc b (match Nat.beq m l with|true=>o|false=>o+l * sz) (h - l) (.ex (m - l)))
 |.rest sz'=>match Nat.beq sz sz' with
  |false=>none
  |true=>match mx with
   |some v=>(qdc (some v) 0 ((kn - o) / sz)).bind fun m=>(qdc hi len m).bind fun h=>(qdc lo 0 h).bind fun l=>
    match Nat.beq m l with
    |true=>some .eslc
    |false=>some (.slc b (o+l * sz) (h - l) (.ex (m - l)))
   |none=>(qdc hi len ((kn - o) / sz)).bind fun h=>(qdc lo 0 h).bind fun l=>
    match Nat.ble (kn - o) (l * sz)with
    |true=>match l with
     |0=>some (.slc b o h (.rest sz))
     |Nat.succ _=>match Nat.beq h l with
      |true=>some .eslc
      |false=>none
    |false=>some (.slc b (o+l * sz) (h - l) (.rest sz))
def qqe(hi mx:Option AV):Bool:=match mx,hi with
 |some _,none=>false
 |_,_=>true
def qcq(P:Program) (H:Heap) (t:TypeId) (x:AV) (lo hi mx:Option AV):Option AV:=(match qqe hi mx with|true=>P.underlying t|false=>none).bind fun d=>match d with
 |.string=>match x,mx with
  |.str s,none=>(qdc hi s.length s.length).bind fun h=>(qdc lo 0 h).bind fun l=>some (.str ((s.take h).drop l))
  |_,_=>none
 |.slice elem=>(qcj P elem).bind fun sz=>match x with
  |.slc b o len cap=>qgs H sz b o len cap lo hi mx
  |.fslc s es=>match mx with
   |none=>(match Nat.beq s sz with|true=>some ()|false=>none).bind fun _=>(qdc hi es.length es.length).bind fun h=>(qdc lo 0 h).bind fun l=>some (.fslc s ((es.take h).drop l))
   |some q=>(match Nat.beq s sz with|true=>some ()|false=>none).bind fun _=>(qdc (some q) 0 es.length).bind fun m=>(qdc hi es.length m).bind fun h=>match Nat.beq h m with
    |false=>none
    |true=>match lo with
     |some _=>none
     |none=>match m with
      |0=>some .zslc
      |Nat.succ _=>some (.xslc s (es.take m))
  |.nilS=>(qdc mx 0 0).bind fun _=>(qdc hi 0 0).bind fun _=>(qdc lo 0 0).bind fun _=>some .nilS
  |.zslc=>(qdc mx 0 0).bind fun _=>(qdc hi 0 0).bind fun _=>(qdc lo 0 0).bind fun _=>some .zslc
  |_=>none
 |_=>none
def qf3(P:Program) (H:Heap) (t:TypeId) (x:AV):Option Nat:=(P.underlying t).bind fun d=>match d,x with
 |.string,.str s=>some s.length
 |.slice _,.nilS=>some 0
 |.slice _,.eslc=>some 0
 |.slice _,.zslc=>some 0
 |.slice _,.slc _ _ n _=>some n
 |.slice _,.fslc _ es=>some es.length
 |.map _ _,.nilM=>some 0
 |.map _ _,.map b=>(H.get b).bind fun k=>match k with
  |.map es=>some es.length
  |_=>none
 |_,_=>none
def qaa:List AV->List AV
 |[]=>[]
 |v::r=>v.cells++qaa r
def qd5(x:AV):Option Nat:=match x with
 |.nilS | .eslc | .zslc=>some 0
 |.slc _ _ n _=>some n
 |.fslc _ es=>some es.length
 |.str s=>some s.length
 |_=>none
def qbj(H:Heap) (sz n:Nat) (x:AV):Option (List AV):=match x with
 |.nilS=>some []
 |.zslc=>match n with
  |0=>some []
  |_=>none
 |.eslc=>match n with
  |0=>some []
  |_=>none
 |.slc b o _ _=>readCells H b o (n * sz)
 |.fslc s es=>match Nat.beq s sz with
  |true=>some (qaa (es.take n))
  |false=>none
 |.str s=>some (qjj (s.take n))
 |_=>none
def qdg(need bytes:Nat):Bool:=Nat.ble (need * bytes) 17592186044416
def qbs(P:Program) (H:Heap) (elem:TypeId) (s x:AV):Option (AV × Heap):=(qcj P elem).bind fun sz=>(qch P elem).bind fun by_=>(qby P elem).bind fun z=>(qd5 x).bind fun n=>
 match Nat.beq sz 0 || !(Nat.beq z.cells.length sz && Nat.blt 0 by_)with
 |true=>none
 |false=>match s with
 |.nilS=>match n with
  |0=>some (.nilS,H)
  |Nat.succ _=>match qdg n by_ with
   |true=>(qbj H sz n x).bind fun cs=>match Nat.beq cs.length (n * sz)with
    |true=>some (.slc H.n 0 n (.rest sz),H.new (qpj P elem cs))
    |false=>none
   |false=>none
 |.slc b o len cap=>(qbj H sz n x).bind fun cs=>match qdg (len+n) by_ with
  |false=>none
  |true=>match allSingle cs with
   |false=>none
   |true=>match cap with
    |.ex c=>match Nat.ble (len+n) c with
     |true=>(writeCells H b (o+len * sz) cs).bind fun H'=>some (.slc b o (len+n) (.ex c),H')
     |false=>match Nat.beq cs.length (n * sz)with
      |true=>(readCells H b o (len * sz)).bind fun old=>some (.slc H.n 0 (len+n) (.rest sz),H.new (qpj P elem (old++cs)))
      |false=>none
    |.rest sz'=>match Nat.beq sz sz' with
     |false=>none
     |true=>(qbx H b).bind fun kn=>match Nat.ble (o+(len+n) * sz) kn with
      |true=>(writeCells H b (o+len * sz) cs).bind fun H'=>some (.slc b o (len+n) (.rest sz),H')
      |false=>match Nat.beq (o+len * sz) kn with
       |true=>match Nat.beq cs.length (n * sz)with
        |true=>(readCells H b o (len * sz)).bind fun old=>(H.get b).bind fun k=>(goOn k elem o (old++cs)).bind fun k'=>some (.slc H.n 0 (len+n) (.rest sz),(H.drop b).new k')
        |false=>none
       |false=>none
 |.zslc=>match n with
  |0=>some (.zslc,H)
  |Nat.succ _=>match qdg n by_ with
   |true=>(qbj H sz n x).bind fun cs=>match Nat.beq cs.length (n * sz)with
    |true=>some (.slc H.n 0 n (.rest sz),H.new (qpj P elem cs))
    |false=>none
   |false=>none
 |.eslc=>match n with
  |0=>some (.eslc,H)
  |Nat.succ _=>none
 |.xslc s es=>match n with
  |0=>none
  |Nat.succ _=>(qbj H sz es.length (.fslc s es)).bind fun os=>(qbj H sz n x).bind fun cs=>match qdg (es.length+n) by_ && (Nat.beq cs.length (n * sz) && Nat.beq os.length (es.length * sz))with
   |true=>some (.slc H.n 0 (es.length+n) (.rest sz),H.new (qpj P elem (os++cs)))
   |false=>none
 |_=>none
def qyj(P:Program) (H:Heap) (elem:TypeId) (s x:AV):Option (AV × Heap):=(qcj P elem).bind fun sz=>(qch P elem).bind fun by_=>(qby P elem).bind fun z=>
 match Nat.beq sz 0 || !(Nat.beq z.cells.length sz && Nat.blt 0 by_)with
 |true=>none
 |false=>match s with
  |.nilS=>match x with
   |.int k m=>match k with
    |.i64=>(idx m 140737488355328).bind fun n=>match n with
     |0=>some (.nilS,H)
     |Nat.succ q=>match qdg (q+1) by_ with
      |true=>some (.slc H.n 0 (q+1) (.rest sz),H.new (qpj P elem (replL z.cells (q+1))))
      |false=>none
    |_=>none
   |_=>none
  |_=>none
def qql(P:Program) (H:Heap) (t:TypeId) (x:AV):Option Heap:=(P.underlying t).bind fun d=>match d,x with
 |.slice elem,.slc b o len _=>(qby P elem).bind fun z=>(qcj P elem).bind fun sz=>match Nat.beq z.cells.length sz && allSingle z.cells with
  |true=>writeCells H b o (replL z.cells len)
  |false=>none
 |_,_=>none
mutual
def AV.beq:AV->AV->Bool
 |.undef,.undef=>true
 |.bool a,.bool b=>a == b
 |.int k a,.int l b=>decide (k=l) && decide (a=b)
 |.str a,.str b=>decide (a=b)
 |.nilP,.nilP=>true
 |.ptr a c,.ptr b d=>decide (a=b) && decide (c=d)
 |.fptr a c,.fptr b d=>AV.beqL a b && decide (c=d)
 |.nilS,.nilS=>true
 |.eslc,.eslc=>true
 |.zslc,.zslc=>true
 |.slc a c n q,.slc b d m r=>decide (a=b) && decide (c=d) && decide (n=m) && decide (q=r)
 |.fslc z a,.fslc y b=>decide (z=y) && AV.beqL a b
 |.xslc z a,.xslc y b=>decide (z=y) && AV.beqL a b
 |.nilM,.nilM=>true
 |.map a,.map b=>decide (a=b)
 |.nilF,.nilF=>true
 |.func f a c,.func g b d=>decide (f=g) && AV.beqL a b && AV.beqL c d
 |.agg a,.agg b=>AV.beqL a b
 |.tup a,.tup b=>AV.beqL a b
 |.yld a,.yld b=>decide (a=b)
 |.val a,.val b=>@decide (a=b) (Classical.propDecidable _)
 |_,_=>false
def AV.beqL:List AV->List AV->Bool
 |[],[]=>true
 |a::x,b::y=>AV.beq a b && AV.beqL x y
 |_,_=>false
end
mutual
theorem AV.eq_of_beq:∀(a b:AV),AV.beq a b=true->a=b:=by
 intro a b h;cases a<;>cases b<;>simp only[AV.beq,jf,yk,beq_iff_eq,jz]at h<;>try trivial
 all_goals first
  |(subst h;rfl)
  |(obtain⟨rfl,rfl⟩:=h;rfl)
  |(obtain⟨⟨rfl,rfl⟩,rfl⟩:=h;rfl)
  |(obtain⟨⟨⟨rfl,rfl⟩,rfl⟩,rfl⟩:=h;rfl)
  |(obtain⟨h,rfl⟩:=h;rw[AV.eqL_of_beq _ _ h])
  |(obtain⟨rfl,h⟩:=h;first|rw[AV.eqL_of_beq _ _ h]|rw[AV.eq_of_beq _ _ h])
  |(obtain⟨⟨rfl,h⟩,h'⟩:=h;rw[AV.eqL_of_beq _ _ h,AV.eqL_of_beq _ _ h'])
  |rw[AV.eqL_of_beq _ _ h]
theorem AV.eqL_of_beq:∀(a b:List AV),AV.beqL a b=true->a=b:=by
 intro a b h;cases a with
 |nil=>cases b with
  |nil=>rfl
  |cons _ _=>simp[AV.beqL]at h
 |cons x a=>cases b with
  |nil=>simp[AV.beqL]at h
  |cons y b=>simp only[AV.beqL,jf]at h;rw[AV.eq_of_beq _ _ h.1,AV.eqL_of_beq _ _ h.2]
end
mutual
theorem AV.beq_self:∀(a:AV),AV.beq a a=true:=by intro a;cases a<;>simp only[AV.beq,AV.beqL_self,AV.beq_self,yz,Jd,beq_self_eq_true]
theorem AV.beqL_self:∀(a:List AV),AV.beqL a a=true:=by
 intro a;cases a with
 |nil=>rfl
 |cons x a=>simp only[AV.beqL,AV.beq_self x,AV.beqL_self a,Jd]
end
instance:DecidableEq AV:=fun a b=>match h:AV.beq a b with
 |true=>isTrue (AV.eq_of_beq a b h)
 |false=>isFalse fun e=>by subst e;rw[AV.beq_self]at h;cases h
def qtq(P:Program) (t:TypeId) (d:TypeDesc) (a b:AV):Option Bool:=match qiv d with
 |true=>qjd d a b
 |false=>match d with
  |.struct _=>eqA P t a b
  |_=>none
def posA(P:Program) (t:TypeId) (d:TypeDesc) (k:AV):Nat->List (AV × AV)->Option (Option Nat)
 |_,[]=>some none
 |i,e::es=>(qtq P t d k e.1).bind fun q=>match q with
  |true=>some (some i)
  |false=>posA P t d k (Nat.succ i) es
def findA(P:Program) (t:TypeId) (d:TypeDesc) (k:AV) (es:List (AV × AV)):Option (Option AV):=(posA P t d k 0 es).bind fun r=>match r with
 |none=>some none
 |some i=>(qcb es i).bind fun e=>some (some e.2)
def updA(P:Program) (t:TypeId) (d:TypeDesc) (k v:AV) (es:List (AV × AV)):Option (List (AV × AV)):=(posA P t d k 0 es).bind fun r=>match r with
 |none=>some (es++[(k,v)])
 |some i=>(qcb es i).bind fun e=>match decide (e.1=k)with
  |true=>setL (k,v) es i
  |false=>none
def delA(P:Program) (t:TypeId) (d:TypeDesc) (k:AV) (es:List (AV × AV)):Option (List (AV × AV)):=(posA P t d k 0 es).bind fun r=>match r with
 |none=>some es
 |some i=>some (es.eraseIdx i)
def qtp(P:Program) (t:TypeId) (d:TypeDesc) (k:AV):Option Unit:=(qtq P t d k k).bind fun q=>match q with
 |true=>some ()
 |false=>none
def qj9(P:Program) (H:Heap) (t:TypeId) (m k:AV) (ok:Bool):Option AV:=(P.underlying t).bind fun d=>match d with
 |.map key elem=>(P.underlying key).bind fun kd=>(qtp P key kd k).bind fun _=>(match m with
   |.nilM=>some []
   |.map b=>(H.get b).bind fun x=>match x with
    |.map es=>some es
    |_=>none
   |_=>none).bind fun es=>(findA P key kd k es).bind fun r=>match r with
    |some v=>some (match ok with|true=>.tup [v,.bool true]|false=>v)
    |none=>(qby P elem).bind fun z=>some (match ok with|true=>.tup [z,.bool false]|false=>z)
 |_=>none
def qj8(P:Program) (H:Heap) (t:TypeId) (m k v:AV):Option Heap:=(P.underlying t).bind fun d=>match d with
 |.map key _=>(P.underlying key).bind fun kd=>(qtp P key kd k).bind fun _=>match m with
  |.map b=>(H.get b).bind fun x=>match x with
   |.map es=>(updA P key kd k v es).bind fun es'=>(H.ready b [k,v]).set b (.map es')
   |_=>none
  |_=>none
 |_=>none
def qmj(P:Program) (H:Heap) (t:TypeId) (m k:AV):Option Heap:=(P.underlying t).bind fun d=>match d with
 |.map key _=>(P.underlying key).bind fun kd=>(qtp P key kd k).bind fun _=>match m with
  |.nilM=>some H
  |.map b=>(H.get b).bind fun x=>match x with
   |.map es=>(delA P key kd k es).bind fun es'=>H.set b (.map es')
   |_=>none
  |_=>none
 |_=>none
def zca(P:Program) (H:Heap) (src dst:TypeId) (x:AV):Option (AV × Heap):=(P.underlying src).bind fun sd=>(P.underlying dst).bind fun dd=>match sd,dd,x with
 |_,.int k,.int _ n=>some (.int k (k.wrap n),H)
 |_,_,_=>none
def qkv(least:Bool):AV->List AV->Option AV
 |v,[]=>some v
 |v,w::r=>match v,w with
  |.int k a,.int k' b=>if k=k' then qkv least (.int k (match least with|true=>min a b|false=>max a b)) r else none
  |_,_=>none
def qcl(P:Program) (H:Heap) (b:Builtin) (ts:Array TypeId) (args:List AV):Option (AV × Heap):=match b,args with
 |.len,[x]=>(ts[0]?).bind fun t=>(qf3 P H t x).bind fun n=>some (.int .i64 n,H)
 |.append,[s,x]=>(ts[0]?).bind fun t=>(P.underlying t).bind fun d=>match d with
  |.slice elem=>(match ts[1]? with
   |some u=>(P.underlying u).bind fun ud=>match ud with
    |.string=>some false
    |.slice _=>some false
    |.int _=>some true
    |_=>none
   |none=>none).bind fun q=>match q with
    |false=>qbs P H elem s x
    |true=>qyj P H elem s x
  |_=>none
 |.cap,[x]=>(ts[0]?).bind fun t=>(P.underlying t).bind fun d=>match d,x with
  |.slice _,.nilS=>some (.int .i64 0,H)
  |_,_=>none
 |.clear,[x]=>(ts[0]?).bind fun t=>(qql P H t x).bind fun H'=>some (.tup [],H')
 |.delete,[m,k]=>(ts[0]?).bind fun t=>(qmj P H t m k).bind fun H'=>some (.tup [],H')
 |.max,v::r=>(qkv false v r).bind fun x=>some (x,H)
 |.min,v::r=>(qkv true v r).bind fun x=>some (x,H)
 |_,_=>none
structure Ctx where
 P:Program
 keep:FuncId->List Nat
 summ:FuncId->Option (List AV->Heap->Option (AV × Heap))
inductive Cl where
 |fn (f:FuncId)
 |yl (b:Nat)
abbrev qck:=Cl->List AV->Heap->Option (AV × Heap)
def qar(ops:Array Oper) (s:St) (o:Oper):Option Bool:=match o.guard with
 |none=>some true
 |some (j,want)=>(ops[j]?).bind fun p=>p.dst.bind fun t=>(s.get t).bind fun v=>match v with
  |.bool b=>some (b == want)
  |.tup []=>some false
  |_=>none
def sliceParts(P:Program) (t:TypeId) (len:Nat) (parts:List (Nat × AV)):Option (List AV):=(P.underlying t).bind fun d=>match d with
 |.slice elem=>(qcj P elem).bind fun sz=>match Nat.ble (len * sz) 65536 with
  |false=>none
  |true=>(qby P elem).bind fun z=>match Nat.beq z.cells.length sz with
   |true=>fillA (fun i=>some (i * sz,sz)) parts (replL z.cells len)
   |false=>none
 |_=>none
def msB(P:Program) (t:TypeId) (l c:AV):Option ((Nat->AV) × Blk):=(P.underlying t).bind fun d=>match d with
 |.slice elem=>(qcj P elem).bind fun sz=>(qch P elem).bind fun by_=>match c,l with
  |.int .i64 c,.int .i64 l=>(idx c 17592186044416).bind fun c=>(idx l (Nat.succ c)).bind fun l=>match qdg c by_ with
   |true=>(qby P elem).bind fun z=>match Nat.beq z.cells.length sz with
    |true=>some (fun b=>.slc b 0 l (.ex c),.cells (replL z.cells c))
    |false=>none
   |false=>none
  |_,_=>none
 |_=>none
def qic(P:Program) (H:Heap) (t:TypeId) (l c:AV):Option (AV × Heap):=(msB P t l c).bind fun k=>some (k.1 H.n,H.new k.2)
def zax(n:Nat):List Nat->Bool
 |[]=>false
 |m::r=>match Nat.beq n m with
  |true=>true
  |false=>zax n r
def bufs:List (Nat × Nat):=[(38,59),(38,15)]
def memP(t d:Nat):List (Nat × Nat)->Bool
 |[]=>false
 |x::r=>match Nat.beq x.1 t && Nat.beq x.2 d with
  |true=>true
  |false=>memP t d r
def qyz(P:Program) (t:TypeId) (d:Option Tmp) (cs:List AV):Blk:=match d with
 |none=>.cells cs
 |some d=>match memP t d bufs with
  |true=>(match P.underlying t with
   |some (.slice e)=>.buf e 0 cs
   |_=>.cells cs)
  |false=>.cells cs
def qbc(C:Ctx) (o:Oper) (s:St):Option ((Nat->AV) × Blk):=match o.op with
 |.alloc t=>(qby C.P t).bind fun z=>(qcj C.P t).bind fun n=>match Nat.beq z.cells.length n with
  |true=>some (fun b=>.ptr b 0,.cells z.cells)
  |false=>none
 |.box _ x=>(qc5 s x).bind fun x=>match allSingle x.cells with
  |true=>some (fun b=>.ptr b 0,.cells x.cells)
  |false=>none
 |.buildSlice t len parts=>(qi1 s parts.toList).bind fun ps=>(sliceParts C.P t len ps).bind fun cs=>
   some (fun b=>.slc b 0 len (.ex len),qyz C.P t o.dst cs)
 |.makeSlice t l c=>(qc5 s l).bind fun l=>(qc5 s c).bind fun c=>msB C.P t l c
 |.makeMap t r=>(match r with
   |none=>some ()
   |some x=>(qc5 s x).bind fun x=>(C.P.underlying t).bind fun d=>match d,x with
    |.map _ _,.int ..=>some ()
    |_,_=>none).bind fun _=>some (fun b=>.map b,.map [])
 |_=>none
def qtj(H:Heap) (b:Nat):Option (AV × Heap):=(H.get b).bind fun k=>match k with
 |.iter s pos=>match Nat.blt pos s.length with
  |true=>(H.set b (.iter s (pos+(Utf8.decode ⟨s.toArray⟩ pos).2))).bind fun H'=>some (.tup [.bool true,.int .i64 pos,.int .i32 (Utf8.decode ⟨s.toArray⟩ pos).1],H')
  |false=>some (.tup [.bool false],H)
 |_=>none
def qah(C:Ctx) (call:qck) (o:Oper) (s:St):Option (AV × Heap):=
 let v (x:Option AV):Option (AV × Heap):=x.bind fun x=>some (x,s.H)
 match o.op with
 |.move x | .assign x=>v (qc5 s x)
 |.pick c a b=>(qc5 s c).bind fun c=>match c with
  |.bool t=>match t with
   |true=>v (qc5 s a)
   |false=>v (qc5 s b)
  |_=>none
 |.alloc .. | .box .. | .buildSlice .. | .makeMap .. | .makeSlice ..=>(qbc C o s).bind fun x=>some (x.1 s.H.n,s.H.new x.2)
 |.build t parts=>(qi1 s parts.toList).bind fun ps=>v (qe6 C.P t ps)
 |.load t a=>(qc5 s a).bind fun a=>v (qb2 C.P s.H t a)
 |.store t a x=>(qc5 s a).bind fun a=>(qc5 s x).bind fun x=>(writeVar C.P s.H t a x).bind fun H=>some (.undef,H)
 |.nilCheck x=>(qc5 s x).bind fun x=>match x with
  |.ptr b o=>some (.ptr b o,s.H)
  |.fptr cs o=>some (.fptr cs o,s.H)
  |.func (.func f) a b=>some (.func (.func f) a b,s.H)
  |.func (.yield f) a b=>some (.func (.yield f) a b,s.H)
  |.yld b=>some (.yld b,s.H)
  |_=>none
 |.binOp op t x y _=>(qc5 s x).bind fun a=>(qc5 s y).bind fun b=>v (qex C.P op t a b)
 |.unOp op _ x=>(qc5 s x).bind fun x=>v (unA op x)
 |.convert a b x=>(qc5 s x).bind fun x=>zca C.P s.H a b x
 |.makeFunc fn first cap=>(qfy s first.toList).bind fun a=>(qfy s cap.toList).bind fun b=>some (.func fn a b,s.H)
 |.slice t x lo hi mx=>(qc5 s x).bind fun x=>(qhd s lo).bind fun lo=>(qhd s hi).bind fun hi=>(qhd s mx).bind fun mx=>v (qcq C.P s.H t x lo hi mx)
 |.fieldAddr t x f=>(qc5 s x).bind fun x=>v (qb1 C.P t x f)
 |.field t x f=>(qc5 s x).bind fun x=>v (qbu C.P t x f)
 |.indexAddr t x i=>(qc5 s x).bind fun x=>(qc5 s i).bind fun i=>v (qaq C.P t x i)
 |.index t x i=>(qc5 s x).bind fun x=>(qc5 s i).bind fun i=>v (qov C.P t x i)
 |.lookup t m k ok=>(qc5 s m).bind fun m=>(qc5 s k).bind fun k=>v (qj9 C.P s.H t m k ok)
 |.mapUpdate t m k x | .insert t m k x=>(qc5 s m).bind fun m=>(qc5 s k).bind fun k=>(qc5 s x).bind fun x=>(qj8 C.P s.H t m k x).bind fun H=>some (.undef,H)
 |.extract x i=>(qc5 s x).bind fun x=>match x with
  |.tup vs=>v (qcb vs i)
  |_=>none
 |.range t x=>(qc5 s x).bind fun x=>(C.P.underlying t).bind fun d=>match d,x with
  |.string,.str l=>some (.ptr s.H.n 0,s.H.new (.iter l 0))
  |_,_=>none
 |.next x isS=>(qc5 s x).bind fun x=>match isS,x with
  |true,.ptr b 0=>qtj s.H b
  |_,_=>none
 |.call c=>(qfy s c.args.toList).bind fun args=>match c.callee with
  |.builtin b=>qcl C.P s.H b c.argTypes args
  |.value f=>(qc5 s f).bind fun f=>match f with
   |.func (.func f) first cap=>call (.fn f) (first++args++cap) s.H
   |.yld b=>call (.yl b) args s.H
   |_=>none
  |_=>none
 |_=>none
def qc0(s:St) (o:Oper):St:=match o.op with
 |.alloc _ | .box _ _=>match o.dst with
  |some t=>match s.get t with
   |some (.ptr b 0)=>match s.H.get b with
    |some (.cells [_])=>s
    |_=>s.wH (s.H.kill b)
   |_=>s
  |none=>s
 |_=>s
def qeb(C:Ctx) (call:qck) (ops:Array Oper) (o:Oper) (s:St):Option St:=(qar ops s o).bind fun g=>match g with
 |true=>(qah C call o s).bind fun r=>St.put (s.wH r.2) o.dst r.1
 |false=>s.put o.dst (.tup [])
def qfn(C:Ctx) (call:qck) (ops:Array Oper):List Oper->St->Option St
 |[],s=>some s
 |o::r,s=>(qeb C call ops o (qc0 s o)).bind fun s=>qfn C call ops r s
inductive Out where
 |normal
 |exit (id:Nat)
 |goto (l:Nat)
 |ret
def retVal(C:Ctx) (s:St):List ResultVar->Option (List AV)
 |[]=>some []
 |x::r=>(match x with
   |.tmp t=>s.get t
   |.cell a t=>(s.get a).bind fun p=>qb2 C.P s.H t p).bind fun v=>(retVal C s r).bind fun vs=>some (v::vs)
def oneOr:List AV->AV
 |[v]=>v
 |vs=>.tup vs
inductive Cls where
 |pure|reads|allocs|acts
def qb4:Op->Cls
 |.move _ | .assign _ | .pick .. | .build .. | .nilCheck _ | .binOp .. | .unOp .. | .makeFunc .. | .fieldAddr .. | .field .. | .indexAddr .. | .index .. | .extract ..=>.pure
 |.load .. | .lookup .. | .slice ..=>.reads
 |.alloc .. | .box .. | .buildSlice .. | .makeMap .. | .makeSlice ..=>.allocs
 |.call c=>match c.callee with
  |.builtin b=>match b with
   |.len=>.reads
   |.max | .min=>.pure
   |_=>.acts
  |_=>.acts
 |_=>.acts
def ahead(bef:Array Nat) (i j:Nat):Bool:=(bef.getD j 0).testBit i
def qjh(bef:Array Nat):List Nat->Bool
 |[]=>true
 |i::r=>match r with
  |[]=>true
  |j::_=>match ahead bef i j with
   |true=>qjh bef r
   |false=>false
def qhj:Nat->List Oper->List Nat
 |_,[]=>[]
 |i,o::r=>match qb4 o.op with
  |.acts=>i::qhj (Nat.succ i) r
  |_=>qhj (Nat.succ i) r
def qfk(ops:Array Oper) (o:Oper):List Nat:=
 (o.op.operands.toList.filterMap fun x=>match x with | .tmp t=>some t|_=>none) ++
 (match o.guard with
  |none=>[]
  |some (j,_)=>match (ops[j]?).bind (·.dst)with
   |some t=>[t]
   |none=>[])
def memN(n:Nat):List Nat->Bool
 |[]=>false
 |m::r=>match Nat.beq n m with
  |true=>true
  |false=>memN n r
def qfw(bef:Array Nat) (i:Nat) (ts:List Nat):Nat->List Oper->Bool
 |_,[]=>true
 |j,p::r=>match p.dst with
  |none=>qfw bef i ts (Nat.succ j) r
  |some t=>match memN t ts with
   |false=>qfw bef i ts (Nat.succ j) r
   |true=>match (match Nat.beq i j with|true=>true|false=>match Nat.blt i j with|true=>ahead bef i j|false=>ahead bef j i)with
    |true=>qfw bef i ts (Nat.succ j) r
    |false=>false
def qqv(bef:Array Nat) (ops:Array Oper):Nat->List Oper->Bool
 |_,[]=>true
 |i,o::r=>match qfw bef i (o.dst.toList++qfk ops o) 0 ops.toList with
  |true=>qqv bef ops (Nat.succ i) r
  |false=>false
def qjf(i:Nat):List Edge->Bool
 |[]=>true
 |e::r=>match Region.binds .any e with
  |false=>qjf i r
  |true=>match Nat.blt e.on i with
   |true=>qjf i r
   |false=>false
def qsm:Nat->List Oper->Bool
 |_,[]=>true
 |i,o::r=>match qjf i o.after.toList with
  |true=>qsm (Nat.succ i) r
  |false=>false
def qqk(ops:Array Oper):Bool:=match qjh (Region.before ops) (qhj 0 ops.toList)with
 |true=>match qqv (Region.before ops) ops 0 ops.toList with
  |true=>qsm 0 ops.toList
  |false=>false
 |false=>false
structure Rec where
 i:Nat
 o:Oper
 s:St
 v:AV
structure Pend where
 i:Nat
 b:Nat
 k:Blk
structure DrawSt where
 s:St
 ps:List Pend
 hs:List (Nat × Heap)
 rs:List Rec
def qbd(bef:Array Nat) (i:Nat):List Pend->List (Nat × Blk)
 |[]=>[]
 |p::r=>match ahead bef p.i i with
  |true=>(p.b,p.k)::qbd bef i r
  |false=>qbd bef i r
def qba(bef:Array Nat) (i:Nat):List Pend->List Pend
 |[]=>[]
 |p::r=>match ahead bef p.i i with
  |true=>qba bef i r
  |false=>p::qba bef i r
def allPend:List Pend->List (Nat × Blk)
 |[]=>[]
 |p::r=>(p.b,p.k)::allPend r
def Heap.lay(H:Heap) (l:List (Nat × Blk)):Heap:=match l with
 |[]=>H
 |x::r=>⟨H.n,qap (x::r) H.fs⟩
def qi7(C:Ctx) (call:qck) (ops:Array Oper) (bef:Array Nat) (base i:Nat) (o:Oper) (d:DrawSt):Option DrawSt:=(qar ops d.s o).bind fun g=>match g with
 |false=>(d.s.put o.dst (.tup [])).bind fun s'=>match qb4 o.op with
  |.acts=>some { d with s:=s'.wH (s'.H.lay (qbd bef i d.ps)),ps:=qba bef i d.ps,hs:=(i,s'.H.lay (qbd bef i d.ps))::d.hs }
  |_=>some { d with s:=s' }
 |true=>match qb4 o.op with
  |.allocs=>(qbc C o d.s).bind fun k=>(d.s.put o.dst (k.1 (base+i))).bind fun s'=>some { d with s:=s',ps:={ i:=i,b:=base+i,k:=k.2 }::d.ps }
  |.acts=>(qah C call o (d.s.wH (d.s.H.lay (qbd bef i d.ps)))).bind fun v=>(St.put (d.s.wH v.2) o.dst v.1).bind fun s'=>
    some { d with s:=s',ps:=qba bef i d.ps,hs:=(i,s'.H)::d.hs }
  |.reads=>(qah C call o d.s).bind fun v=>(d.s.put o.dst v.1).bind fun s'=>some { d with s:=s',rs:={ i:=i,o:=o,s:=d.s,v:=v.1 }::d.rs }
  |.pure=>(qah C call o d.s).bind fun v=>(d.s.put o.dst v.1).bind fun s'=>some { d with s:=s' }
def qlm(C:Ctx) (call:qck) (ops:Array Oper) (bef:Array Nat) (base:Nat):Nat->List Oper->DrawSt->Option DrawSt
 |_,[],d=>some d
 |i,o::r,d=>(qi7 C call ops bef base i o d).bind fun d=>qlm C call ops bef base (Nat.succ i) r d
def qd2(C:Ctx) (call:qck) (x:Rec) (H:Heap):Bool:=match qah C call x.o { x.s with H:=H } with
 |some y=>decide (y.1=x.v)
 |none=>false
def qc9(C:Ctx) (call:qck) (bef:Array Nat) (x:Rec) (H0:Heap):List (Nat × Heap)->Bool
 |[]=>qd2 C call x H0
 |h::r=>match ahead bef x.i h.1 with
  |true=>qc9 C call bef x H0 r
  |false=>match qd2 C call x h.2 with
   |false=>false
   |true=>match ahead bef h.1 x.i with
    |true=>true
    |false=>qc9 C call bef x H0 r
def qc1(C:Ctx) (call:qck) (bef:Array Nat) (H0:Heap) (hs:List (Nat × Heap)):List Rec->Bool
 |[]=>true
 |x::r=>match qc9 C call bef x H0 hs with
  |true=>qc1 C call bef H0 hs r
  |false=>false
def qan:List Oper->St->St
 |[],s=>s
 |o::r,s=>qan r (qc0 s o)
def qbh(s:St) (n:Nat):St:={ s with H:=⟨s.H.n+n,s.H.fs⟩ }
def qjt(C:Ctx) (call:qck) (ops:Array Oper) (s:St):Option St:=match qqk ops with
 |false=>none
 |true=>(qlm C call ops (Region.before ops) s.H.n 0 ops.toList ⟨qbh (qan ops.toList s) ops.size,[],[],[]⟩).bind fun d=>
  match qc1 C call (Region.before ops) (qbh (qan ops.toList s) ops.size).H d.hs d.rs with
   |true=>some (d.s.wH (d.s.H.lay (allPend d.ps)))
   |false=>none
abbrev qpg:=Code->St->Option (Out × St)
def qlk(ih:qpg) (body:Code):Nat->Code->St->Option (Out × St)
 |0,_,_=>none
 |Nat.succ n,c,s=>(ih c s).bind fun r=>match r.1 with
  |.goto l=>match findLabel body l with
   |some rest=>qlk ih body n rest r.2
   |none=>some r
  |_=>some r
def qsd(C:Ctx) (f:FuncId):Bool:=match C.P.funcs[f]? with
 | some fn => match fn.name == "runtime.NumGoroutine" with
  |true=>false
  |false=>fn.body.isSome
 |none=>false
def qv9:Code->Option Out
 |.ret=>some .ret
 |.exit id=>some (.exit id)
 |.goto l=>some (.goto l)
 |_=>none
def qig(C:Ctx) (call:qck) (g:Operand) (ps:Array Tmp) (assign body:Code) (s:St):Option (Out × St):=(qc5 s g).bind fun g=>match g with
 |.func (.func f) first cap=>match qsd C f with
  |false=>none
  |true=>(call (.fn f) (first++[.yld s.H.n]++cap) (s.H.new (.loop .ready none s.ks s.vs s.ts s.sz ps.toList assign body))).bind fun r=>(r.2.get s.H.n).bind fun k=>match k with
   |.loop st pend _ _ _ _ _ _ _=>match st with
    |.ready=>match pend with
     |none=>some (.normal,s.wH (r.2.drop s.H.n))
     |some _=>none
    |.done=>pend.bind fun c=>(qv9 c).bind fun x=>some (x,s.wH (r.2.drop s.H.n))
    |_=>none
   |_=>none
 |_=>none
def qh1(C:Ctx) (call:qck) (rf:Bool) (ih:qpg) (c:Code) (s:St):Option (Out × St):=match c with
 |.skip=>some (.normal,s)
 |.label _=>some (.normal,s)
 |.region _ ops draw=>match draw with
  |false=>(qfn C call ops ops.toList s.wT).bind fun s=>some (.normal,s)
  |true=>(qjt C call ops s.wT).bind fun s=>some (.normal,s)
 |.seq a b=>(ih a s).bind fun r=>match r.1 with
  |.normal=>ih b r.2
  |_=>some r
 |.cond c a b=>(qc5 s c).bind fun v=>match v with
  |.bool t=>match t with
   |true=>ih a s
   |false=>ih b s
  |_=>none
 |.block id b=>(ih b s).bind fun r=>match r.1 with
  |.exit k=>match Nat.beq k id with
   |true=>some (.normal,r.2)
   |false=>some r
  |_=>some r
 |.loop b=>(ih b s).bind fun r=>match r.1 with
  |.normal=>ih (.loop b) r.2
  |_=>some r
 |.exit id=>some (.exit id,s)
 |.scope b=>qlk ih b 1000000 b s
 |.goto l=>some (.goto l,s)
 |.ret=>some (.ret,s)
 |.rangeFunc g ps assign body=>match rf with
  |true=>qig C call g ps assign body s
  |false=>none
 |.refuse _=>none
def qpx:List Nat->List AV
 |[]=>[]
 |_::r=>.undef::qpx r
def qr6(s:St):Nat->List AV->Option St
 |_,[]=>some s
 |i,v::r=>(s.set i v).bind fun s=>qr6 s (Nat.succ i) r
def enterF(C:Ctx) (f:FuncId) (fn:Func) (args:List AV) (H:Heap):Option St:=
 qr6 { ks:=C.keep f,vs:=qpx (C.keep f),ts:=[],sz:=args.length+(fn.ntmps - args.length),H:=⟨H.n,[]::H.fs⟩ } 0 args
def qta(s:St):List Nat->List AV->Option St
 |[],[]=>some s
 |p::ps,v::vs=>(s.set p v).bind fun s=>qta s ps vs
 |_,_=>none
def qid(x:Out):Bool × LoopState × Option Code:=match x with
 |.normal=>(true,.ready,none)
 |.ret=>(false,.done,some .ret)
 |.exit id=>(false,.done,some (.exit id))
 |.goto l=>(false,.done,some (.goto l))
def qp7(ih:qpg) (b:Nat) (args:List AV) (H:Heap):Option (AV × Heap):=(H.get b).bind fun k=>match k with
 |.loop st _ ks vs ts sz ps assign body=>match st with
  |.ready=>(qta ⟨ks,vs,ts,sz,⟨H.n,[]::H.fs⟩⟩ ps args).bind fun s=>(ih assign s).bind fun r=>match r.1 with
   |.normal=>(r.2.H.get b).bind fun k1=>match k1 with
    |.loop st1 pend1 ks1 vs1 ts1 sz1 ps1 as1 bd1=>match st1 with
     |.ready=>(r.2.H.set b (.loop .busy pend1 ks1 vs1 ts1 sz1 ps1 as1 bd1)).bind fun H1=>(ih body (r.2.wH H1)).bind fun r=>(r.2.H.get b).bind fun k2=>match k2 with
      |.loop _ _ ks2 vs2 ts2 sz2 ps2 as2 bd2=>(r.2.H.set b (.loop (qid r.1).2.1 (qid r.1).2.2 ks2 vs2 ts2 sz2 ps2 as2 bd2)).bind fun H2=>
       some (.bool (qid r.1).1,qte (.bool true) H2)
      |_=>none
     |_=>none
    |_=>none
   |_=>none
  |_=>none
 |_=>none
def qqi(C:Ctx) (ih ihR:qpg):qck:=fun c args H=>match c with
 |.yl b=>qp7 ihR b args H
 |.fn f=>match C.summ f with
  |some g=>g args H
  | none => (C.P.funcs[f]?).bind fun fn => match fn.name == "runtime.NumGoroutine" with
   |true=>none
   |false=>fn.body.bind fun body=>(enterF C f fn args H).bind fun s=>(ih body s).bind fun r=>match r.1 with
    |.normal=>(retVal C r.2 fn.results.toList).bind fun vs=>some (oneOr vs,qte (oneOr vs) r.2.H)
    |.ret=>(retVal C r.2 fn.results.toList).bind fun vs=>some (oneOr vs,qte (oneOr vs) r.2.H)
    |_=>none
def qsa(C:Ctx):Nat->Bool->qpg
 |0,_=>fun _ _=>none
 |Nat.succ n,rf=>fun c s=>qh1 C (qqi C (qsa C n true) (qsa C n false)) rf (qsa C n rf) c s
def qvq(C:Ctx) (n:Nat):qck:=qqi C (qsa C n true) (qsa C n false)
structure Loc where
 cb:Nat
 off:Nat
 fin:Nat
def globs:List Nat:=[0]
structure Place where
 at_:Nat->Option Loc
 W:World
 B:Nat->Prop
 gl:∀g,g∈globs->B g/\∃m,W.cell? ⟨g,0,none⟩=some (.int .i64 m)
instance:CoeFun Place fun _=>Nat->Option Loc:=⟨Place.at_⟩
structure Place.le (ρ ρ':Place):Prop where
 at_:∀b l,ρ b=some l->ρ' b=some l
 fz:∀k,ρ.B k->ρ'.B k/\ρ'.W.heap[k]? = ρ.W.heap[k]?
 os:ρ'.W.os=ρ.W.os
 tape:ρ'.W.tape=ρ.W.tape
 output:ρ'.W.output=ρ.W.output
instance (ρ ρ':Place):CoeFun (ρ.le ρ') fun _=>∀b l,ρ b=some l->ρ' b=some l:=⟨Place.le.at_⟩
theorem Place.le_refl(ρ:Place):ρ.le ρ:=⟨fun _ _ h=>h,fun _ h=>⟨h,rfl⟩,rfl,rfl,rfl⟩
theorem Place.le_trans{a b c:Place} (h:a.le b) (k:b.le c):a.le c:=
 ⟨fun x l e=>k x l (h x l e),fun x hx=>let ⟨h1,h2⟩:=h.fz x hx;let ⟨k1,k2⟩:=k.fz x h1;⟨k1,k2.trans h2⟩,k.os.trans h.os,k.tape.trans h.tape,k.output.trans h.output⟩
def Place.upd(ρ:Place) (b:Nat) (l:Loc):Place:={ ρ with at_:=fun x=>if x=b then some l else ρ x }
theorem Place.le_upd{ρ:Place} {b:Nat} {l:Loc} (h:ρ b=none):ρ.le (ρ.upd b l):=by
 refine⟨fun x m e=>?_,fun _ h=>⟨h,rfl⟩,rfl,rfl,rfl⟩;show (if x=b then some l else ρ x)=some m;split
 next hx=>subst hx;rw[h]at e;cases e
 ·exact e
theorem Place.upd_same{ρ:Place} {b:Nat} {l:Loc}:(ρ.upd b l) b=some l:=by simp[Place.upd]
theorem Place.upd_other{ρ:Place} {b x:Nat} {l:Loc} (h:x≠b):(ρ.upd b l) x=ρ x:=by simp[Place.upd,h]
def Place.bare(ρ:Place):Place:={ ρ with at_:=fun _=>none }
theorem Place.bare_le(ρ:Place):ρ.bare.le ρ:=⟨fun _ _ h=>by simp[Place.bare]at h,fun _ h=>⟨h,rfl⟩,rfl,rfl,rfl⟩
theorem Place.le.bare{ρ ρ':Place} (h:ρ.le ρ'):ρ.bare.le ρ'.bare:=⟨fun _ _ h=>by simp[Place.bare]at h,h.fz,h.os,h.tape,h.output⟩
theorem Place.le.cell{ρ ρ':Place} (h:ρ.le ρ') {a:Addr} (ha:ρ.B a.block):ρ'.W.cell? a=ρ.W.cell? a:=by simp only[World.cell?,(h.fz _ ha).2]
inductive VR:Place->AV->Value->Prop
 |undef {ρ:Place} (x:Value):VR ρ .undef x
 |bool {ρ:Place} (b:Bool):VR ρ (.bool b) (.bool b)
 |int {ρ:Place} (k:IntKind) (n:Int):VR ρ (.int k n) (.int k n)
 |str {ρ:Place} (s:List UInt8):VR ρ (.str s) (.string ⟨s.toArray⟩)
 |nilP {ρ:Place}:VR ρ .nilP (.pointer none)
 |ptr {ρ:Place} (b o:Nat) (l:Loc) (h:ρ b=some l):VR ρ (.ptr b o) (.pointer (some ⟨l.cb,l.off+o,none⟩))
 |fptr {ρ:Place} (cs:List AV) (o cb off:Nat) (vs:Nat->Value) (hB:ρ.B cb)
   (hc:∀i,i < cs.length->ρ.W.cell? ⟨cb,off+i,none⟩=some (vs i)) (hv:∀i (h:i < cs.length),VR ρ.bare cs[i] (vs i)) :
   VR ρ (.fptr cs o) (.pointer (some ⟨cb,off+o,none⟩))
 |nilS {ρ:Place}:VR ρ .nilS (.slice none 0 0)
 |eslc {ρ:Place} (a:Addr) (c:Nat):VR ρ .eslc (.slice (some a) 0 c)
 |zslcN {ρ:Place}:VR ρ .zslc (.slice none 0 0)
 |zslcE {ρ:Place} (a:Addr):VR ρ .zslc (.slice (some a) 0 0)
 |slcE {ρ:Place} (b o len c:Nat) (l:Loc) (h:ρ b=some l) (hc:len<=c):VR ρ (.slc b o len (.ex c)) (.slice (some ⟨l.cb,l.off+o,none⟩) len c)
 |slcR {ρ:Place} (b o len sz c:Nat) (l:Loc) (h:ρ b=some l) (hc:len<=c) (hf:l.off+o+c * sz=l.fin/\c<=9223372036854775807):VR ρ (.slc b o len (.rest sz)) (.slice (some ⟨l.cb,l.off+o,none⟩) len c)
 |fslc {ρ:Place} (sz:Nat) (es:List AV) (cb off cap:Nat) (vs:Nat->Nat->Value) (hB:ρ.B cb) (hcap:es.length<=cap)
   (hz:∀i (h:i < es.length),es[i].cells.length=sz)
   (hc:∀i,i < es.length->∀j,j < sz->ρ.W.cell? ⟨cb,off+i * sz+j,none⟩=some (vs i j))
   (hv:∀i (h:i < es.length) j (h':j < es[i].cells.length),VR ρ.bare es[i].cells[j] (vs i j)) :
   VR ρ (.fslc sz es) (.slice (some ⟨cb,off,none⟩) es.length cap)
 |xslc {ρ:Place} (sz:Nat) (es:List AV) (cb off:Nat) (vs:Nat->Nat->Value) (hB:ρ.B cb)
   (hz:∀i (h:i < es.length),es[i].cells.length=sz)
   (hc:∀i,i < es.length->∀j,j < sz->ρ.W.cell? ⟨cb,off+i * sz+j,none⟩=some (vs i j))
   (hv:∀i (h:i < es.length) j (h':j < es[i].cells.length),VR ρ.bare es[i].cells[j] (vs i j)) :
   VR ρ (.xslc sz es) (.slice (some ⟨cb,off,none⟩) es.length es.length)
 |fnil {ρ:Place} (sz:Nat):VR ρ (.fslc sz []) (.slice none 0 0)
 |fnone {ρ:Place} (sz:Nat) (a:Addr) (c:Nat):VR ρ (.fslc sz []) (.slice (some a) 0 c)
 |nilM {ρ:Place}:VR ρ .nilM (.map none)
 |map {ρ:Place} (b:Nat) (l:Loc) (h:ρ b=some l):VR ρ (.map b) (.map (some l.cb))
 |nilF {ρ:Place}:VR ρ .nilF .nilFunc
 |func {ρ:Place} (fn:Fn) (a c:List AV) (a' c':Array Value) (ha:a'.size=a.length) (hc:c'.size=c.length)
   (hav:∀i (h:i < a.length) (h':i < a'.size),VR ρ a[i] a'[i]) (hcv:∀i (h:i < c.length) (h':i < c'.size),VR ρ c[i] c'[i]) :
   VR ρ (.func fn a c) (.func fn a' c')
 |agg {ρ:Place} (cs:List AV) (vs:Array Value) (hl:vs.size=cs.length) (hv:∀i (h:i < cs.length) (h':i < vs.size),VR ρ cs[i] vs[i]):VR ρ (.agg cs) (.agg vs)
 |tup {ρ:Place} (cs:List AV) (vs:Array Value) (hl:vs.size=cs.length) (hv:∀i (h:i < cs.length) (h':i < vs.size),VR ρ cs[i] vs[i]):VR ρ (.tup cs) (.tuple vs)
 |yld {ρ:Place} (b:Nat) (l:Loc) (h:ρ b=some l):VR ρ (.yld b) (.func (.yield l.cb) #[] #[])
 |val {ρ:Place} (v:Value) (h:v.oneCell'=true):VR ρ (.val v) v
section
theorem VR.mono{ρ ρ':Place} (h:ρ.le ρ') {v:AV} {x:Value} (r:VR ρ v x):VR ρ' v x:=by
 induction r generalizing ρ' with
 |undef x=>exact .undef x
 |bool b=>exact .bool b
 |int k n=>exact .int k n
 |str s=>exact .str s
 |nilP=>exact .nilP
 |ptr b o l e=>exact .ptr b o l (h _ _ e)
 |fptr cs o cb off vs hB hc hv ih=>exact .fptr cs o cb off vs (h.fz _ hB).1 (fun i hi=>by rw[h.cell (a:=⟨cb,_,none⟩) hB];exact hc i hi) (fun i hi=>ih i hi h.bare)
 |nilS=>exact .nilS
 |eslc a c=>exact .eslc a c
 |zslcN=>exact .zslcN
 |zslcE a=>exact .zslcE a
 |slcE b o len c l e hc=>exact .slcE b o len c l (h _ _ e) hc
 |slcR b o len sz c l e hc hf=>exact .slcR b o len sz c l (h _ _ e) hc hf
 |fslc sz es cb off cap vs hB hcap hz hc hv ih=>exact .fslc sz es cb off cap vs (h.fz _ hB).1 hcap hz (fun i hi j hj=>by rw[h.cell (a:=⟨cb,_,none⟩) hB];exact hc i hi j hj) (fun i hi j hj=>ih i hi j hj h.bare)
 |xslc sz es cb off vs hB hz hc hv ih=>exact .xslc sz es cb off vs (h.fz _ hB).1 hz (fun i hi j hj=>by rw[h.cell (a:=⟨cb,_,none⟩) hB];exact hc i hi j hj) (fun i hi j hj=>ih i hi j hj h.bare)
 |fnil sz=>exact .fnil sz
 |fnone sz a c=>exact .fnone sz a c
 |nilM=>exact .nilM
 |map b l e=>exact .map b l (h _ _ e)
 |nilF=>exact .nilF
 |func fn a c a' c' ha hc hav hcv iha ihc=>exact .func fn a c a' c' ha hc (fun i h1 h2=>iha i h1 h2 h) (fun i h1 h2=>ihc i h1 h2 h)
 |agg cs vs hl hv ih=>exact .agg cs vs hl fun i h1 h2=>ih i h1 h2 h
 |tup cs vs hl hv ih=>exact .tup cs vs hl fun i h1 h2=>ih i h1 h2 h
 |yld b l e=>exact .yld b l (h _ _ e)
 |val v e=>exact .val v e
theorem VR.oneCell{ρ:Place} {v:AV} {x:Value} (r:VR ρ v x) (h:v.single=true):x.oneCell'=true:=by cases r<;>first|rfl|assumption|simp[AV.single]at h
def VRs(ρ:Place) (vs:List AV) (xs:List Value):Prop:=xs.length=vs.length/\∀i (h:i < vs.length) (h':i < xs.length),VR ρ vs[i] xs[i]
theorem VRs.nil{ρ:Place}:VRs ρ [] []:=⟨rfl,fun i h=>absurd h (j3 i)⟩
theorem VRs.cons{ρ:Place} {v:AV} {x:Value} {vs:List AV} {xs:List Value} (h:VR ρ v x) (r:VRs ρ vs xs):VRs ρ (v::vs) (x::xs):=by
 refine⟨by simp[r.1],fun i h1 h2=>?_⟩;cases i with
 |zero=>exact h
 |succ i=>exact r.2 i (by simpa using h1) (by simpa using h2)
theorem VRs.head{ρ:Place} {v:AV} {x:Value} {vs:List AV} {xs:List Value} (r:VRs ρ (v::vs) (x::xs)):VR ρ v x:=r.2 0 (by simp) (by simp)
theorem VRs.tail{ρ:Place} {v:AV} {x:Value} {vs:List AV} {xs:List Value} (r:VRs ρ (v::vs) (x::xs)):VRs ρ vs xs:=
 ⟨by simpa using r.1,fun i h1 h2=>r.2 (i+1) (by simpa using h1) (by simpa using h2)⟩
theorem VRs.mono{ρ ρ':Place} (h:ρ.le ρ') {vs:List AV} {xs:List Value} (r:VRs ρ vs xs):VRs ρ' vs xs:=⟨r.1,fun i h1 h2=>(r.2 i h1 h2).mono h⟩
theorem VRs.append{ρ:Place} {vs us:List AV} {xs ys:List Value} (h:VRs ρ vs xs) (k:VRs ρ us ys):VRs ρ (vs++us) (xs++ys):=by
 induction vs generalizing xs with
 |nil=>cases xs with
  |nil=>exact k
  |cons _ _=>have:=h.1;simp at this
 |cons v vs ih=>cases xs with
  |nil=>have:=h.1;simp at this
  |cons x xs=>exact .cons h.head (ih h.tail)
theorem zas{v:Value} (h:v.oneCell'=true):v.cells.toList=[v]:=by cases v<;>first|rfl|simp[Value.oneCell']at h
theorem VR.cells{ρ:Place} {v:AV} {x:Value} (r:VR ρ v x) (h:v≠.undef) (h':∀l,v≠.tup l):VRs ρ v.cells x.cells.toList:=by
 cases r with
 |undef _=>exact absurd rfl h
 |tup cs vs _ _=>exact absurd rfl (h' cs)
 |agg cs vs hl hv=>exact⟨by simp[Value.cells,AV.cells,hl],fun i h1 h2=>hv i h1 (by simpa[Value.cells]using h2)⟩
 |val _ e=>rw[zas e];exact .cons (.val _ e) .nil
 |_=>exact .cons (by constructor<;>assumption) .nil
def BlkR(ρ:Place) (w:World) (l:Loc):Blk->Prop
 |.cells cs=>l.off+cs.length<=l.fin /\
   (∀i,i < l.fin->(w.cell? ⟨l.cb,i,none⟩).isSome=true/\w.frozen? ⟨l.cb,i,none⟩=false) /\
   ∀i (h:i < cs.length),∃x,w.cell? ⟨l.cb,l.off+i,none⟩=some x/\VR ρ cs[i] x
 |.map es=>∃(ents:Array MapEntry) (clock:Nat),w.heap[l.cb]? = some (.map ents clock)/\ents.size=es.length /\
   (∀i (h:i < es.length) (h':i < ents.size),VR ρ es[i].1 ents[i].key/\VR ρ es[i].2 ents[i].val)
 |.buf t fz cs=>(l.off+cs.length<=l.fin/\(∀i,i < l.fin->(w.cell? ⟨l.cb,i,none⟩).isSome=true) /\
   ∀i (h:i < cs.length),∃x,w.cell? ⟨l.cb,l.off+i,none⟩=some x/\VR ρ cs[i] x)/\l.off=0/\fz<=cs.length /\
   ∃c lo hi,w.heap[l.cb]? = some (.cells c t (lo,hi))/\(lo=hi\/hi<=fz)
 |.iter s pos=>w.heap[l.cb]? = some (.stringIter ⟨s.toArray⟩ pos)/\l.off=0
 |.loop st pend ks vs ts sz ps assign body=>∃r:Loop,w.heap[l.cb]? = some (.loop r)/\r.state=st/\r.pending=pend/\r.params.toList=ps/\r.assign=assign/\r.body=body/\r.tmps.size=sz /\
   ∀t v,(match qgl t ks vs with|some v=>some v|none=>look t ts)=some v->VR ρ v (r.tmps.getD t undef)
def Heap.ents(H:Heap):List (Nat × Blk):=H.fs.flatten
theorem BlkR.mono{ρ ρ':Place} (h:ρ.le ρ') {w:World} {l:Loc} {k:Blk} (r:BlkR ρ w l k):BlkR ρ' w l k:=by
 cases k with
 |cells cs=>exact⟨r.1,r.2.1,fun i hi=>let ⟨x,hx,hv⟩:=r.2.2 i hi;⟨x,hx,hv.mono h⟩⟩
 |map es=>obtain⟨ents,clock,h1,h2,h3⟩:=r;exact⟨ents,clock,h1,h2,fun i a b=>⟨(h3 i a b).1.mono h,(h3 i a b).2.mono h⟩⟩
 |buf t fz cs=>exact⟨⟨r.1.1,r.1.2.1,fun i hi=>let ⟨x,hx,hv⟩:=r.1.2.2 i hi;⟨x,hx,hv.mono h⟩⟩,r.2⟩
 |iter s pos=>exact r
 |loop=>obtain⟨q,h1,h2,h3,h4,h5,h6,h7,h8⟩:=r;exact⟨q,h1,h2,h3,h4,h5,h6,h7,fun t v e=>(h8 t v e).mono h⟩
theorem BlkR.same{ρ:Place} {w w':World} {l:Loc} {k:Blk} (h:w'.heap[l.cb]? = w.heap[l.cb]?) (r:BlkR ρ w l k):BlkR ρ w' l k:=by
 have hc:∀i,w'.cell? ⟨l.cb,i,none⟩=w.cell? ⟨l.cb,i,none⟩:=fun i=>by simp[World.cell?,h]
 have hf:∀i,w'.frozen? ⟨l.cb,i,none⟩=w.frozen? ⟨l.cb,i,none⟩:=fun i=>by simp[World.frozen?,h]
 cases k with
 |cells cs=>exact⟨r.1,fun i hi=>by rw[hc,hf];exact r.2.1 i hi,fun i hi=>by rw[hc];exact r.2.2 i hi⟩
 |map es=>obtain⟨ents,clock,h1,h2,h3⟩:=r;exact⟨ents,clock,by rw[h];exact h1,h2,h3⟩
 |buf t fz cs=>exact⟨⟨r.1.1,fun i hi=>by rw[hc];exact r.1.2.1 i hi,fun i hi=>by rw[hc];exact r.1.2.2 i hi⟩,r.2.1,r.2.2.1,by rw[h];exact r.2.2.2⟩
 |iter s pos=>exact⟨by rw[h];exact r.1,r.2⟩
 |loop=>obtain⟨q,h1,h2⟩:=r;exact⟨q,by rw[h];exact h1,h2⟩
theorem BlkR.rdR{ρ:Place} {w:World} {l:Loc} {k:Blk} {cs:List AV} (r:BlkR ρ w l k) (h:k.rd=some cs) :
  l.off+cs.length<=l.fin/\(∀i,i < l.fin->(w.cell? ⟨l.cb,i,none⟩).isSome=true)/\∀i (h:i < cs.length),∃x,w.cell? ⟨l.cb,l.off+i,none⟩=some x/\VR ρ cs[i] x:=by
 cases k<;>simp only[Blk.rd,sj,reduceCtorEq]at h
 ·subst h;exact⟨r.1,fun i hi=>(r.2.1 i hi).1,r.2.2⟩
 ·subst h;exact r.1
theorem BlkR.wtR{ρ:Place} {w:World} {l:Loc} {k:Blk} {cs:List AV} {o:Nat} (r:BlkR ρ w l k) (h:k.wt o=some cs) :
  k.rd=some cs/\∀i,i < l.fin->l.off+o<=i->w.frozen? ⟨l.cb,i,none⟩=false:=by
 cases k<;>simp only[Blk.wt,sj,reduceCtorEq]at h
 ·subst h;exact⟨rfl,fun i hi _=>(r.2.1 i hi).2⟩
 ·split at h
  ·rename_i hb;simp only[sj]at h;subst h;refine⟨rfl,fun i hi ho=>?_⟩;obtain⟨_,h0,_,c,lo,hi',hh,hz⟩:=r;have hb:=jG hb;simp only[World.frozen?,hh];rcases hz with rfl|hz
   ·by_cases h1:lo<=i<;>simp<;>omega
   ·simp;omega
  ·cases h
theorem BlkR.reR{ρ:Place} {w w':World} {l:Loc} {k:Blk} {cs cs':List AV} {o:Nat} (r:BlkR ρ w l k) (h:k.wt o=some cs) (hl:cs'.length=cs.length)
  (hs:∀i,i < l.fin->(w'.cell? ⟨l.cb,i,none⟩).isSome=true) (hf:∀i,w'.frozen? ⟨l.cb,i,none⟩=w.frozen? ⟨l.cb,i,none⟩)
  (hk:∀c t fr,w.heap[l.cb]? = some (.cells c t fr)->∃c',w'.heap[l.cb]? = some (.cells c' t fr)/\c'.size=c.size)
  (hv:∀i (h:i < cs'.length),∃x,w'.cell? ⟨l.cb,l.off+i,none⟩=some x/\VR ρ cs'[i] x):BlkR ρ w' l (k.re cs'):=by
 cases k<;>simp only[Blk.wt,sj,reduceCtorEq]at h
 ·subst h;exact⟨by rw[hl];exact r.1,fun i hi=>⟨hs i hi,by rw[hf];exact(r.2.1 i hi).2⟩,hv⟩
 ·split at h
  ·simp only[sj]at h;subst h;obtain⟨r1,r2,r3,c,lo,hi',hh,hz⟩:=r;obtain⟨c',hc',_⟩:=hk _ _ _ hh;exact⟨⟨by rw[hl];exact r1.1,hs,hv⟩,r2,by rw[hl];exact r3,c',lo,hi',hc',hz⟩
  ·cases h
structure Sim (ρ:Place) (H:Heap) (w:World):Prop where
 base:∀k,ρ.B k->k < w.heap.size
 below:∀k,ρ.B k->w.heap[k]? = ρ.W.heap[k]?
 os:w.os=ρ.W.os
 tape:w.tape=ρ.W.tape
 output:w.output=ρ.W.output
 dom:∀b,H.n<=b->ρ b=none
 nodup:(H.ents.map (·.1)).Nodup
 live:∀e,e∈H.ents->∃l,ρ e.1=some l/\¬ ρ.B l.cb/\l.cb < w.heap.size/\BlkR ρ w l e.2
 inj:∀e e',e∈H.ents->e'∈H.ents->∀l l',ρ e.1=some l->ρ e'.1=some l'->l.cb=l'.cb->e.1=e'.1
structure Step (ρ:Place) (H:Heap) (w:World) (ρ':Place) (H':Heap) (w':World):Prop where
 le:ρ.le ρ'
 size:w.heap.size<=w'.heap.size
 keeps:∀k,k < w.heap.size->(∀e,e∈H.ents->∀l,ρ e.1=some l->l.cb≠k)->w'.heap[k]? = w.heap[k]?
 rows:∀e',e'∈H'.ents->∀l',ρ' e'.1=some l'->(∃e,e∈H.ents/\∃l,ρ e.1=some l/\l.cb=l'.cb)\/w.heap.size<=l'.cb
 num:H.n<=H'.n
 low:∀b,b < H.n->ρ' b=ρ b
 cold:∀k,ρ'.B k->ρ.B k\/(∃e,e∈H.ents/\∃l,ρ e.1=some l/\l.cb=k)\/w.heap.size<=k
theorem Step.trans{ρ ρ' ρ'':Place} {H H' H'':Heap} {w w' w'':World} (h:Step ρ H w ρ' H' w') (k:Step ρ' H' w' ρ'' H'' w''):Step ρ H w ρ'' H'' w'' where
 le:=Place.le_trans h.le k.le
 size:=j6 h.size k.size
 num:=j6 h.num k.num
 low:=fun b hb=>(k.low b (jI hb h.num)).trans (h.low b hb)
 cold:=fun j hj=>by
  rcases k.cold j hj with h1|⟨e,he,l,hl,hlj⟩|hge
  ·exact h.cold j h1
  ·rcases h.rows e he l hl with⟨e0,he0,l0,hl0,hcb⟩|hge
   ·exact .inr (.inl ⟨e0,he0,l0,hl0,hcb.trans hlj⟩)
   ·exact .inr (.inr (by rw[<- hlj];exact hge))
  ·exact .inr (.inr (j6 h.size hge))
 keeps:=fun j hj hn=>by
  rw[k.keeps j (jI hj h.size) (fun e he l hl hlj=>?_),h.keeps j hj hn];rcases h.rows e he l hl with⟨e0,he0,l0,hl0,hcb⟩|hge
  ·exact hn e0 he0 l0 hl0 (by rw[hcb,hlj])
  ·omega
 rows:=fun e he l hl=>by
  rcases k.rows e he l hl with⟨e1,he1,l1,hl1,hcb⟩|hge
  ·rcases h.rows e1 he1 l1 hl1 with⟨e0,he0,l0,hl0,hcb0⟩|hge
   ·exact .inl ⟨e0,he0,l0,hl0,by rw[hcb0,hcb]⟩
   ·exact .inr (by rw[<- hcb];exact hge)
  ·exact .inr (j6 h.size hge)
theorem Step.of_sub{ρ:Place} {H H':Heap} {w:World} (hs:∀e,e∈H'.ents->e∈H.ents) (hn:H.n<=H'.n):Step ρ H w ρ H' w where
 le:=Place.le_refl _
 size:=ja _
 num:=hn
 low:=fun _ _=>rfl
 cold:=fun _ h=>.inl h
 keeps:=fun _ _ _=>rfl
 rows:=fun e he l h=>.inl ⟨e,hs e he,l,h,rfl⟩
theorem Sim.of_sub{ρ:Place} {H H':Heap} {w:World} (s:Sim ρ H w) (hs:∀e,e∈H'.ents->e∈H.ents) (hn:H.n<=H'.n) (hd:(H'.ents.map (·.1)).Nodup):Sim ρ H' w where
 base:=s.base
 below:=s.below
 os:=s.os
 tape:=s.tape
 output:=s.output
 dom:=fun b hb=>s.dom b (j6 hn hb)
 nodup:=hd
 live:=fun e he=>s.live e (hs e he)
 inj:=fun e e' he he'=>s.inj e e' (hs e he) (hs e' he')
theorem Step.refl(ρ:Place) (H:Heap) (w:World):Step ρ H w ρ H w:=.of_sub (fun _ h=>h) (ja _)
theorem Sim.drew{ρ:Place} {H:Heap} {w:World} (s:Sim ρ H w):Sim ρ H w.drew where
 base:=s.base
 below:=s.below
 os:=s.os
 tape:=s.tape
 output:=s.output
 dom:=s.dom
 nodup:=s.nodup
 live:=fun e he=>let ⟨l,h1,h2,h3,h4⟩:=s.live e he;⟨l,h1,h2,h3,h4.same rfl⟩
 inj:=s.inj
theorem Step.drew(ρ:Place) (H:Heap) (w:World):Step ρ H w ρ H w.drew where
 le:=Place.le_refl _
 size:=ja _
 num:=ja _
 low:=fun _ _=>rfl
 cold:=fun _ h=>.inl h
 keeps:=fun _ _ _=>rfl
 rows:=fun e he l h=>.inl ⟨e,he,l,h,rfl⟩
theorem qx7{b:Nat} {k:Blk}:∀{f:List (Nat × Blk)},getF b f=some k->(b,k)∈f
 |[],h=>by simp[getF]at h
 |x::r,h=>by
  unfold getF at h;split at h
  next hb=>have hb':x.1=b:=Nat.eq_of_beq_eq_true hb;simp only[sj]at h;subst hb';subst h;exact j8
  ·exact ji _ (qx7 h)
theorem qty{b:Nat} {k:Blk}:∀{fs:List (List (Nat × Blk))},getFs b fs=some k->(b,k)∈fs.flatten
 |[],h=>by simp[getFs]at h
 |f::r,h=>by
  unfold getFs at h;rw[jq,je];split at h
  next x hx=>simp only[sj]at h;subst h;exact .inl (qx7 hx)
  ·exact .inr (qty h)
theorem Heap.get_mem{H:Heap} {b:Nat} {k:Blk} (h:H.get b=some k):(b,k)∈H.ents:=qty h
theorem qya(x:Nat × Blk) (fs:List (List (Nat × Blk))):(pushF x fs).flatten=x::fs.flatten:=by cases fs<;>simp[pushF]
theorem Heap.new_ents(H:Heap) (k:Blk):(H.new k).ents=(H.n,k)::H.ents:=qya _ _
theorem Sim.id_lt{ρ:Place} {H:Heap} {w:World} (s:Sim ρ H w) {e:Nat × Blk} (he:e∈H.ents):e.1 < H.n:=by
 obtain⟨l,hl,_⟩:=s.live e he;rcases jF e.1 H.n with h|h
 ·exact h
 ·rw[s.dom _ h]at hl;cases hl
theorem Sim.alloc{ρ:Place} {H:Heap} {w:World} (s:Sim ρ H w) (o:Obj) (fin:Nat) (b:Nat) (k:Blk) (H':Heap)
  (hb:ρ b=none) (hb0:H.n<=b) (hbn:b < H'.n) (hn:H.n<=H'.n) (he:H'.ents=(b,k)::H.ents)
  (hk:BlkR (ρ.upd b ⟨w.heap.size,0,fin⟩) (w.alloc o) ⟨w.heap.size,0,fin⟩ k) :
  Sim (ρ.upd b ⟨w.heap.size,0,fin⟩) H' (w.alloc o)/\Step ρ H w (ρ.upd b ⟨w.heap.size,0,fin⟩) H' (w.alloc o):=by
 have hle:ρ.le (ρ.upd b ⟨w.heap.size,0,fin⟩):=Place.le_upd hb;have hne:∀e,e∈H.ents->e.1≠b:=fun e hm hx=>by obtain⟨l,hl,_⟩:=s.live e hm;rw[hx,hb]at hl;cases hl
 have hcell:∀k,k < w.heap.size->(w.alloc o).heap[k]? = w.heap[k]?:=fun k hk=>Below.heap_alloc w o k hk;refine⟨⟨?_,?_,s.os,s.tape,s.output,?_,?_,?_,?_⟩,⟨hle,by simp,fun k hk _=>hcell k hk,?_,hn,fun x hx=>Place.upd_other (by omega),fun _ h=>.inl h⟩⟩
 ·intro k hk;have:=s.base k hk;simp;omega
 ·intro k hk;rw[hcell k (s.base k hk)];exact s.below k hk
 ·intro x hx;rw[Place.upd_other (by omega)];exact s.dom x (by omega)
 ·rw[he,List.map_cons,jp];refine⟨fun hm=>?_,s.nodup⟩;obtain⟨e,hem,hex⟩:=jw.1 hm;exact hne e hem hex
 ·intro e hem;rw[he]at hem;rcases jd.1 hem with rfl|hem
  ·exact⟨_,Place.upd_same,fun hx=>absurd (s.base _ hx) (Jr _),by simp,hk⟩
  ·obtain⟨l,h1,h2,h3,h4⟩:=s.live e hem;exact⟨l,hle _ _ h1,h2,by simp;omega,(h4.same (hcell _ h3)).mono hle⟩
 ·intro e e' h1 h2 l l' hl hl' hcb;rw[he]at h1 h2;rcases jd.1 h1 with rfl|h1<;>rcases jd.1 h2 with rfl|h2
  ·rfl
  ·rw[Place.upd_same]at hl;cases hl;rw[Place.upd_other (hne e' h2)]at hl';obtain⟨m,hm,_,hlt,_⟩:=s.live e' h2;rw[hm]at hl';cases hl';simp at hcb;omega
  ·rw[Place.upd_same]at hl';cases hl';rw[Place.upd_other (hne e h1)]at hl;obtain⟨m,hm,_,hlt,_⟩:=s.live e h1;rw[hm]at hl;cases hl;simp at hcb;omega
  ·rw[Place.upd_other (hne e h1)]at hl;rw[Place.upd_other (hne e' h2)]at hl';exact s.inj e e' h1 h2 l l' hl hl' hcb
 ·intro e' h1 l' hl';rw[he]at h1;rcases jd.1 h1 with rfl|h1
  ·rw[Place.upd_same]at hl';cases hl';exact .inr (ja _)
  ·rw[Place.upd_other (hne e' h1)]at hl';exact .inl ⟨e',h1,l',hl',rfl⟩
theorem Sim.new{ρ:Place} {H:Heap} {w:World} (s:Sim ρ H w) (o:Obj) (fin:Nat) (k:Blk)
  (hk:BlkR (ρ.upd H.n ⟨w.heap.size,0,fin⟩) (w.alloc o) ⟨w.heap.size,0,fin⟩ k) :
  Sim (ρ.upd H.n ⟨w.heap.size,0,fin⟩) (H.new k) (w.alloc o)/\Step ρ H w (ρ.upd H.n ⟨w.heap.size,0,fin⟩) (H.new k) (w.alloc o):=
 s.alloc o fin H.n k (H.new k) (s.dom _ (ja _)) (ja _) (jT _) (Nat.le_succ _) (H.new_ents k) hk
theorem qwf{b:Nat} {k:Blk}:∀{f f':List (Nat × Blk)},setF b k f=some f'->f'.map (·.1)=f.map (·.1)
 |[],_,h=>by simp[setF]at h
 |x::r,f',h=>by
  unfold setF at h;split at h
  next hb=>simp only[sj]at h;subst h;simp[Nat.eq_of_beq_eq_true hb]
  ·obtain⟨r',hr,hf⟩:=obs h;simp only[sj]at hf;subst hf;simp[qwf hr]
theorem qwe{b:Nat} {k:Blk}:∀{f f':List (Nat × Blk)},setF b k f=some f'->(b,k)∈f'/\(∃k0,(b,k0)∈f)/\∀e,e∈f'->e=(b,k)\/e∈f
 |[],_,h=>by simp[setF]at h
 |x::r,f',h=>by
  unfold setF at h;split at h
  ·rename_i hb;simp only[sj]at h;subst h;refine⟨j8,⟨x.2,?_⟩,fun e he=>?_⟩
   ·rw[<- Nat.eq_of_beq_eq_true hb];exact j8
   ·rcases jd.1 he with rfl|he
    ·exact .inl rfl
    ·exact .inr (ji _ he)
  ·obtain⟨r',hr,hf⟩:=obs h;simp only[sj]at hf;subst hf;obtain⟨h1,⟨k0,h2⟩,h3⟩:=qwe hr;refine⟨ji _ h1,⟨k0,ji _ h2⟩,fun e he=>?_⟩;rcases jd.1 he with rfl|he
   ·exact .inr j8
   ·rcases h3 e he with h|h
    ·exact .inl h
    ·exact .inr (ji _ h)
theorem qq4{b:Nat} {k:Blk}:∀{fs fs':List (List (Nat × Blk))},setFs b k fs=some fs' ->
  fs'.flatten.map (·.1)=fs.flatten.map (·.1)/\(b,k)∈fs'.flatten/\(∃k0,(b,k0)∈fs.flatten)/\∀e,e∈fs'.flatten->e=(b,k)\/e∈fs.flatten
 |[],_,h=>by simp[setFs]at h
 |f::r,fs',h=>by
  unfold setFs at h;split at h
  ·rename_i f' hf;simp only[sj]at h;subst h;obtain⟨h1,⟨k0,h2⟩,h3⟩:=qwe hf;simp only[jq,j5,qwf hf,je,yc];refine⟨.inl h1,⟨k0,.inl h2⟩,fun e he=>?_⟩;rcases he with he|he
   ·rcases h3 e he with h|h
    ·exact .inl h
    ·exact .inr (.inl h)
   ·exact .inr (.inr he)
  ·obtain⟨r',hr,hf⟩:=obs h;simp only[sj]at hf;subst hf;obtain⟨h0,h1,⟨k0,h2⟩,h3⟩:=qq4 hr;simp only[jq,j5,h0,je,yc];refine⟨.inr h1,⟨k0,.inr h2⟩,fun e he=>?_⟩;rcases he with he|he
   ·exact .inr (.inl he)
   ·rcases h3 e he with h|h
    ·exact .inl h
    ·exact .inr (.inr h)
theorem qyf{l:List (Nat × Blk)} (hd:(l.map (·.1)).Nodup) {b:Nat} {k k':Blk} (h:(b,k)∈l) (h':(b,k')∈l):k=k':=by
 induction l with
 |nil=>cases h
 |cons x r ih=>
  rw[List.map_cons,jp]at hd;rcases jd.1 h with rfl|h1<;>rcases jd.1 h' with h2|h2
  ·cases h2;rfl
  ·exact absurd (jw.2 ⟨_,h2,rfl⟩) hd.1
  ·subst h2;exact absurd (jw.2 ⟨_,h1,rfl⟩) hd.1
  ·exact ih hd.2 h1 h2
theorem qmc{b:Nat} {k:Blk}:∀{f:List (Nat × Blk)},getF b f=some k->f.Perm ((b,k)::killF b f)
 |[],h=>by simp[getF]at h
 |x::r,h=>by
  unfold getF at h;unfold killF;split at h
  next hb=>simp only[sj]at h;subst h;rw[<- Nat.eq_of_beq_eq_true hb]
  ·exact((qmc h).cons x).trans (List.Perm.swap _ _ _)
theorem qos(b:Nat):∀(f:List (Nat × Blk)),(killF b f).Sublist f
 |[]=>ym _
 |x::r=>by
  unfold killF;split
  ·exact yA x r
  ·exact(qos b r).cons_cons x
theorem qqc(b:Nat):∀(fs:List (List (Nat × Blk))),(qg0 b fs).flatten.Sublist fs.flatten
 |[]=>ym _
 |f::r=>by
  unfold qg0;split
  ·simp only[jq];exact(qos b f).append (ym _)
  ·simp only[jq];exact(ym _).append (qqc b r)
theorem qjr:∀(n:Nat) (todo:List Nat) (f acc:List (Nat × Blk)),((qgv n todo f acc).1++(qgv n todo f acc).2).Perm (acc++f)
 |0,_,_,_=>Ji _
 |n+1,todo,f,acc=>by
  unfold qgv;split
  ·exact Ji _
  ·split
   ·exact Ji _
   ·split
    ·exact qjr n _ _ _
    next k hk=>refine(qjr n _ _ _).trans ?_;refine List.Perm.trans ?_ ((qmc hk).symm.append_left acc);simp only[List.cons_append];exact yO.symm
theorem qmu(b:Nat):∀(roots:List Nat) (carry:List (Nat × Blk)) (fs:List (List (Nat × Blk))),(qd3 b roots carry fs).flatten.Perm (carry++fs.flatten)
 |_,carry,[]=>by simp[qd3]
 |roots,carry,f::r=>by
  unfold qd3;split
  ·simp only[jq,List.append_assoc];exact Ji _
  ·generalize hx:qgv 100000 roots f []=x;obtain⟨ex,rest⟩:=x;have hp:=qjr 100000 roots f [];rw[hx]at hp;simp only[jv]at hp;simp only[jq];refine((qmu b _ (ex++carry) r).append_left rest).trans ?_;have h1:(rest++(ex++carry++r.flatten)).Perm ((rest++ex)++(carry++r.flatten)):=(by simp only[List.append_assoc];exact Ji _);refine h1.trans ?_;refine((List.perm_append_comm.trans hp).append_right _).trans ?_;rw[<- List.append_assoc,<- List.append_assoc];exact List.perm_append_comm.append_right _
theorem qy5(H:Heap) (b:Nat) (vs:List AV):(H.ready b vs).ents.Perm H.ents:=by
 unfold Heap.ready;split
 ·exact Ji _
 ·exact qmu b _ [] H.fs
theorem ready_n(H:Heap) (b:Nat) (vs:List AV):(H.ready b vs).n=H.n:=by unfold Heap.ready;split<;>rfl
theorem qk6{l l':List (Nat × Blk)} (h:l.Perm l') (hd:(l'.map (·.1)).Nodup):(l.map (·.1)).Nodup:=(h.map _).nodup_iff.2 hd
theorem qgw{l l':List (Nat × Blk)} (h:l.Sublist l') (hd:(l'.map (·.1)).Nodup):(l.map (·.1)).Nodup:=(h.map _).nodup hd
theorem qq8(l:List (Nat × Blk)) (fs:List (List (Nat × Blk))):(qap l fs).flatten=l++fs.flatten:=by cases fs<;>simp[qap]
theorem Sim.pop{ρ:Place} {H:Heap} {w:World} (s:Sim ρ H w) (v:AV):Sim ρ (qte v H) w/\Step ρ H w ρ (qte v H) w:=by
 unfold qte;split
 ·exact⟨s,.refl _ _ _⟩
 ·rename_i f r hfs;have he:H.ents=f++r.flatten:=by simp[Heap.ents,hfs]
  split
  ·have hs:∀e,e∈Heap.ents ⟨H.n,r⟩->e∈H.ents:=fun e h=>(by rw[he];exact je.2 (.inr h));refine⟨s.of_sub hs (ja _) (qgw (l':=H.ents) ?_ s.nodup),.of_sub hs (ja _)⟩;rw[he];exact List.sublist_append_right _ _
  ·rename_i b bs _;have hp:=qjr 100000 (b::bs) f [];generalize qgv 100000 (b::bs) f []=x at hp;obtain⟨ex,rest⟩:=x;simp only[jv]at hp;have hx:Heap.ents ⟨H.n,qap ex r⟩=ex++r.flatten:=qq8 _ _;have hs:∀e,e∈Heap.ents ⟨H.n,qap ex r⟩->e∈H.ents:=fun e h=>by
    rw[hx]at h;rw[he];rcases je.1 h with h|h
    ·exact je.2 (.inl (hp.mem_iff.1 (je.2 (.inl h))))
    ·exact je.2 (.inr h)
   refine⟨s.of_sub hs (ja _) ?_,.of_sub hs (ja _)⟩;have hd:(((ex++rest)++r.flatten).map (·.1)).Nodup:=qk6 (hp.append_right _) (he ▸ s.nodup);rw[hx];refine qgw ?_ hd;exact(List.sublist_append_left ex rest).append (ym _)
theorem Sim.killed{ρ:Place} {H:Heap} {w:World} (s:Sim ρ H w) (b:Nat):Sim ρ (H.kill b) w/\Step ρ H w ρ (H.kill b) w:=by
 unfold Heap.kill;split
 ·exact⟨s,.refl _ _ _⟩
 ·rename_i f r hfs;have hx:(Heap.ents ⟨H.n,killF b f::r⟩).Sublist H.ents:=by simp only[Heap.ents,hfs,jq];exact(qos b f).append (ym _)
  exact⟨s.of_sub (fun e h=>hx.subset h) (ja _) (qgw hx s.nodup),.of_sub (fun e h=>hx.subset h) (ja _)⟩
theorem Sim.dropped{ρ:Place} {H:Heap} {w:World} (s:Sim ρ H w) (b:Nat):Sim ρ (H.drop b) w/\Step ρ H w ρ (H.drop b) w:=by have hx:(H.drop b).ents.Sublist H.ents:=qqc b H.fs;exact⟨s.of_sub (fun e h=>hx.subset h) (ja _) (qgw hx s.nodup),.of_sub (fun e h=>hx.subset h) (ja _)⟩
theorem Sim.opened{ρ:Place} {H:Heap} {w:World} (s:Sim ρ H w):Sim ρ ⟨H.n,[]::H.fs⟩ w/\Step ρ H w ρ ⟨H.n,[]::H.fs⟩ w:=
 ⟨s.of_sub (fun _ h=>h) (ja _) s.nodup,.of_sub (fun _ h=>h) (ja _)⟩
theorem Sim.turned{ρ:Place} {H H':Heap} {w w':World} (s:Sim ρ H w) {b:Nat} {k0 k:Blk} {l:Loc} (hb:(b,k0)∈H.ents) (hl:ρ b=some l)
  (hn:H'.n=H.n) (hd:(H'.ents.map (·.1)).Nodup) (hk:(b,k)∈H'.ents) (hs:∀e,e∈H'.ents->e=(b,k)\/e∈H.ents)
  (hsize:w'.heap.size=w.heap.size) (hkeep:∀j,j≠l.cb->w'.heap[j]? = w.heap[j]?) (hos:w'.os=w.os) (ht:w'.tape=w.tape) (ho:w'.output=w.output)
  (hr:BlkR ρ w' l k):Sim ρ H' w'/\Step ρ H w ρ H' w':=by
 have hmem:∀e,e∈H'.ents->e=(b,k)\/(e∈H.ents/\e.1≠b):=fun e he=>by
  rcases hs e he with h|h
  ·exact .inl h
  ·by_cases hx:e.1=b
   ·left;obtain⟨e1,e2⟩:=e;simp only at hx;subst hx;rw[qyf hd he hk]
   ·exact .inr ⟨h,hx⟩
 have hid:∀e,e∈H'.ents->∃e0,e0∈H.ents/\e0.1=e.1:=fun e he=>by
  rcases hmem e he with rfl|⟨h,_⟩
  ·exact⟨_,hb,rfl⟩
  ·exact⟨e,h,rfl⟩
 obtain⟨l0,hl0,hB,hlt,_⟩:=s.live _ hb;rw[hl]at hl0;cases hl0;refine⟨⟨by rw[hsize];exact s.base,?_,hos.trans s.os,ht.trans s.tape,ho.trans s.output,fun x hx=>s.dom x (by omega),hd,?_,?_⟩,⟨Place.le_refl _,by omega,?_,?_,by omega,fun _ _=>rfl,fun _ h=>.inl h⟩⟩
 ·intro j hj;rw[hkeep j (fun hx=>hB (hx ▸ hj))];exact s.below j hj
 ·intro e he;rcases hmem e he with rfl|⟨h,hx⟩
  ·exact⟨l,hl,hB,by omega,hr⟩
  ·obtain⟨m,h1,h2,h3,h4⟩:=s.live e h;refine⟨m,h1,h2,by omega,h4.same (hkeep _ fun hc=>hx ?_)⟩;exact s.inj e (b,k0) h hb m l h1 hl hc
 ·intro e e' he he' m m' hm hm' hc;obtain⟨e0,h0,h0'⟩:=hid e he;obtain⟨e1,h1,h1'⟩:=hid e' he';rw[<- h0',<- h1'];exact s.inj e0 e1 h0 h1 m m' (by rw[h0'];exact hm) (by rw[h1'];exact hm') hc
 ·intro j hj hn';exact hkeep j fun hc=>hn' (b,k0) hb l hl hc.symm
 ·intro e he m hm;obtain⟨e0,h0,h0'⟩:=hid e he;exact .inl ⟨e0,h0,m,by rw[h0'];exact hm,rfl⟩
theorem qkl{b:Nat} {k:Blk}:∀{fs:List (List (Nat × Blk))},getFs b fs=some k->fs.flatten.Perm ((b,k)::(qg0 b fs).flatten)
 |[],h=>by simp[getFs]at h
 |f::r,h=>by
  unfold getFs at h;unfold qg0;split at h
  next x hx=>simp only[sj]at h;subst h;simp only[hx,jq];exact(qmc hx).append_right _
  next hx=>simp only[hx,jq];exact((qkl h).append_left f).trans yO
theorem Sim.regrow{ρ:Place} {H:Heap} {w w':World} (s:Sim ρ H w) {b:Nat} {k0 k:Blk} {l l':Loc} (hb:H.get b=some k0) (hl:ρ b=some l) (hcb:l'.cb=l.cb)
  (hsize:w'.heap.size=w.heap.size) (hkeep:∀j,j≠l.cb->w'.heap[j]? = w.heap[j]?) (hos:w'.os=w.os) (ht:w'.tape=w.tape) (ho:w'.output=w.output)
  (hr:BlkR (ρ.upd H.n l') w' l' k):Sim (ρ.upd H.n l') ((H.drop b).new k) w'/\Step ρ H w (ρ.upd H.n l') ((H.drop b).new k) w':=by
 have hn0:ρ H.n=none:=s.dom _ (ja _);have hle:ρ.le (ρ.upd H.n l'):=Place.le_upd hn0;have hp:H.ents.Perm ((b,k0)::(H.drop b).ents):=qkl hb;have hd:(((b,k0)::(H.drop b).ents).map (·.1)).Nodup:=(hp.map _).nodup_iff.1 s.nodup;rw[List.map_cons,jp]at hd;have hsub:∀e,e∈(H.drop b).ents->e∈H.ents/\e.1≠b:=fun e he=>⟨hp.mem_iff.2 (ji _ he),fun hx=>hd.1 (jw.2 ⟨e,he,hx⟩)⟩;have hbm:(b,k0)∈H.ents:=Heap.get_mem hb;have hne:∀e,e∈H.ents->e.1≠H.n:=fun e he hx=>by obtain⟨m,hm,_⟩:=s.live e he;rw[hx,hn0]at hm;cases hm
 have hents:((H.drop b).new k).ents=(H.n,k)::(H.drop b).ents:=Heap.new_ents _ _;obtain⟨l0,hl0,hB,hlt,_⟩:=s.live _ hbm;rw[hl]at hl0;cases hl0;refine⟨⟨by rw[hsize];exact s.base,fun j hj=>by rw[hkeep j (fun hx=>hB (hx ▸ hj))];exact s.below j hj,hos.trans s.os,ht.trans s.tape,ho.trans s.output,?_,?_,?_,?_⟩,⟨hle,by omega,?_,?_,?_,fun x hx=>Place.upd_other (by omega),fun _ h=>.inl h⟩⟩
 ·intro x hx;have hx':H.n+1<=x:=hx;rw[Place.upd_other (by omega)];exact s.dom x (by omega)
 ·rw[hents,List.map_cons,jp];refine⟨fun hm=>?_,hd.2⟩;obtain⟨e,he,hx⟩:=jw.1 hm;exact hne e (hsub e he).1 hx
 ·intro e he;rw[hents]at he;rcases jd.1 he with rfl|he
  ·exact⟨l',Place.upd_same,by rw[hcb];exact hB,by omega,hr⟩
  ·obtain⟨h1,h2⟩:=hsub e he;obtain⟨m,g1,g2,g3,g4⟩:=s.live e h1;refine⟨m,hle _ _ g1,g2,by omega,(g4.same (hkeep _ fun hc=>h2 ?_)).mono hle⟩;exact s.inj e (b,k0) h1 hbm m l g1 hl hc
 ·intro e e' he he' m m' hm hm' hc;rw[hents]at he he';rcases jd.1 he with rfl|he<;>rcases jd.1 he' with rfl|he'
  ·rfl
  ·rw[Place.upd_same]at hm;cases hm;obtain⟨h1,h2⟩:=hsub e' he';rw[Place.upd_other (hne e' h1)]at hm';exact absurd (s.inj e' (b,k0) h1 hbm m' l hm' hl (by omega)) h2
  ·rw[Place.upd_same]at hm';cases hm';obtain⟨h1,h2⟩:=hsub e he;rw[Place.upd_other (hne e h1)]at hm;exact absurd (s.inj e (b,k0) h1 hbm m l hm hl (by omega)) h2
  ·rw[Place.upd_other (hne e (hsub e he).1)]at hm;rw[Place.upd_other (hne e' (hsub e' he').1)]at hm';exact s.inj e e' (hsub e he).1 (hsub e' he').1 m m' hm hm' hc
 ·intro j hj hnj;exact hkeep j fun hc=>hnj _ hbm l hl hc.symm
 ·intro e he m hm;rw[hents]at he;rcases jd.1 he with rfl|he
  ·rw[Place.upd_same]at hm;cases hm;exact .inl ⟨_,hbm,l,hl,hcb.symm⟩
  ·obtain⟨h1,_⟩:=hsub e he;rw[Place.upd_other (hne e h1)]at hm;exact .inl ⟨e,h1,m,hm,rfl⟩
 ·exact Nat.le_succ _
theorem qnd{H H':Heap} {b:Nat} {k:Blk} {vs:List AV} (h:(H.ready b vs).set b k=some H') (hd:(H.ents.map (·.1)).Nodup) :
  H'.n=H.n/\(H'.ents.map (·.1)).Nodup/\(b,k)∈H'.ents/\(∃k0,(b,k0)∈H.ents)/\∀e,e∈H'.ents->e=(b,k)\/e∈H.ents:=by
 obtain⟨fs,hf,hH⟩:=obs h;simp only[sj]at hH;subst hH;obtain⟨h0,h1,⟨k0,h2⟩,h3⟩:=qq4 hf;have hp:=qy5 H b vs;refine⟨ready_n _ _ _,?_,h1,⟨k0,hp.mem_iff.1 h2⟩,fun e he=>?_⟩
 ·show (fs.flatten.map (·.1)).Nodup;rw[h0];exact qk6 hp hd
 ·rcases h3 e he with h|h
  ·exact .inl h
  ·exact .inr (hp.mem_iff.1 h)
end
theorem qto{α:Type}:∀{vs l l':List α},qin vs l=some l'->vs.length<=l.length/\l'=vs++l.drop vs.length
 |[],l,l',h=>by simp only[qin,sj]at h;subst h;simp
 |v::vs,l,l',h=>by
  unfold qin at h;cases l with
  |nil=>simp at h
  |cons x r=>obtain⟨r',hr,hl⟩:=obs h;simp only[sj]at hl;subst hl;obtain⟨h1,h2⟩:=qto hr;subst h2;simp[h1]
theorem qop{α:Type} {vs:List α}:∀{o:Nat} {l l':List α},qiz vs o l=some l'->o+vs.length<=l.length/\l'=l.take o++vs++l.drop (o+vs.length)
 |0,l,l',h=>by have:=qto (show qin vs l=some l' by cases l<;>simpa[qiz]using h);simpa using this
 |o+1,l,l',h=>by
  unfold qiz at h;cases l with
  |nil=>simp at h
  |cons x r=>obtain⟨r',hr,hl⟩:=obs h;simp only[sj]at hl;subst hl;obtain⟨h1,h2⟩:=qop hr;subst h2;refine⟨by simp;omega,?_⟩;have:o+1+vs.length=(o+vs.length)+1:=(by omega);simp[this]
theorem qq0{α:Type}:∀{n:Nat} {l r:List α},qey n l=some r->n<=l.length/\r=l.take n
 |0,l,r,h=>by cases l<;>simp_all [qey]
 |n+1,l,r,h=>by
  cases l with
  |nil=>simp[qey]at h
  |cons x l=>obtain⟨r',hr,hl⟩:=obs (show (qey n l).bind (fun r'=>some (x::r'))=some r from h);simp only[sj]at hl;subst hl;obtain⟨h1,h2⟩:=qq0 hr;subst h2;simp[h1]
theorem qkz{α:Type} {o n:Nat} {l r:List α} (h:qfe o n l=some r):(n=0\/o+n<=l.length)/\r=(l.drop o).take n:=by obtain⟨h1,h2⟩:=qq0 h;simp at h1;exact⟨by omega,h2⟩
theorem qfg{α:Type}:∀{l:List α} {i:Nat} {x:α},qcb l i=some x->∃h:i < l.length,l[i]=x
 |[],i,x,h=>by simp[qcb]at h
 |y::r,0,x,h=>by simp only[qcb,sj]at h;exact⟨by simp,h⟩
 |y::r,i+1,x,h=>by obtain⟨h1,h2⟩:=qfg (show qcb r i=some x from h);exact⟨by simpa using h1,h2⟩
theorem qgt(b:Nat):∀(vs:List Value) (o:Nat) (w:World),(w.setCells b o vs).heap.size=w.heap.size
 |[],_,_=>rfl
 |v::r,o,w=>by simp only[World.setCells];rw[qgt b r];simp
theorem qgu(b:Nat):∀(vs:List Value) (o:Nat) (w:World) (j:Nat),j≠b->(w.setCells b o vs).heap[j]? = w.heap[j]?
 |[],_,_,_,_=>rfl
 |v::r,o,w,j,h=>by simp only[World.setCells];rw[qgu b r _ _ j h];exact Below.heap_setCell _ _ _ _ h
theorem qd1(b:Nat):∀(vs:List Value) (o:Nat) (w:World),(w.setCells b o vs).os=w.os/\(w.setCells b o vs).tape=w.tape/\(w.setCells b o vs).output=w.output
 |[],_,_=>⟨rfl,rfl,rfl⟩
 |v::r,o,w=>by simp only[World.setCells];exact qd1 b r _ _
theorem qj3(b:Nat):∀(vs:List Value) (o:Nat) (w:World) {c:Array Value} {t:TypeId} {fr:Nat × Nat},w.heap[b]? = some (.cells c t fr) ->
  ∃c',(w.setCells b o vs).heap[b]? = some (.cells c' t fr)/\c'.size=c.size
 |[],_,_,c,_,_,h=>⟨c,h,rfl⟩
 |v::r,o,w,c,t,fr,h=>by
  simp only[World.setCells];have h1:(w.setCell ⟨b,o,none⟩ v).heap[b]? = some (.cells (c.setIfInBounds o v) t fr):=by simp only[World.setCell,Array.getElem?_modify,h];simp
  obtain⟨c',h2,h3⟩:=qj3 b r (o+1) _ h1;exact⟨c',h2,by rw[h3];simp⟩
section
variable {P:Program}
theorem qlr:∀{vs:List AV},allSingle vs=true->∀v,v∈vs->v.single=true
 |[],_,v,h=>by cases h
 |x::r,h,v,hm=>by
  unfold allSingle at h;split at h
  ·rename_i hx;rcases jd.1 hm with rfl|hm
   ·exact hx
   ·exact qlr h v hm
  ·cases h
theorem VRs.oneCell{ρ:Place} {vs:List AV} {xs:List Value} (r:VRs ρ vs xs) (h:allSingle vs=true):∀x,x∈xs->x.oneCell'=true:=by
 intro x hx;obtain⟨i,hi,rfl⟩:=List.mem_iff_getElem.1 hx;have hi':i < vs.length:=by rw[<- r.1];exact hi
 exact(r.2 i hi' hi).oneCell (qlr h _ (jA hi'))
theorem Sim.block{ρ:Place} {H:Heap} {w:World} (s:Sim ρ H w) {b:Nat} {k:Blk} (h:H.get b=some k):∃l,ρ b=some l/\¬ ρ.B l.cb/\l.cb < w.heap.size/\BlkR ρ w l k:=
 s.live (b,k) (Heap.get_mem h)
theorem qnt{ρ:Place} {H H':Heap} {w:World} (s:Sim ρ H w) {b o:Nat} {vs:List AV} {xs:List Value} {l:Loc}
  (h:writeCells H b o vs=some H') (hl:ρ b=some l) (hv:VRs ρ vs xs) (h1:∀x,x∈xs->x.oneCell'=true) :
  (storeCells ⟨l.cb,l.off+o,none⟩ xs).run P w=.ok () (w.setCells l.cb (l.off+o) xs) /\
  Sim ρ H' (w.setCells l.cb (l.off+o) xs)/\Step ρ H w ρ H' (w.setCells l.cb (l.off+o) xs):=by
 obtain⟨k,hk,h⟩:=obs h;obtain⟨cs,hwt,h⟩:=obs h
 ·obtain⟨cs',hlay,hset⟩:=obs h;obtain⟨l',hl',hB,hlt,hr0⟩:=s.block hk;rw[hl]at hl';cases hl';obtain⟨hrd,hfz⟩:=hr0.wtR hwt;have hr:=hr0.rdR hrd;obtain⟨hlen,rfl⟩:=qop hlay;obtain⟨hn,hd,hk',⟨k0,hk0⟩,hs⟩:=qnd hset s.nodup;have hxl:xs.length=vs.length:=hv.1;have hcell:∀j,j < xs.length->(w.cell? ⟨l.cb,l.off+o+j,none⟩).isSome=true:=fun j hj=>hr.2.1 _ (by have:=hr.1;omega);have hin:=World.cell?_setCells_in l.cb xs (l.off+o) w hcell;have hout:=World.cell?_setCells_out l.cb xs (l.off+o) w;have hrun:=run_storeCells_cells (P:=P) l.cb (l.off+o) xs 0 w (by simpa using hcell) (fun j hj=>hfz _ (by have:=hr.1;omega) (by omega)) h1;simp only[yD]at hrun;refine⟨hrun,s.turned hk0 hl hn hd hk' hs (qgt _ _ _ _) (fun j hj=>qgu _ _ _ _ j hj) (qd1 _ _ _ _).1 (qd1 _ _ _ _).2.1 (qd1 _ _ _ _).2.2 ?_⟩;refine hr0.reR hwt (by simp;omega) (fun i hi=>?_) (fun i=>World.frozen?_setCells _ _ _ _ _) (fun c t fr he=>qj3 _ _ _ _ he) fun i hi=>?_
  ·by_cases hi2:l.off+o<=i/\i < l.off+o+xs.length
   ·have:=hin (i - (l.off+o)) (by omega);rw[show l.off+o+(i - (l.off+o))=i by omega]at this;rw[this];rfl
   ·rw[hout ⟨l.cb,i,none⟩ (fun _ _=>by show i < _\/_<=i;omega)];exact hr.2.1 i hi
  ·by_cases hi2:o<=i/\i < o+vs.length
   ·have hin':=hin (i - o) (by omega);rw[show l.off+o+(i - o)=l.off+i by omega]at hin';refine⟨_,hin',?_⟩;have he:(List.take o cs++vs++List.drop (o+vs.length) cs)[i]=vs[i - o]'(by omega):=(by rw[yb (by simp;omega),jB (by simp;omega)];congr 1;simp;omega);rw[he];exact hv.2 _ _ _
   ·have hlc:i < cs.length:=(by simp at hi;omega);obtain⟨x,hx,hxv⟩:=hr.2.2 i hlc;refine⟨x,by rw[hout ⟨l.cb,l.off+i,none⟩ (fun _ _=>by show l.off+i < _\/_<=l.off+i;omega)];exact hx,?_⟩;have he:(List.take o cs++vs++List.drop (o+vs.length) cs)[i]=cs[i]:=by
     by_cases h3:i < o
     ·rw[yb (by simp;omega),yb (by simp;omega)];simp
     ·rw[jB (by simp;omega)];simp only[js,jL,jU];congr 1;omega
    rw[he];exact hxv
theorem qez{ρ:Place} {H:Heap} {w:World} (s:Sim ρ H w) {b o n:Nat} {r:List AV} {l:Loc} (h:readCells H b o n=some r) (hl:ρ b=some l) :
  ∃xs:List Value,VRs ρ r xs/\r.length=n/\∀j v,xs[j]? = some v->w.cell? ⟨l.cb,l.off+o+j,none⟩=some v:=by
 obtain⟨k,hk,h⟩:=obs h;obtain⟨cs,hrd,h⟩:=obs h
 ·obtain⟨l',hl',hB,hlt,hr0⟩:=s.block hk;rw[hl]at hl';cases hl';have hr:=hr0.rdR hrd;obtain⟨hn,rfl⟩:=qkz h;have hch:∀i (hi:i < cs.length),w.cell? ⟨l.cb,l.off+i,none⟩=some ((w.cell? ⟨l.cb,l.off+i,none⟩).getD undef)/\VR ρ cs[i] ((w.cell? ⟨l.cb,l.off+i,none⟩).getD undef):=fun i hi=>by obtain⟨x,hx,hv⟩:=hr.2.2 i hi;rw[hx];exact⟨rfl,hv⟩
  refine⟨(List.range n).map fun j=>(w.cell? ⟨l.cb,l.off+o+j,none⟩).getD undef,⟨by simp;omega,fun i hi hi'=>?_⟩,by simp;omega,fun j v hj=>?_⟩
  ·have hi2:o+i < cs.length:=(by simp at hi;omega);simp only[Jb,Jo,ye,jU];have:=(hch (o+i) hi2).2
   rwa [<- Nat.add_assoc]at this
  ·simp only[List.getElem?_map,Option.map_eq_some_iff]at hj;obtain⟨a,ha,rfl⟩:=hj;obtain⟨hlt',rfl⟩:=List.getElem?_eq_some_iff.1 ha;simp only[Jo];simp at hlt';have:=(hch (o+j) (by omega)).1
   rwa [<- Nat.add_assoc]at this
end
theorem qax{a b:Nat} (h:a≠b):Nat.beq a b=false:=by
 cases hb:Nat.beq a b
 ·rfl
 ·exact absurd (Nat.eq_of_beq_eq_true hb) h
section
variable {P:Program} {ρ:Place}
theorem VR.const1(v:Value):VR ρ (ofV1 v) v:=by unfold ofV1;split<;>first|exact .undef _|(rename_i s;exact .str s.data.toList)|constructor
theorem VR.const(v:Value):VR ρ (ofV v) v:=by
 unfold ofV;split
 next cs=>exact .agg _ _ (by simp) fun i h h'=>by simpa using VR.const1 _
 ·exact VR.const1 _
theorem VRs.const(v:Value):VRs ρ (ofV v).cells v.cells.toList:=by
 unfold ofV;split
 next cs=>exact⟨by simp[AV.cells,Value.cells],fun i h h'=>by simpa[AV.cells,Value.cells]using VR.const1 _⟩
 ·rename_i hx;have hc:v.cells = #[v]:=by cases v<;>first|rfl|exact absurd rfl (hx _)
  have hc':(ofV1 v).cells=[ofV1 v]:=by unfold ofV1;split<;>rfl
  rw[hc,hc'];exact .cons (VR.const1 v) .nil
theorem qfp{t:TypeId} {z:AV} (h:qby P t=some z):∃v,z=ofV v/\(∀w,(zeroValue t).run P w=.ok v w)/\∃i,P.info? t=some i/\i.zero=some v:=by obtain⟨i,hi,h⟩:=obs h;obtain⟨v,hv,h⟩:=obs h;simp only[sj]at h;exact⟨v,h.symm,fun w=>by simp[zeroValue,typeInfo,hi,hv],i,hi,hv⟩
theorem qq3{t:TypeId} {n:Nat} (h:qcj P t=some n):∃i,P.info? t=some i/\i.size=n:=by obtain⟨i,hi,h⟩:=obs h;simp only[sj]at h;exact⟨i,hi,h⟩
theorem qdq{t:TypeId} {n:Nat} (h:qcj P t=some n) (w:World):(sizeOf t).run P w=.ok n w:=by obtain⟨i,hi,rfl⟩:=qq3 h;simp[sizeOf,typeInfo,hi]
theorem qmp{t:TypeId} {n:Nat} (h:qch P t=some n):∃i,(∀w,(typeInfo t).run P w=.ok i w)/\i.bytes=n:=by obtain⟨i,hi,h⟩:=obs h;simp only[sj]at h;exact⟨i,fun w=>by simp[typeInfo,hi],h⟩
theorem qsn{t:TypeId} {b:Bool} (h:qh4 P t=some b) (w:World):(isAgg t).run P w=.ok b w:=by obtain⟨d,hd,h⟩:=obs h;simp only[isAgg,jY,jk hd,jN];cases d<;>simp at h<;>subst h<;>rfl
structure EnvR (ρ:Place) (s:St) (a:Act):Prop where
 size:s.sz=a.tmps.size
 val:∀t v,s.get t=some v->VR ρ v (a.tmps.getD t undef)
theorem EnvR.mono{ρ':Place} (h:ρ.le ρ') {s:St} {a:Act} (e:EnvR ρ s a):EnvR ρ' s a:=⟨e.size,fun t v g=>(e.val t v g).mono h⟩
theorem EnvR.heap{s:St} {a:Act} (e:EnvR ρ s a) (H:Heap):EnvR ρ { s with H:=H } a:=⟨e.size,e.val⟩
theorem qwp{t:Nat} {v:AV}:∀{ks:List Nat} {vs vs':List AV},qup t v ks vs=some vs'->∀u,qgl u ks vs'=if u=t then some v else qgl u ks vs
 |[],_,_,h,_=>by simp[qtc,putK_n]at h
 |k::ks,vs,vs',h,u=>by
  rw[qtc]at h;cases vs with
  |nil=>simp at h
  |cons x r=>
   simp only at h;split at h
   ·rename_i hk;have hk':=Nat.eq_of_beq_eq_true hk;simp only[sj]at h;subst h;rw[qe3,qe3];by_cases hu:u=t
    ·subst hu;simp[hk]
    ·have:Nat.beq k u=false:=qax (by rw[hk'];exact fun e=>hu e.symm);simp[this,hu]
   ·rename_i hk;obtain⟨r',hr,hv⟩:=obs h;simp only[sj]at hv;subst hv;have ih:=qwp hr u;rw[qe3,qe3];by_cases hu:u=t
    ·subst hu;simp only[hk];rw[ih];simp
    ·cases hku:Nat.beq k u with
     |true=>simp[hu]
     |false=>simp only;rw[ih]
theorem qtb{t:Nat} {v:AV}:∀{ks:List Nat} {vs:List AV},qup t v ks vs=none->qgl t ks vs=none
 |[],_,_=>by simp[qe3,qjb]
 |k::ks,vs,h=>by
  rw[qtc]at h;rw[qe3];cases vs with
  |nil=>rfl
  |cons x r=>
   simp only at h;split at h
   ·simp at h
   ·rename_i hk;simp only;refine qtb (v:=v) ?_;cases hp:qup t v ks r with
    |none=>rfl
    |some r'=>rw[hp]at h;simp at h
theorem St.set_get{s s':St} {t:Nat} {v:AV} (h:s.set t v=some s'):t < s.sz/\s'.sz=s.sz/\s'.H=s.H/\s'.ks=s.ks/\∀u,s'.get u=if u=t then some v else s.get u:=by
 obtain⟨ks,vs0,ts,sz,H⟩:=s;simp only[St.set]at h;split at h
 ·rename_i hlt;have hlt':t < sz:=jG hlt;split at h
  ·rename_i vs hp;simp only[sj]at h;subst h;refine⟨hlt',rfl,rfl,rfl,fun u=>?_⟩;simp only[St.get];rw[qwp hp u];by_cases hu:u=t
   ·simp[hu]
   ·simp[hu]
  ·rename_i hp;simp only[sj]at h;subst h;refine⟨hlt',rfl,rfl,rfl,fun u=>?_⟩;simp only[St.get];by_cases hu:u=t
   ·subst hu;rw[qtb hp];simp[qhv,qmw]
   ·have:Nat.beq t u=false:=qax fun e=>hu e.symm;simp[hu,qhv,this]
 ·simp at h
theorem EnvR.set{s s':St} {a:Act} {t:Nat} {v:AV} {x:Value} (e:EnvR ρ s a) (h:s.set t v=some s') (hv:VR ρ v x):EnvR ρ s' { a with tmps:=a.tmps.setIfInBounds t x }:=by
 obtain⟨h1,h2,_,_,h5⟩:=St.set_get h;refine⟨by simp[h2,e.size],fun u y hu=>?_⟩;rw[h5]at hu;simp only[Array.getD_eq_getD_getElem?,Array.getElem?_setIfInBounds];by_cases hut:u=t
 ·subst hut;simp only[jQ,sj]at hu;subst hu;have:u < a.tmps.size:=by rw[<- e.size];exact h1
  simp[this,hv]
 ·simp only[hut,jM]at hu;have:=e.val u y hu;rw[jm (fun e=>hut e.symm)];simpa[Array.getD_eq_getD_getElem?]using this
theorem EnvR.put{s s':St} {a:Act} {d:Option Tmp} {v:AV} {x:Value} (e:EnvR ρ s a) (h:s.put d v=some s') (hv:VR ρ v x):EnvR ρ s' (a.put d x):=by
 cases d with
 |none=>simp only[St.put,sj]at h;subst h;exact e
 |some t=>exact e.set h hv
theorem St.put_heap{s s':St} {d:Option Tmp} {v:AV} (h:s.put d v=some s'):s'.H=s.H:=by
 cases d with
 |none=>simp only[St.put,sj]at h;subst h;rfl
 |some t=>exact(St.set_get h).2.2.1
theorem qbk{s:St} {a:Act} (e:EnvR ρ s a) {x:Operand} {v:AV} (h:qc5 s x=some v):VR ρ v (a.eval x):=by
 cases x with
 |tmp t=>exact e.val t v h
 |const c=>simp only[qc5,sj]at h;subst h;exact VR.const c
 |global g=>simp[qc5]at h
 |func f=>simp only[qc5,sj]at h;subst h;exact .func _ _ _ _ _ rfl rfl (fun i h=>absurd h (j3 i)) (fun i h=>absurd h (j3 i))
theorem qth{s:St} {a:Act} (e:EnvR ρ s a):∀{xs:List Operand} {vs:List AV},qfy s xs=some vs->VRs ρ vs (xs.map a.eval)
 |[],vs,h=>by simp only[qfy,sj]at h;subst h;exact .nil
 |x::r,vs,h=>by obtain⟨v,hv,h⟩:=obs h;obtain⟨us,hu,h⟩:=obs h;simp only[sj]at h;subst h;exact .cons (qbk e hv) (qth e hu)
theorem qof{s:St} {a:Act} (e:EnvR ρ s a):∀{xs:List (Nat × Operand)} {vs:List (Nat × AV)},qi1 s xs=some vs ->
  vs.map (·.1)=xs.map (·.1)/\VRs ρ (vs.map (·.2)) (xs.map fun p=>a.eval p.2)
 |[],vs,h=>by simp only[qi1,sj]at h;subst h;exact⟨rfl,.nil⟩
 |x::r,vs,h=>by obtain⟨v,hv,h⟩:=obs h;obtain⟨us,hu,h⟩:=obs h;simp only[sj]at h;subst h;obtain⟨h1,h2⟩:=qof e hu;exact⟨by simp[h1],.cons (qbk e hv) h2⟩
def Good(ρ:Place) (H:Heap) (w:World) (r:Result Value) (v:AV) (H':Heap):Prop:=
 ∃x ρ' w',r=.ok x w'/\VR ρ' v x/\Sim ρ' H' w'/\Step ρ H w ρ' H' w'
theorem Good.pure{H:Heap} {w:World} {v:AV} {x:Value} {r:Result Value} (s:Sim ρ H w) (hv:VR ρ v x) (hr:r=.ok x w):Good ρ H w r v H:=
 ⟨x,ρ,w,hr,hv,s,.refl _ _ _⟩
theorem qsg{w:World} {cs:List AV} {c:Array Value} {t:TypeId} {fr:Nat × Nat} {n:Nat} (hn:cs.length<=c.size) (hv:∀i (h:i < cs.length) (h':i < c.size),VR (ρ.upd n ⟨w.heap.size,0,c.size⟩) cs[i] c[i])
  (hf:∀i,i < c.size->(decide (fr.1<=i) && decide (i < fr.2))=false) :
  BlkR (ρ.upd n ⟨w.heap.size,0,c.size⟩) (w.alloc (.cells c t fr)) ⟨w.heap.size,0,c.size⟩ (.cells cs):=by
 have hh:(w.alloc (.cells c t fr)).heap[w.heap.size]? = some (.cells c t fr):=by show (w.heap.push _)[w.heap.size]? = _;simp
 refine⟨by simpa using hn,fun i hi=>⟨?_,?_⟩,fun i hi=>⟨c[i]'(by omega),?_,hv i hi (by omega)⟩⟩
 ·have:i < c.size:=hi;simp only[World.cell?,hh];simp[this]
 ·simp only[World.frozen?,hh];exact hf i hi
 ·have:i < c.size:=by omega
  simp only[World.cell?,hh];simp[this]
end
theorem qgq(b o n:Nat):(⟨b,o,none⟩ : Addr).add n=⟨b,o+n,none⟩:=by unfold Addr.add;split<;>simp_all
section
variable {P:Program} {ρ:Place} {H H':Heap} {w:World}
theorem Sim.cellW(s:Sim ρ H w) {a:Addr} (h:ρ.B a.block):w.cell? a=ρ.W.cell? a:=by simp only[World.cell?,s.below _ h]
theorem qo9(s:Sim ρ H w) {t:TypeId} {p v:AV} {x:Value} (h:qb2 P H t p=some v) (hp:VR ρ p x) :
  ∃y,(Instr.loadAt t x).run P w=.ok y w/\VR ρ v y:=by
 replace h:=obs h;obtain⟨ag,hag,h⟩:=h;replace h:=obs h;obtain⟨n,hn,h⟩:=h;have hAg:=qsn hag w;have hN:=qdq hn w;cases ag with
 |true=>
  cases hp with
  |ptr b o l hl=>replace h:=obs h;obtain⟨cs,hcs,h⟩:=h;simp only[sj]at h;subst h;obtain⟨xs,hv,hlen,hc⟩:=qez s hcs hl;have hrun:=run_loadCells_list (P:=P) w ⟨l.cb,l.off+o,none⟩ xs (fun j y hj=>by rw[qgq];exact hc j y hj);rw[hv.1,hlen]at hrun;refine⟨.agg xs.toArray,?_,.agg _ _ (by simp[hv.1]) fun i h1 h2=>by simpa using hv.2 i h1 (by simpa using h2)⟩;simp[Instr.loadAt,Instr.sureAddr,loadVar,hAg,hN,hrun]
  |fptr cs o cb off vs hB hc hv=>replace h:=obs h;obtain⟨r,hr,h⟩:=h;simp only[sj]at h;subst h;obtain⟨hlen,rfl⟩:=qkz hr;have hrun:=run_loadCells (P:=P) w ⟨cb,off+o,none⟩ n (fun j=>vs (o+j)) (fun j hj=>by rw[qgq,s.cellW (a:=⟨cb,_,none⟩) hB,Nat.add_assoc];exact hc (o+j) (by omega));refine⟨_,by simp only[Instr.loadAt,Instr.sureAddr,loadVar,jY,yV,jN,hAg,hN,hrun,jQ];rfl,.agg _ _ (by simp;omega) fun i h1 h2=>?_⟩;simp only[List.getElem_toArray,Jb,Jo,ye,jU];exact(hv _ (by simp at h1;omega)).mono ρ.bare_le
  |_=>simp at h
 |false=>
  cases hp with
  |ptr b o l hl=>
   replace h:=obs h;obtain⟨k,hk,h⟩:=h;replace h:=obs h;obtain⟨cs,hrd,h⟩:=h
   ·obtain⟨l',hl',_,_,hr0⟩:=s.block hk;rw[hl]at hl';cases hl';have hr:=hr0.rdR hrd;obtain⟨hi,rfl⟩:=qfg h;obtain⟨y,hy,hyv⟩:=hr.2.2 o hi;exact⟨y,by simp[Instr.loadAt,Instr.sureAddr,loadVar,hAg,load,Sem.run,hy],hyv⟩
  |fptr cs o cb off vs hB hc hv=>obtain⟨hi,rfl⟩:=qfg h;refine⟨vs o,?_,(hv o hi).mono ρ.bare_le⟩;have:=hc o hi;rw[<- s.cellW (a:=⟨cb,off+o,none⟩) hB]at this;simp[Instr.loadAt,Instr.sureAddr,loadVar,hAg,load,Sem.run,this]
  |_=>simp at h
theorem qss(s:Sim ρ H w) {t:TypeId} {p v:AV} {x y:Value} (h:writeVar P H t p v=some H') (hp:VR ρ p x) (hv:VR ρ v y) :
  ∃w',(Instr.storeAt t x y).run P w=.ok () w'/\Sim ρ H' w'/\Step ρ H w ρ H' w':=by
 replace h:=obs h;obtain⟨n,hn,h⟩:=h;split at h
 ·rename_i hlen;have hlen:=Nat.eq_of_beq_eq_true hlen;split at h
  ·rename_i hsing;have hcells:VRs ρ v.cells y.cells.toList:=hv.cells (by rintro rfl;simp[AV.cells,allSingle,AV.single]at hsing) (by rintro l rfl;simp[AV.cells,allSingle,AV.single]at hsing);cases hp with
   |ptr b o l hl=>obtain⟨h1,h2,h3⟩:=qnt (P:=P) s h hl hcells (hcells.oneCell hsing);refine⟨_,?_,h2,h3⟩;have hsz:y.cells.size=n:=(by have:=hcells.1;simp at this;omega);simp[Instr.storeAt,Instr.sureAddr,storeVar,qdq hn,hsz,h1]
   |_=>simp at h
  ·simp at h
 ·simp at h
theorem qs6{place:Nat->Option (Nat × Nat)} {place':Nat->Option (Nat × Nat)} (hpl:∀i p,place i=some p->place' i=some p) :
  ∀{parts:List (Nat × AV)} {vals:List (Nat × Value)} {cs cs':List AV} {c:Array Value},fillA place parts cs=some cs'->vals.map (·.1)=parts.map (·.1) ->
   VRs ρ (parts.map (·.2)) (vals.map (·.2))->VRs ρ cs c.toList->∃c',Instr.fill place' c vals=some c'/\VRs ρ cs' c'.toList
 |[],vals,cs,cs',c,h,hi,_,hc=>by
  simp only[fillA,sj]at h;subst h;cases vals with
  |nil=>exact⟨c,rfl,hc⟩
  |cons _ _=>simp at hi
 |x::r,vals,cs,cs',c,h,hi,hv,hc=>by
  cases vals with
  |nil=>simp at hi
  |cons y ys=>
   simp only[List.map_cons,jl]at hi;replace h:=obs h;obtain⟨p,hp,h⟩:=h;split at h
   ·rename_i hlen;have hlen:=Nat.eq_of_beq_eq_true hlen;split at h
    ·rename_i hsing;replace h:=obs h;obtain⟨cs1,hlay,h⟩:=h;have hyc:VRs ρ x.2.cells y.2.cells.toList:=hv.head.cells (by rintro e;simp[e,AV.cells,allSingle,AV.single]at hsing) (by rintro l e;simp[e,AV.cells,allSingle,AV.single]at hsing);obtain⟨h1,rfl⟩:=qop hlay;have hsz:y.2.cells.size=p.2:=(by have:=hyc.1;simp at this;omega);have hcl:c.size=cs.length:=(by simpa using hc.1);have hfold:∀(ys:List Value) (k:Nat) (c:Array Value),p.1+k+ys.length<=c.size ->
       ((ys.zipIdx k).foldl (fun cs (q:Value × Nat)=>cs.setIfInBounds (p.1+q.2) q.1) c).toList=c.toList.take (p.1+k)++ys++c.toList.drop (p.1+k+ys.length):=by
      intro ys;induction ys with
      |nil=>intro k c _;simp
      |cons z zs ih=>
       intro k c hk;simp only[List.zipIdx_cons,yi];simp only[jE]at hk;rw[ih (k+1) _ (by simp;omega)];have hlt:p.1+k < c.toList.length:=(by simp;omega);apply List.ext_getElem?;intro i;simp only[Array.toList_setIfInBounds,List.getElem?_append,js,jL,List.length_set,jE,List.getElem?_take,List.getElem?_drop,List.getElem?_set];have hcl:c.toList.length=c.size:=(by simp);rw[hcl]at hlt ⊢;rw[yC (by omega),yC (by omega)];by_cases h1:i < p.1+k
       ·simp[h1,show i < p.1+(k+1) by omega,show i < p.1+(k+1)+zs.length by omega,show i < p.1+k+(zs.length+1) by omega,show p.1+k≠i by omega]
       ·by_cases h2:i=p.1+k
        ·subst h2;simp[show p.1+k < p.1+(k+1) by omega,show p.1+k < p.1+(k+1)+zs.length by omega,hlt]
        ·by_cases h3:i < p.1+(k+1)+zs.length
         ·simp[h1,h3,show ¬ i < p.1+(k+1) by omega,show i < p.1+k+(zs.length+1) by omega];rw[show i - (p.1+k)=(i - (p.1+(k+1)))+1 by omega];simp
         ·simp[h3,show ¬ i < p.1+k+(zs.length+1) by omega,show p.1+k≠p.1+(k+1)+zs.length+(i - (p.1+(k+1)+zs.length)) by omega];congr 1;omega
     have hfin:=hfold y.2.cells.toList 0 c (by simp;omega);simp only[yD,Array.length_toList]at hfin;generalize hc1:((y.2.cells.toList.zipIdx 0).foldl (fun cs (q:Value × Nat)=>cs.setIfInBounds (p.1+q.2) q.1) c)=c1 at hfin;obtain⟨c',hc',hv'⟩:=qs6 hpl (c:=c1) (vals:=ys) h hi.2 hv.tail (by rw[hfin];have htake:VRs ρ (cs.take p.1) (c.toList.take p.1):=⟨by simp;omega,fun i h1 h2=>by simp only[ye];exact hc.2 i (by simp at h1;omega) (by simp at h2;simp;omega)⟩;have hdrop:VRs ρ (cs.drop (p.1+x.2.cells.length)) (c.toList.drop (p.1+y.2.cells.size)):=(by have:y.2.cells.size=x.2.cells.length:=(by omega);rw[this];exact⟨by simp;omega,fun i h1 h2=>by simp only[jU];exact hc.2 (p.1+x.2.cells.length+i) (by simp at h1;omega) (by simp at h2;simp;omega)⟩);exact(htake.append hyc).append hdrop);refine⟨c',?_,hv'⟩;simp only[Instr.fill,hi.1,hpl _ _ hp];rw[jm (by simp[hsz];omega),<- hc'];congr 1;rw[<- hc1];rw[<- Array.foldl_toList,Array.toList_zipIdx]
    ·simp at h
   ·simp at h
theorem qn0:∀{fs:List Field} {tbl:List (Nat × Nat)},qnp P fs=some tbl->fs.mapM (fun f=>(P.info? f.type).map fun i=>(f.offset,i.size))=some tbl
 |[],tbl,h=>by simp only[qnp,sj]at h;subst h;rfl
 |f::r,tbl,h=>by obtain⟨n,hn,h⟩:=obs h;obtain⟨t,ht,h⟩:=obs h;simp only[sj]at h;subst h;obtain⟨i,hi,rfl⟩:=qq3 hn;simp[List.mapM_cons,hi,qn0 ht]
theorem qoy{α:Type} {l:List α} {i:Nat} {x:α} (h:qcb l i=some x):l[i]? = some x:=by obtain⟨h1,h2⟩:=qfg h;rw[List.getElem?_eq_getElem h1,h2]
theorem zcj{t:TypeId} {parts:List (Nat × AV)} {vals:List (Nat × Value)} {v:AV} (h:qe6 P t parts=some v) (hi:vals.map (·.1)=parts.map (·.1))
  (hv:VRs ρ (parts.map (·.2)) (vals.map (·.2))) (w:World):∃y,(Instr.build t vals.toArray).run P w=.ok y w/\VR ρ v y:=by
 obtain⟨z,hz,h⟩:=obs h;obtain⟨d,hd,h⟩:=obs h;obtain⟨zv,rfl,hzr,it,hit,hiz⟩:=qfp hz;have fin:∀{cs:List AV} {c':Array Value},P.built t vals=some c'->VRs ρ cs c'.toList->∃y,(Instr.build t vals.toArray).run P w=.ok y w/\VR ρ (.agg cs) y:=fun {cs c'} hb hr=>
  ⟨_,run_build w t vals.toArray c' (by simpa using hb),.agg _ _ (by simpa using hr.1) fun i h1 h2=>hr.2 i h1 (by simpa using h2)⟩
 cases d with
 |struct fs=>obtain⟨tbl,ht,h⟩:=obs h;obtain⟨cs,hcs,h⟩:=obs h;simp only[sj]at h;subst h;obtain⟨c',hc',hr⟩:=qs6 (place':=fun i=>tbl[i]?) (fun i p hp=>qoy hp) (vals:=vals) (c:=zv.cells) hcs hi hv (VRs.const zv);exact fin (by simp only[Program.built,hit,hd,hiz,qn0 ht];simpa using hc') hr
 |_=>simp at h
theorem qhr{α:Type} (z:List α):∀n,(replL z n).length=n * z.length
 |0=>by simp[replL]
 |n+1=>by simp[replL,qhr z n,Nat.succ_mul,Nat.add_comm]
theorem qt9{α:Type} (z:List α):∀(n i:Nat) (h:i < (replL z n).length) (h':i % z.length < z.length),(replL z n)[i]=z[i % z.length]
 |0,i,h,_=>by simp[replL]at h
 |n+1,i,h,h'=>by
  simp only[replL];by_cases hi:i < z.length
  ·rw[yb hi];congr 1;exact(Nat.mod_eq_of_lt hi).symm
  ·rw[jB (by omega),qt9 z n (i - z.length) (by simp[replL]at h;omega) (by rw[<- Nat.mod_eq_sub_mod (by omega)];exact h')];congr 1;exact(Nat.mod_eq_sub_mod (by omega)).symm
theorem qkx{zv:Value} {n sz:Nat} (hz:(ofV zv).cells.length=sz) (hsz:zv.cells.size=sz) :
  VRs ρ (replL (ofV zv).cells n) ((Array.range (n * sz)).map fun i=>zv.cells[i % zv.cells.size]!).toList:=by
 have hc:=VRs.const (ρ:=ρ) zv;refine⟨by simp[qhr,hz],fun i h1 h2=>?_⟩;have h3:i < n * sz:=by rw[qhr,hz]at h1;exact h1
 have h0:0 < sz:=by
  rcases Jn sz with h|h
  ·subst h;simp at h3
  ·exact h
 have hlt:i % zv.cells.size < zv.cells.size:=Nat.mod_lt _ (by omega);rw[qt9 _ _ _ h1 (by rw[hz];exact Nat.mod_lt _ h0)];simp only[Array.toList_map,Array.toList_range,Jb,Jo];rw[getElem!_pos zv.cells _ hlt];have:=hc.2 (i % sz) (by rw[hz];exact Nat.mod_lt _ h0) (by simp[hsz];exact Nat.mod_lt _ h0);simp only[Array.getElem_toList]at this;simpa[hz,hsz]using this
theorem qps(s:Sim ρ H w) {t:TypeId} {len:Nat} {parts:List (Nat × AV)} {vals:List (Nat × Value)} {cs:List AV} (h:sliceParts P t len parts=some cs)
  (hi:vals.map (·.1)=parts.map (·.1)) (hv:VRs ρ (parts.map (·.2)) (vals.map (·.2))) :
  ∃c e,P.underlying t=some (.slice e)/\(Instr.buildSlice t len vals.toArray).run P w=.ok (.slice (some ⟨w.heap.size,0,none⟩) len len) (w.alloc (.cells c e))/\VRs ρ cs c.toList:=by
 replace h:=obs h;obtain⟨d,hd,h⟩:=h;cases d with
 |slice elem=>
  replace h:=obs h;obtain⟨sz,hsz,h⟩:=h;split at h
  ·simp at h
  ·rename_i hle;have hle:=jG hle;replace h:=obs h;obtain⟨z,hz,h⟩:=h;obtain⟨zv,rfl,hzr,it,hit,hiz⟩:=qfp hz;split at h
   ·rename_i hzl;have hzl:=Nat.eq_of_beq_eq_true hzl;have hzs:zv.cells.size=sz:=(by have:=(VRs.const (ρ:=ρ) zv).1;simp at this;omega);have hz0:=qkx (ρ:=ρ) (n:=len) hzl hzs;obtain⟨c',hc',hr⟩:=qs6 (place':=fun i=>some (i * sz,sz)) (fun i p hp=>hp) (vals:=vals) h hi hv hz0;refine⟨c',elem,hd,?_,hr⟩
    have hn : ¬ len * sz > 2 ^ 24 := by have : (2:Nat) ^ 24 = 16777216 := by decide
                                        omega
    by_cases h0:len * sz=0
    ·have e0:((Array.range (len * sz)).map fun i=>zv.cells[i % zv.cells.size]!)=(Array.range (len * sz)).map fun i=>(#[]:Array Value)[i % (#[]:Array Value).size]!:=(by simp[h0]);rw[e0]at hc';have hc2:Instr.fill (fun i=>some (i * sz,sz)) (Array.map (fun _=>default) (Array.range 0)) vals=some c':=(by simpa[h0]using hc');simp[Instr.buildSlice,jk hd,qdq hsz,h0,hc2,newRow,newObj,Sem.run]
    ·simp[Instr.buildSlice,jk hd,qdq hsz,hn,h0,hzr,hc',newRow,newObj,Sem.run]
   ·simp at h
 |_=>simp at h
end
section
variable {P:Program} {ρ:Place} {H H':Heap} {w:World}
theorem qg1{i:Int} {n j:Nat} (h:idx i n=some j):i=(j:Int)/\j < n:=by
 unfold idx at h;split at h
 ·split at h
  next hb=>simp only[sj]at h;subst h;exact⟨rfl,jG hb⟩
  ·simp at h
 ·simp at h
theorem qs7{t:TypeId} {x v:AV} {i:Nat} {y:Value} (h:qb1 P t x i=some v) (hx:VR ρ x y) (w:World) :
  ∃z,(Instr.fieldAt t y i).run P w=.ok z w/\VR ρ v z:=by
 obtain⟨d,hd,h⟩:=obs h;cases d with
 |struct fs=>
  obtain⟨f,hf,h⟩:=obs h;obtain⟨n,hn,h⟩:=obs h;have hf':fs[i]? = some f:=by have:=qoy hf;simpa using this
  cases n with
  |zero=>simp at h
  |succ n=>
   have hs:=qdq hn w;have key:∀b o,(Instr.fieldAt t (.pointer (some ⟨b,o,none⟩)) i).run P w=.ok (.pointer (some ⟨b,o+f.offset,none⟩)) w:=fun b o=>(by simp[Instr.fieldAt,jk hd,hf',Instr.sureAddr,fieldPlace,hs,qgq]);cases hx with
   |ptr b o l hl=>simp only[sj]at h;subst h;exact⟨_,key _ _,by rw[Nat.add_assoc];exact .ptr _ _ l hl⟩
   |fptr cs o cb off vs hB hc hv=>simp only[sj]at h;subst h;exact⟨_,key _ _,by rw[Nat.add_assoc];exact .fptr cs _ cb off vs hB hc hv⟩
   |_=>simp at h
 |_=>simp at h
theorem qrq{t:TypeId} {x i v:AV} {y z:Value} (h:qaq P t x i=some v) (hx:VR ρ x y) (hi:VR ρ i z) (w:World) :
  ∃u,(Instr.indexAt t y z).run P w=.ok u w/\VR ρ v u:=by
 cases hi with
 |int k i=>
  replace h:=obs h;obtain⟨d,hd,h⟩:=h;cases d with
  |slice elem=>
   cases hx with
   |slcE b o len c l hl hc=>replace h:=obs h;obtain⟨j,hj,h⟩:=h;replace h:=obs h;obtain⟨n,hn,h⟩:=h;simp only[sj]at h;subst h;obtain⟨rfl,hlt⟩:=qg1 hj;exact⟨_,by simp[Instr.indexAt,asIntOf,jk hd,hlt,qdq hn,qgq];rfl,by rw[Nat.add_assoc];exact .ptr _ _ l hl⟩
   |slcR b o len sz c l hl hc hf=>replace h:=obs h;obtain⟨j,hj,h⟩:=h;replace h:=obs h;obtain⟨n,hn,h⟩:=h;simp only[sj]at h;subst h;obtain⟨rfl,hlt⟩:=qg1 hj;exact⟨_,by simp[Instr.indexAt,asIntOf,jk hd,hlt,qdq hn,qgq];rfl,by rw[Nat.add_assoc];exact .ptr _ _ l hl⟩
   |fslc sz es cb off cap vs hB hcap hz hc hv=>
    replace h:=obs h;obtain⟨j,hj,h⟩:=h;replace h:=obs h;obtain⟨n,hn,h⟩:=h;split at h
    next hb=>have hb:=Nat.eq_of_beq_eq_true hb;subst hb;replace h:=obs h;obtain⟨e,he,h⟩:=h;simp only[sj]at h;subst h;obtain⟨hlt,rfl⟩:=qfg he;obtain⟨rfl,_⟩:=qg1 hj;refine⟨_,by simp[Instr.indexAt,asIntOf,jk hd,hlt,qdq hn,qgq];rfl,?_⟩;have hzj:=hz j hlt;exact .fptr _ 0 cb (off+j * n) (vs j) hB (fun i hi=>hc j hlt i (by omega)) (fun i hi=>hv j hlt i hi)
    ·simp at h
   |fnil sz=>replace h:=obs h;obtain⟨j,hj,h⟩:=h;exact absurd (qg1 hj).2 (j3 _)
   |fnone sz a c=>replace h:=obs h;obtain⟨j,hj,h⟩:=h;exact absurd (qg1 hj).2 (j3 _)
   |_=>simp at h
  |_=>simp at h
 |_=>simp[qaq]at h
theorem qng{t:TypeId} {cs:List AV} {c:Array Value} {off:Nat} {v:AV} (h:zag P t cs off=some v) (hv:VRs ρ cs c.toList) (w:World) :
  ∃u,(part t c off).run P w=.ok u w/\VR ρ v u:=by
 replace h:=obs h;obtain⟨ag,hag,h⟩:=h;have hlen:c.size=cs.length:=by simpa using hv.1
 cases ag with
 |true=>replace h:=obs h;obtain⟨n,hn,h⟩:=h;replace h:=obs h;obtain⟨r,hr,h⟩:=h;simp only[sj]at h;subst h;obtain⟨h1,rfl⟩:=qkz hr;refine⟨_,by simp[part,qsn hag,qdq hn];rfl,.agg _ _ (by simp;omega) fun i h2 h3=>?_⟩;simp only[ye,jU,Array.getElem_extract];simp at h2;exact hv.2 (off+i) (by omega) (by simp;omega)
 |false=>obtain⟨h1,rfl⟩:=qfg h;refine⟨c[off]'(by omega),?_,hv.2 off h1 (by simp;omega)⟩;simp[part,qsn hag,hlen,h1]
theorem qmq{cs:List AV} {vs:Array Value} (hl:vs.size=cs.length) (hv:∀i (h:i < cs.length) (h':i < vs.size),VR ρ cs[i] vs[i]):VRs ρ cs vs.toList:=
 ⟨by simpa using hl,fun i h1 h2=>hv i h1 (by simpa using h2)⟩
theorem zbv{t:TypeId} {x v:AV} {i:Nat} {y:Value} (h:qbu P t x i=some v) (hx:VR ρ x y) (w:World) :
  ∃z,(Instr.field t y i).run P w=.ok z w/\VR ρ v z:=by
 obtain⟨d,hd,h⟩:=obs h;cases d with
 |struct fs=>
  obtain⟨f,hf,h⟩:=obs h;have hf':fs[i]? = some f:=by have:=qoy hf;simpa using this
  cases hx with
  |agg cs vs hl hv=>obtain⟨u,hu,hr⟩:=qng h (qmq hl hv) w;exact⟨u,by simp[Instr.field,jk hd,hf',asAgg,hu],hr⟩
  |_=>simp at h
 |_=>simp at h
theorem zbh{t:TypeId} {x i v:AV} {y z:Value} (h:qov P t x i=some v) (hx:VR ρ x y) (hi:VR ρ i z) (w:World) :
  ∃u,(Instr.index t y z).run P w=.ok u w/\VR ρ v u:=by
 cases hi with
 |int k i=>
  replace h:=obs h;obtain⟨d,hd,h⟩:=h;cases d with
  |string=>
   cases hx with
   |str s=>replace h:=obs h;obtain⟨j,hj,h⟩:=h;replace h:=obs h;obtain⟨c,hc,h⟩:=h;simp only[sj]at h;subst h;obtain⟨rfl,hlt⟩:=qg1 hj;obtain⟨h1,rfl⟩:=qfg hc;have hsz:(⟨s.toArray⟩ : ByteArray).size=s.length:=(by simp[ByteArray.size]);have hget:(⟨s.toArray⟩ : ByteArray)[j]? = some s[j]:=(by have:j < (⟨s.toArray⟩ : ByteArray).size:=(by omega);rw[getElem?_pos (⟨s.toArray⟩ : ByteArray) j this];simp[ByteArray.getElem_eq_getElem_data]);refine⟨.int .u8 s[j].toNat,?_,.int _ _⟩;simp[Instr.index,asIntOf,jk hd,hget]
   |_=>simp at h
  |_=>simp at h
 |_=>simp[qov]at h
theorem qwh{v:AV} {x:Value} {d y y' j:Nat} {code:BoundsCode} (h:qdc (some v) d y=some j) (hv:VR ρ v x) (hy:y<=y') (w:World) :
  (Instr.sliceBound x y' code).run P w=.ok j w/\j<=y:=by
 cases hv with
 |int k i=>
  obtain⟨rfl,hlt⟩:=qg1 (show idx i (Nat.succ y)=some j from h);have h1:(j:Int)<=(y':Int):=by omega
  exact⟨by simp[Instr.sliceBound,asIntOf];omega,by omega⟩
 |_=>simp[qdc]at h
inductive OptR (ρ:Place):Option AV->Option Value->Prop
 |none:OptR ρ none none
 |some (v:AV) (x:Value) (h:VR ρ v x):OptR ρ (some v) (some x)
theorem qog{s:St} {a:Act} (e:EnvR ρ s a) {x:Option Operand} {v:Option AV} (h:qhd s x=some v):OptR ρ v (x.map a.eval):=by
 cases x with
 |none=>simp only[qhd,sj]at h;subst h;exact .none
 |some x=>obtain⟨v',hv,h⟩:=obs h;simp only[sj]at h;subst h;exact .some _ _ (qbk e hv)
def qm1{α:Type} (mx:Option α) (m c:Nat):Nat:=match mx with
 |some _=>m
 |none=>c
theorem qf9{isSlice:Bool} {len c c' mD m l h:Nat} {lo hi mx:Option AV} {lo' hi' mx':Option Value} (rl:OptR ρ lo lo') (rh:OptR ρ hi hi') (rm:OptR ρ mx mx')
  (ok:qqe hi mx=true) (hc:c<=c') (hm:qdc mx mD c=some m) (hh:qdc hi len (qm1 mx m c)=some h) (hl:qdc lo 0 h=some l) (w:World) :
  (Instr.sliceBounds isSlice len c' lo' hi' mx').run P w=.ok (l,h,qm1 mx m c') w/\(hi=none->h=len)/\(∀v,hi=some v->h<=qm1 mx m c)/\l<=h/\(∀v,mx=some v->m<=c):=by
 have low:∀code,(match lo' with|some v=>Instr.sliceBound v h code|none=>pure 0:Sem Nat).run P w=.ok l w/\l<=h:=fun code=>by
  cases rl with
  |none=>simp only[qdc,sj]at hl;subst hl;exact⟨rfl,jx _⟩
  |some v x hv=>exact qwh hl hv (ja _) w
 cases rm with
 |none=>
  cases rh with
  |none=>simp only[qdc,sj]at hh;subst hh;refine⟨?_,fun _=>rfl,fun v e=>(by cases e),(low .sliceB).2,fun v e=>(by cases e)⟩;have:=(low .sliceB).1;cases rl<;>simp_all [Instr.sliceBounds,qm1]
  |some v x hv=>obtain⟨h1,h2⟩:=qwh (P:=P) (code:=if isSlice then .sliceAcap else .sliceAlen) hh hv hc w;refine⟨?_,fun e=>(by cases e),fun _ _=>h2,(low .sliceB).2,fun v e=>(by cases e)⟩;have:=(low .sliceB).1;cases rl<;>simp_all [Instr.sliceBounds,qm1]
 |some v x hv=>
  obtain⟨h1,h2⟩:=qwh (P:=P) (code:=if isSlice then .slice3Acap else .slice3Alen) hm hv hc w;cases rh with
  |none=>simp[qqe]at ok
  |some u y hu=>obtain⟨h3,h4⟩:=qwh (P:=P) (code:=.slice3B) hh hu (ja _) w;refine⟨?_,fun e=>(by cases e),fun _ _=>h4,(low .slice3C).2,fun _ _=>h2⟩;have:=(low .slice3C).1;cases rl<;>simp_all [Instr.sliceBounds,qm1]
def qug(b o l m sz:Nat):Addr:=if m=l then ⟨b,o,none⟩ else ⟨b,o+l * sz,none⟩
theorem qt1(s:Sim ρ H w) {sz b o len:Nat} {cap:Cap} {lo hi mx:Option AV} {lo' hi' mx':Option Value} {v:AV} {ad:Option Addr} {cap':Nat} {isSlice:Bool}
  (h:qgs H sz b o len cap lo hi mx=some v) (rl:OptR ρ lo lo') (rh:OptR ρ hi hi') (rm:OptR ρ mx mx') (ok:qqe hi mx=true)
  (hx:VR ρ (.slc b o len cap) (.slice ad len cap')) :
  ∃l hh m b' o',ad=some ⟨b',o',none⟩/\(Instr.sliceBounds isSlice len cap' lo' hi' mx').run P w=.ok (l,hh,m) w/\VR ρ v (.slice (some (qug b' o' l m sz)) (hh - l) (m - l)):=by
 replace h:=obs h;obtain⟨kn,hkn,h⟩:=h;cases hx with
 |slcE _ _ _ c l0 hl0 hlen=>
  replace h:=obs h;obtain⟨m,hm,h⟩:=h;replace h:=obs h;obtain⟨hh,hhh,h⟩:=h;replace h:=obs h;obtain⟨l,hl,h⟩:=h;simp only[sj]at h;subst h;have hmm:qm1 mx m cap'=m:=by
   cases rm with
   |none=>simp only[qdc,sj]at hm;exact hm
   |some=>rfl
  obtain⟨h1,h2,h3,h4,h5⟩:=qf9 (P:=P) (isSlice:=isSlice) (len:=len) (c:=cap') (c':=cap') rl rh rm ok (ja _) hm (by rw[hmm];exact hhh) hl w;rw[hmm]at h1 h3;have hle:hh<=m:=by
   cases rh with
   |none=>
    rw[h2 rfl];cases rm with
    |none=>simp only[qdc,sj]at hm;omega
    |some=>simp[qqe]at ok
   |some u y hu=>exact h3 _ rfl
  refine⟨l,hh,m,_,_,rfl,h1,?_⟩;unfold qug;by_cases hml:m=l
  ·subst hml;simp only[jQ,jC];exact .slcE _ _ _ _ l0 hl0 (by omega)
  ·simp only[hml,jM,qax hml,Nat.add_assoc];exact .slcE _ _ _ _ l0 hl0 (by omega)
 |slcR _ _ _ sz' c l0 hl0 hlen hfin=>
  dsimp only at h;split at h
  ·simp at h
  ·rename_i hb;have hb:=Nat.eq_of_beq_eq_true hb;subst hb;obtain⟨k,hk,hkl⟩:=obs hkn;obtain⟨cs,hrd,hkl⟩:=obs hkl
   ·simp only[sj]at hkl;subst hkl;obtain⟨l1,hl1,_,_,hr0⟩:=s.block hk;rw[hl0]at hl1;cases hl1;have hr:=hr0.rdR hrd;have hroom:(cs.length - o) / sz<=cap':=by
     rcases Jn sz with h0|h0
     ·subst h0;simp
     ·have:(cs.length - o)<=cap' * sz:=(by have:=hr.1;omega);exact Nat.div_le_of_le_mul (by rw[Nat.mul_comm];exact this)
    split at h
    ·rename_i v' _;replace h:=obs h;obtain⟨m,hm,h⟩:=h;replace h:=obs h;obtain⟨hh,hhh,h⟩:=h;replace h:=obs h;obtain⟨l,hl,h⟩:=h;obtain⟨h1,h2,h3,h4,h5⟩:=qf9 (P:=P) (isSlice:=isSlice) (len:=len) (c:=(cs.length - o) / sz) (c':=cap') rl rh rm ok hroom hm hhh hl w;have hle:hh<=m:=by
      cases rh with
      |none=>simp[qqe]at ok
      |some u y hu=>exact h3 _ rfl
     refine⟨l,hh,m,_,_,rfl,h1,?_⟩;unfold qug;split at h
     next hml=>have hml:=Nat.eq_of_beq_eq_true hml;simp only[sj]at h;subst h;subst hml;rw[show hh - m=0 by omega];exact .eslc _ _
     next hml=>have hml:m≠l:=fun e=>(by rw[e,jC]at hml;cases hml);simp only[sj]at h;subst h;simp only[hml,jM,Nat.add_assoc];exact .slcE _ _ _ _ l0 hl0 (by omega)
    ·replace h:=obs h;obtain⟨hh,hhh,h⟩:=h;replace h:=obs h;obtain⟨l,hl,h⟩:=h;obtain⟨h1,h2,h3,h4,h5⟩:=qf9 (P:=P) (isSlice:=isSlice) (len:=len) (c:=(cs.length - o) / sz) (c':=cap') (mD:=0) (m:=0) rl rh rm ok hroom rfl hhh hl w;have hle:hh<=cap':=by
      cases rh with
      |none=>rw[h2 rfl];exact hlen
      |some u y hu=>exact j6 (h3 _ rfl) hroom
     refine⟨l,hh,cap',_,_,rfl,h1,?_⟩;unfold qug;have main:cap'≠l\/l=0->VR ρ (.slc b (o+l * sz) (hh - l) (.rest sz)) (.slice (some (if cap'=l then ⟨l0.cb,l0.off+o,none⟩ else ⟨l0.cb,l0.off+o+l * sz,none⟩)) (hh - l) (cap' - l)):=fun hor=>by
      have e:(if cap'=l then (⟨l0.cb,l0.off+o,none⟩ : Addr) else ⟨l0.cb,l0.off+o+l * sz,none⟩)=⟨l0.cb,l0.off+(o+l * sz),none⟩:=by
       rcases hor with hne|h0
       ·rw[jm hne,Nat.add_assoc]
       ·subst h0;simp
      rw[e];refine .slcR _ _ _ _ _ l0 hl0 (by omega) ?_;have:(cap' - l) * sz+l * sz=cap' * sz:=(by rw[<- Nat.add_mul];congr 1;omega);omega
     split at h
     ·rename_i hkle;cases l with
      |zero=>simp only[sj]at h;subst h;simpa using main (.inr rfl)
      |succ l=>
       simp only at h;split at h
       next hhl=>have hhl:=Nat.eq_of_beq_eq_true hhl;simp only[sj]at h;subst h;rw[show hh - (l+1)=0 by omega];exact .eslc _ _
       ·simp at h
     next hkle=>simp only[sj]at h;subst h;refine main (.inl fun e=>?_);subst e;have:Nat.ble (cs.length - o) (cap' * sz)=true:=(by rw[jW];have:=hr.1;omega);rw[this]at hkle;cases hkle
theorem qgc(s:List UInt8):(⟨s.toArray⟩ : ByteArray).size=s.length:=by simp[ByteArray.size]
theorem qji(s:List UInt8):(⟨s.toArray⟩ : ByteArray).toList=s:=by rw[ByteArray.toList_eq]<;>simp
theorem qud(s t:List UInt8):(⟨s.toArray⟩ : ByteArray)++⟨t.toArray⟩=⟨(s++t).toArray⟩:=by apply ByteArray.ext;simp
theorem qis(s:List UInt8) (l h:Nat):(⟨s.toArray⟩ : ByteArray).extract l h=⟨((s.take h).drop l).toArray⟩:=by apply ByteArray.ext;simp[List.drop_take]
theorem qln:∀(x y:List UInt8),eqB x y=decide (x=y)
 |[],[]=>rfl
 |[],_::_=>rfl
 |_::_,[]=>rfl
 |a::x,b::y=>by
  unfold eqB;have:Nat.beq a.toNat b.toNat=decide (a=b):=by
   by_cases h:a=b
   ·subst h;simp
   ·have:a.toNat≠b.toNat:=fun e=>h (UInt8.toNat_inj.1 e);simp[h,qax this]
  simp only[this];by_cases h:a=b
  ·subst h;simp[qln x y]
  ·simp[h]
section
variable {P:Program} {ρ:Place} {H H':Heap} {w:World}
theorem qzv(s:Sim ρ H w) {t:TypeId} {x v:AV} {lo hi mx:Option AV} {lo' hi' mx':Option Value} {y:Value} (h:qcq P H t x lo hi mx=some v)
  (hx:VR ρ x y) (rl:OptR ρ lo lo') (rh:OptR ρ hi hi') (rm:OptR ρ mx mx'):∃u,(Instr.sliceAt t y lo' hi' mx').run P w=.ok u w/\VR ρ v u:=by
 have h00:=h;replace h:=obs h;obtain⟨d,hd,h⟩:=h;split at hd
 rotate_left
 ·simp at hd
 rename_i ok;have plain:(match d with | .array _ _=>False|_=>True)->(Instr.sliceAt t y lo' hi' mx').run P w=(Instr.slice t y lo' hi' mx').run P w:=fun hp=>by cases d<;>first|exact hp.elim|simp[Instr.sliceAt,jk hd]
 cases d with
 |string=>
  rw[plain trivial];cases hx with
  |str st=>
   cases rm with
   |some=>simp at h
   |none=>dsimp only at h;replace h:=obs h;obtain⟨hh,hhh,h⟩:=h;replace h:=obs h;obtain⟨l,hl,h⟩:=h;simp only[sj]at h;subst h;obtain⟨h1,_,_,_,_⟩:=qf9 (P:=P) (isSlice:=false) (len:=st.length) (c:=st.length) (c':=st.length) (mD:=0) (m:=0) rl rh .none ok (ja _) rfl hhh hl w;refine⟨.string ⟨((st.take hh).drop l).toArray⟩,?_,.str _⟩;simp only[qm1]at h1;simp[Instr.slice,jk hd,qgc,h1,qis]
  |_=>simp at h
 |slice elem=>
  rw[plain trivial];replace h:=obs h;obtain⟨sz,hsz,h⟩:=h;have hS:=qdq hsz w;have blk:∀{b o len:Nat} {cap:Cap} {ad:Option Addr} {cap':Nat},qgs H sz b o len cap lo hi mx=some v->VR ρ (.slc b o len cap) (.slice ad len cap') ->
    ∃u,(Instr.slice t (.slice ad len cap') lo' hi' mx').run P w=.ok u w/\VR ρ v u:=fun {b o len cap ad cap'} hb hv=>by
   obtain⟨l,hh,m,b',o',rfl,h1,h2⟩:=qt1 (P:=P) (isSlice:=true) s hb rl rh rm ok hv;refine⟨_,?_,h2⟩;simp only[Instr.slice,jY,jk hd,jN,h1,hS,yV];congr 1;unfold qug;split<;>simp_all [qgq]
  have h0:∀{q:Option AV} {d j:Nat},qdc q d 0=some j->d=0->j=0:=fun {q d j} hq hd=>by
   cases q with
   |none=>simp only[qdc,sj]at hq;omega
   |some u=>cases u<;>simp[qdc]at hq;have:=(qg1 hq).2;omega
  have zero:∀{ad:Option Addr} {u:AV},VR ρ u (.slice ad 0 0)->((qdc mx 0 0).bind fun _=>(qdc hi 0 0).bind fun _=>(qdc lo 0 0).bind fun _=>some u)=some v->∃z,(Instr.slice t (.slice ad 0 0) lo' hi' mx').run P w=.ok z w/\VR ρ v z:=fun {ad u} hu h=>by replace h:=obs h;obtain⟨m,hm,h⟩:=h;replace h:=obs h;obtain⟨hh,hhh,h⟩:=h;replace h:=obs h;obtain⟨l,hl,h⟩:=h;simp only[sj]at h;subst h;obtain rfl:=h0 hm rfl;obtain rfl:=h0 hhh rfl;obtain rfl:=h0 hl rfl;obtain⟨h1,_,_,_,_⟩:=qf9 (P:=P) (isSlice:=true) (len:=0) (c:=0) (c':=0) (mD:=0) (m:=0) rl rh rm ok (ja _) hm (by cases rm<;>exact hhh) hl w;have h2:qm1 mx 0 0=0:=(by cases rm<;>rfl);rw[h2]at h1;exact⟨.slice ad 0 0,by cases ad<;>simp[Instr.slice,jk hd,h1,hS],hu⟩
  have none_:∀{ad:Option Addr} {c s':Nat} {x:AV},VR ρ (.fslc s' []) (.slice ad 0 c)->VR ρ .zslc (.slice ad 0 0)->x=.fslc s' []->qcq P H t x lo hi mx=some v->∃z,(Instr.slice t (.slice ad 0 c) lo' hi' mx').run P w=.ok z w/\VR ρ v z:=fun {ad c s' x} hf hz hx h=>by
   subst hx;simp only[qcq,ok,hd,hsz,jc]at h;cases rm with
   |some q z hq=>
    dsimp only at h;replace h:=obs h;obtain⟨hsz',hb,h⟩:=h;replace h:=obs h;obtain⟨m,hm,h⟩:=h;replace h:=obs h;obtain⟨hh,hhh,h⟩:=h;split at h
    ·simp at h
    rename_i hhm;have hhm:=Nat.eq_of_beq_eq_true hhm;subst hhm;cases rl with
    |some=>simp at h
    |none=>have rm:OptR ρ (some q) (some z):=.some q z hq;obtain⟨h1,-,-,-,h5⟩:=qf9 (P:=P) (isSlice:=true) (lo:=none) (len:=0) (c:=0) (c':=c) (mD:=0) (m:=hh) (l:=0) .none rh rm ok (jx _) hm hhh rfl w;obtain rfl:hh=0:=Nat.le_zero.1 (h5 _ rfl);simp only[qm1]at h1;cases h;exact⟨.slice ad 0 0,by cases ad<;>simp[Instr.slice,jk hd,h1,hS],hz⟩
   |none=>
    dsimp only at h;replace h:=obs h;obtain⟨hsz',hb,h⟩:=h;replace h:=obs h;obtain⟨hh,hhh,h⟩:=h;replace h:=obs h;obtain⟨l,hl,h⟩:=h;simp only[List.take_nil,List.drop_nil,sj]at h;subst h;obtain rfl:=h0 hhh rfl;obtain rfl:=h0 hl rfl;obtain⟨h1,_,_,_,_⟩:=qf9 (P:=P) (isSlice:=true) (len:=0) (c:=0) (c':=c) (mD:=0) (m:=0) rl rh .none ok (jx _) rfl hhh hl w;simp only[qm1]at h1;refine⟨.slice ad 0 c,?_,hf⟩;cases ad with
    |none=>simp[Instr.slice,jk hd,h1,hS]
    |some a=>simp[Instr.slice,jk hd,h1,hS];intro _;cases a;simp[Addr.add]
  cases hx with
  |slcE b o len c l hl hc=>exact blk h (.slcE b o len c l hl hc)
  |slcR b o len sz' c l hl hc hf=>exact blk h (.slcR b o len sz' c l hl hc hf)
  |nilS=>exact zero .nilS h
  |zslcN=>exact zero .zslcN h
  |zslcE a=>exact zero (.zslcE a) h
  |fslc sz' es cb off cap vs hB hcap hz hc hv=>
   cases rm with
   |some q z hq=>
    dsimp only at h;replace h:=obs h;obtain⟨hsz',hb,h⟩:=h;split at hb
    rotate_left
    ·simp at hb
    rename_i hbeq;have hbeq:=Nat.eq_of_beq_eq_true hbeq;subst hbeq;replace h:=obs h;obtain⟨m,hm,h⟩:=h;replace h:=obs h;obtain⟨hh,hhh,h⟩:=h;split at h
    ·simp at h
    rename_i hhm;have hhm:=Nat.eq_of_beq_eq_true hhm;subst hhm;cases rl with
    |some=>simp at h
    |none=>
     have rm:OptR ρ (some q) (some z):=.some q z hq;obtain⟨h1,-,-,-,h5⟩:=qf9 (P:=P) (isSlice:=true) (lo:=none) (len:=es.length) (c:=es.length) (c':=cap) (mD:=0) (m:=hh) (l:=0) .none rh rm ok hcap hm hhh rfl w;have hle:hh<=es.length:=h5 _ rfl;simp only[qm1]at h1;dsimp only at h;split at h
     ·cases h;refine⟨.slice (some ⟨cb,off,none⟩) 0 0,?_,.zslcE _⟩;simp[Instr.slice,jk hd,h1,hS]
     ·rename_i m';cases h;have hlen:(es.take (m'+1)).length=m'+1:=(by simp;omega);refine⟨.slice (some ⟨cb,off,none⟩) (m'+1) (m'+1),?_,?_⟩
      ·simp[Instr.slice,jk hd,h1,hS,qgq]
      ·have:VR ρ (.xslc sz' (es.take (m'+1))) (.slice (some ⟨cb,off,none⟩) (es.take (m'+1)).length (es.take (m'+1)).length):=by
        refine .xslc sz' _ cb off vs hB (fun i hi=>?_) (fun i hi j hj=>?_) (fun i hi j hj=>?_)
        ·rw[ye];exact hz i (by rw[hlen]at hi;omega)
        ·exact hc i (by rw[hlen]at hi;omega) j hj
        ·simp only[ye]at hj ⊢;exact hv i (by rw[hlen]at hi;omega) j hj
       rw[hlen]at this;exact this
   |none=>
    dsimp only at h;replace h:=obs h;obtain⟨hsz',hb,h⟩:=h;split at hb
    rotate_left
    ·simp at hb
    rename_i hbeq;have hbeq:=Nat.eq_of_beq_eq_true hbeq;subst hbeq;replace h:=obs h;obtain⟨hh,hhh,h⟩:=h;replace h:=obs h;obtain⟨l,hl,h⟩:=h;simp only[sj]at h;subst h;obtain⟨h1,h2,h3,h4,_⟩:=qf9 (P:=P) (isSlice:=true) (len:=es.length) (c:=es.length) (c':=cap) (mD:=0) (m:=0) rl rh .none ok hcap rfl hhh hl w;have hle:hh<=es.length:=by
     cases rh with
     |none=>rw[h2 rfl];exact ja _
     |some u z hu=>exact h3 _ rfl
    have hlen:((es.take hh).drop l).length=hh - l:=(by simp;omega);have mk:∀o',(o'=off+l * sz'\/hh - l=0)->VR ρ (.fslc sz' ((es.take hh).drop l)) (.slice (some ⟨cb,o',none⟩) (hh - l) (cap - l)):=fun o' ho=>by
     rw[<- hlen];refine .fslc sz' _ cb o' (cap - l) (fun i j=>vs (l+i) j) hB (by rw[hlen];omega) (fun i hi=>?_) (fun i hi j hj=>?_) (fun i hi j hj=>?_)
     ·simp only[jU,ye];exact hz _ (by rw[hlen]at hi;omega)
     ·rw[hlen]at hi;rcases ho with rfl|h0
      ·have:=hc (l+i) (by omega) j hj;rw[Nat.add_mul,<- Nat.add_assoc]at this;exact this
      ·omega
     ·rw[hlen]at hi;simp only[jU,ye];exact hv (l+i) (by omega) j (by simpa only[jU,ye]using hj)
    simp only[qm1]at h1;by_cases hcl:cap=l
    ·subst hcl;refine⟨.slice (some ⟨cb,off,none⟩) (hh - cap) 0,?_,by simpa using mk off (.inr (by omega))⟩;simp[Instr.slice,jk hd,h1,hS]
    ·refine⟨.slice (some ⟨cb,off+l * sz',none⟩) (hh - l) (cap - l),?_,mk _ (.inl rfl)⟩;simp[Instr.slice,jk hd,h1,hS,hcl,qgq]
  |fnil sz'=>exact none_ (.fnil _) .zslcN rfl h00
  |fnone sz' a c=>exact none_ (.fnone _ a c) (.zslcE a) rfl h00
  |_=>simp at h
 |_=>simp at h
end
theorem quc(x y:List UInt8):((⟨x.toArray⟩ : ByteArray) == ⟨y.toArray⟩)=eqB x y:=by
 rw[beq_toListBytes,qji,qji,qln];by_cases h:x=y
 ·subst h;simp
 ·simp[h]
section
variable {P:Program} {ρ:Place} {H H':Heap} {w:World}
theorem wr_spec{k:IntKind} {n m:Int} (h:wr k n=some m):k.wrap n=m:=by
 unfold wr at h;split at h
 ·split at h
  next hb=>simp only[sj]at h;rw[Jj n (fits64_iff.1 hb),h]
  ·simp at h
 ·simpa using h
theorem zb6{op:BinOp} {k:IntKind} {a b:Int} {v:AV} (h:qot op k a b=some v) (t:TypeId) (w:World) :
  ∃u,(Go.binOp op t (.int k a) (.int k b)).run P w=.ok u w/\VR ρ v u:=by
 cases op<;>simp only[qot,reduceCtorEq]at h
 case add|sub=>
  replace h:=obs h;obtain⟨n,hn,h⟩:=h;simp only[sj]at h;subst h;exact⟨_,by simp[Go.binOp,Op.intArith,wr_spec hn],.int _ _⟩
 all_goals
  simp only[sj]at h;subst h;exact⟨_,by simp only[Go.binOp,Op.intCmp,ne_eq,not_true_eq_false,jM,yV],.bool _⟩
theorem qzo{op:BinOp} {a b:List UInt8} {v:AV} (h:qqx op a b=some v) (t:TypeId) (w:World) :
  ∃u,(Go.binOp op t (.string ⟨a.toArray⟩) (.string ⟨b.toArray⟩)).run P w=.ok u w/\VR ρ v u:=by
 have he:(a == b)=eqB a b:=by
  rw[qln];by_cases h:a=b
  ·subst h;simp
  ·simp[h]
 cases op<;>simp only[qqx,reduceCtorEq]at h
 case add=>
  split at h
  next hb=>simp only[sj]at h;subst h;refine⟨_,?_,.str _⟩;have:¬ a.length+b.length > 9223372036854775807:=(by omega);simp only[Go.binOp];rw[run_string_add_if,qgc,qgc,jm this,qud]
  ·simp at h
 all_goals
  simp only[sj]at h;subst h;exact⟨_,by simp only[Go.binOp,Op.stringOp,qji,he];rfl,.bool _⟩
theorem qmh{d:TypeDesc} {x y:AV} {b:Bool} {x' y':Value} (h:qjd d x y=some b) (hx:VR ρ x x') (hy:VR ρ y y') {t:TypeId} (hd:P.underlying t=some d)
  (n:Nat) (w:World):(Op.equalIn (n+1) t x' y').run P w=.ok b w:=by
 unfold qjd at h;rw[Op.equalIn];simp only[jY,jk hd,jN];split at h<;>cases hx<;>cases hy
 case h_2.int.int=>
  split at h
  next hk=>simp only[sj]at h;subst h;subst hk;simp only[jQ];rfl
  ·simp at h
 case h_3.str.str=>
  simp only[sj]at h;subst h;rw[<- quc];rfl
 all_goals first
  |(simp only[sj]at h;subst h;rfl)
  |simp at h
theorem qn1{xs ys:List AV} {xs' ys':Array Value} (hx:VRs ρ xs xs'.toList) (hy:VRs ρ ys ys'.toList) (n:Nat) (w:World) :
  ∀{fs:List Field} {b:Bool},eqFields P fs xs ys=some b->(Op.eqFields (n+1) xs' ys' fs).run P w=.ok b w
 |[],b,h=>by simp only[eqFields,sj]at h;subst h;rfl
 |f::fs,b,h=>by
  unfold eqFields at h;split at h
  ·simp at h
  ·rename_i hne
   have hne : f.name ≠ "_" := by simpa using hne
   replace h:=obs h;obtain⟨d,hd,h⟩:=h;split at h
   ·simp at h
   ·rename_i hpl;replace h:=obs h;obtain⟨x,hxx,h⟩:=h;replace h:=obs h;obtain⟨y,hyy,h⟩:=h;replace h:=obs h;obtain⟨e,he,h⟩:=h;have hag:qh4 P f.type=some false:=by unfold qh4;rw[hd];cases d<;>first|rfl|simp[qiv]at hpl
    obtain⟨x',hx1,hx2⟩:=qng (P:=P) (t:=f.type) (off:=f.offset) (v:=x) (by simp[zag,hag,hxx]) hx w;obtain⟨y',hy1,hy2⟩:=qng (P:=P) (t:=f.type) (off:=f.offset) (v:=y) (by simp[zag,hag,hyy]) hy w;have heq:=qmh he hx2 hy2 hd n w;have ih:=fun b' (hb:eqFields P fs xs ys=some b')=>qn1 hx hy n w hb;simp only[Op.eqFields,hne,ne_eq,not_false_eq_true,jQ,jY,hx1,hy1,heq,jN];cases e with
    |true=>simpa using ih b h
    |false=>simp only[sj]at h;subst h;simp
theorem qh2{op:BinOp} {t:TypeId} {ox oy:Operand} {a b:Value} (w:World) (h1:a≠.nilIface) (h2:∀c,a≠.agg c):(eqGuard op t ox oy a b).run P w=.ok () w:=by unfold eqGuard;cases op<;>first|rfl|(cases a<;>first|(cases b<;>rfl)|exact absurd rfl h1|exact absurd rfl (h2 _))
theorem zbz{t:TypeId} {x y:AV} {b:Bool} {x' y':Value} (h:eqA P t x y=some b) (hx:VR ρ x x') (hy:VR ρ y y') (w:World) :
  (Op.equal t x' y').run P w=.ok b w/\∀op ox oy,(eqGuard op t ox oy x' y').run P w=.ok () w:=by
 replace h:=obs h;obtain⟨d,hd,h⟩:=h;have fin:qjd d x y=some b->(Op.equal t x' y').run P w=.ok b w/\∀op ox oy,(eqGuard op t ox oy x' y').run P w=.ok () w:=fun h=>by refine⟨qmh h hx hy hd 9999 w,fun op ox oy=>?_⟩;unfold qjd at h;split at h<;>first|contradiction|(cases hx<;>exact qh2 w (by simp) (by simp))
 split at h
 ·rename_i d' fs xs ys;cases hx with
  |agg _ xs' hl hv=>
   cases hy with
   |agg _ ys' hl' hv'=>
    split at h
    next hst hg=>have ht:P.underlying t=some (.struct (P.fieldsOf t)):=(by simp[Program.fieldsOf,hd]);have hf:(P.fieldsOf t).toList=fs.toList:=(by simp[Program.fieldsOf,hd]);refine⟨?_,fun op ox oy=>run_eqGuard_agg w op t ox oy xs' ys' hg⟩;have:=run_equalIn_struct (P:=P) w 9999 t xs' ys' ht hst;simp only[Op.equal,Op.maxDepth];rw[this,hf];exact qn1 (qmq hl hv) (qmq hl' hv') 9998 w h
    ·simp at h
 ·rename_i te a c b' d;replace h:=obs h;obtain⟨n,hn,h⟩:=h;split at h
  ·rename_i hc;simp only[jf]at hc;have hab:=Nat.eq_of_beq_eq_true hc.1;have hnp:0 < n:=jG hc.2;simp only[sj]at h;subst hab;cases hx with
   |ptr _ _ l hl=>
    cases hy with
    |ptr _ _ l' hl'=>
     rw[hl]at hl';cases hl';refine⟨?_,fun op ox oy=>qh2 w (by simp) (by simp)⟩;have hne:¬ n=0:=(by omega);have e:((⟨l.cb,l.off+c,none⟩ : Addr) == ⟨l.cb,l.off+d,none⟩)=b:=by
      rw[<- h];by_cases hcd:c=d
      ·subst hcd;simp
      ·have h1:Nat.beq c d=false:=qax hcd;rw[h1];simp[hcd]
     have k:∀d':Nat,(Op.equalIn (d'+1) t (.pointer (some ⟨l.cb,l.off+c,none⟩)) (.pointer (some ⟨l.cb,l.off+d,none⟩))).run P w=.ok b w:=fun d'=>(by simp only[Op.equalIn,jY,jk hd,jN,qdq hn,ne_eq,hne,not_false_eq_true,jQ];unfold sameAddr;simp only[beq_self_eq_true,jQ,e];rfl);simp only[Op.equal,Op.maxDepth];exact k 9999
  ·simp at h
 ·exact fin h
theorem binA_run{op:BinOp} {t:TypeId} {x y v:AV} {x' y':Value} (h:qex P op t x y=some v) (hx:VR ρ x x') (hy:VR ρ y y') (ox oy:Operand) (w:World) :
  ∃u,(do eqGuard op t ox oy x' y';Go.binOp op t x' y':Sem Value).run P w=.ok u w/\VR ρ v u:=by
 have eqs:(op=.eql\/op=.neq)->∀e,eqA P t x y=some e->v=.bool (if op=.eql then e else !e)->(Go.binOp op t x' y').run P w=((Op.equal t x' y').run P w).andThen (fun b w'=>.ok (.bool (if op=.eql then b else !b)) w') ->
   ∃u,(do eqGuard op t ox oy x' y';Go.binOp op t x' y':Sem Value).run P w=.ok u w/\VR ρ v u:=fun _ e he hv hb=>by
  obtain⟨h1,h2⟩:=zbz he hx hy w;subst hv;exact⟨_,by simp only[jY,h2 op ox oy,jN,hb,h1],.bool _⟩
 unfold qex at h;split at h
 ·cases hx;cases hy;rename_i k a k' b;simp only[jY,qh2 w (show Value.int k a≠.nilIface by simp) (show ∀c,Value.int k a≠.agg c by simp),jN];split at h
  next hk=>subst hk;exact zb6 h t w
  ·simp at h
 ·cases hx;cases hy;simp only[jY,qh2 w (show Value.string _≠.nilIface by simp) (show ∀c,Value.string _≠.agg c by simp),jN];exact qzo h t w
 ·rename_i hn1 hn2;have key:∀e,eqA P t x y=some e->(Go.binOp .eql t x' y').run P w=((Op.equal t x' y').run P w).andThen (fun b w'=>.ok (.bool b) w')/\(Go.binOp .neq t x' y').run P w=((Op.equal t x' y').run P w).andThen (fun b w'=>.ok (.bool !b) w'):=fun e he=>by
   obtain⟨d,hd,he⟩:=obs he;split at he
   ·cases hx;cases hy;exact⟨by simp[Go.binOp],by simp[Go.binOp]⟩
   ·cases hx;cases hy;exact⟨by simp[Go.binOp],by simp[Go.binOp]⟩
   ·unfold qjd at he;split at he<;>first|contradiction|(cases hx<;>cases hy<;>first|exact(hn1 _ _ _ _ rfl rfl).elim|exact(hn2 _ _ rfl rfl).elim|exact⟨by simp[Go.binOp],by simp[Go.binOp]⟩)
  split at h
  ·replace h:=obs h;obtain⟨e,he,h⟩:=h;simp only[sj]at h;exact eqs (.inl rfl) e he (by simp[<- h]) (by simpa using(key e he).1)
  ·replace h:=obs h;obtain⟨e,he,h⟩:=h;simp only[sj]at h;exact eqs (.inr rfl) e he (by simp[<- h]) (by simpa using(key e he).2)
  ·simp at h
theorem unA_run{op:UnOp} {x v:AV} {x':Value} (h:unA op x=some v) (hx:VR ρ x x') (w:World):∃u,(Op.unary op x').run P w=.ok u w/\VR ρ v u:=by
 unfold unA at h;split at h
 ·cases hx;simp only[sj]at h;subst h;exact⟨_,by simp[Op.unary],.bool _⟩
 ·cases hx;simp only[sj]at h;subst h;exact⟨_,by simp[Op.unary,Op.intBits],.int _ _⟩
 ·simp at h
end
theorem qkq{sz:Nat}:∀{es:List AV},(∀i (h:i < es.length),es[i].cells.length=sz)->(qaa es).length=es.length * sz
 |[],_=>by simp[qaa]
 |e::es,h=>by have h0:=h 0 (by simp);have ih:=qkq (es:=es) fun i hi=>h (i+1) (by simpa using hi);simp only[jH]at h0;simp[qaa,h0,ih,Nat.succ_mul,Nat.add_comm]
theorem qxe{sz:Nat}:∀{es:List AV} (hz:∀i (h:i < es.length),es[i].cells.length=sz) (i j:Nat) (hi:i < es.length) (hj:j < sz) (h:i * sz+j < (qaa es).length),
  (qaa es)[i * sz+j]=es[i].cells[j]'(by rw[hz];exact hj)
 |[],_,i,_,hi,_,_=>by simp at hi
 |e::es,hz,0,j,hi,hj,h=>by have h0:=hz 0 (by simp);simp only[jH]at h0;simp only[qaa,Nat.zero_mul,jS,jH];rw[yb (by omega)]
 |e::es,hz,i+1,j,hi,hj,h=>by
  have h0:=hz 0 (by simp);simp only[jH]at h0;simp only[qaa,yZ];have hi':i < es.length:=by simpa using hi
  have hz':∀i (h:i < es.length),es[i].cells.length=sz:=fun i hi=>hz (i+1) (by simpa using hi);have hlt:i * sz+j < (qaa es).length:=by rw[qkq hz'];have:(i+1) * sz<=es.length * sz:=Nat.mul_le_mul_right _ hi';rw[Nat.succ_mul]at this;omega
  rw[jB (by rw[h0,Nat.succ_mul];omega)];have e1:(i+1) * sz+j - e.cells.length=i * sz+j:=by rw[h0,Nat.succ_mul];omega
  simp only[e1];exact qxe hz' i j hi' hj hlt
theorem qi4:∀(s:List UInt8),(qjj s).length=s.length
 |[]=>rfl
 |_::r=>by simp[qjj,qi4 r]
theorem qpb:∀(s:List UInt8) (i:Nat) (h:i < (qjj s).length),(qjj s)[i]=.int .u8 (s[i]'(by rw[qi4]at h;exact h)).toNat
 |c::r,0,_=>rfl
 |c::r,i+1,h=>by simpa[qjj]using qpb r i (by simpa[qjj]using h)
section
variable {P:Program} {ρ:Place} {H H':Heap} {w:World}
theorem qxx{x:AV} {n:Nat} {x':Value} (h:qd5 x=some n) (hx:VR ρ x x') (w:World):(Builtin.lenOf x').run P w=.ok n w:=by cases hx<;>simp only[qd5,sj,reduceCtorEq]at h<;>subst h<;>simp[Builtin.lenOf,qgc]
theorem qhf{x:AV} {n:Nat} {x':Value} (h:qd5 x=some n) (hx:VR ρ x x') (sz:Nat) (w:World):∃c,(Builtin.firstCells sz 0 x').run P w=.ok c w/\c.toList=[]:=by cases hx<;>simp only[qd5,reduceCtorEq]at h<;>exact⟨#[],by simp[Builtin.firstCells,loadCells,loadCellsFrom],rfl⟩
theorem qhq(s:Sim ρ H w) {x:AV} {n m sz:Nat} {cs:List AV} {x':Value} (h:qbj H sz n x=some cs) (hm:qd5 x=some m) (hn:n<=m) (hx:VR ρ x x') :
  ∃c,(Builtin.firstCells sz n x').run P w=.ok c w/\VRs ρ cs c.toList/\(cs.length=n * sz\/∃st,x=.str st):=by
 cases hx with
 |nilS=>simp only[qd5,sj]at hm;simp only[qbj,sj]at h;subst h;exact⟨#[],by simp[Builtin.firstCells],.nil,.inl (by rw[show n=0 from by omega];simp)⟩
 |eslc a c=>
  simp only[qd5,sj]at hm;have:n=0:=by omega
  subst this;simp only[qbj,sj]at h;subst h;exact⟨#[],by simp[Builtin.firstCells,loadCells,loadCellsFrom],.nil,.inl (by simp)⟩
 |slcE b o len c l hl hc=>obtain⟨xs,hv,hlen,hcell⟩:=qez s (show readCells H b o (n * sz)=some cs from h) hl;refine⟨xs.toArray,?_,hv,.inl hlen⟩;exact run_firstCells_some (P:=P) w sz n _ _ _ xs (by rw[hv.1,hlen]) (fun j v hj=>by rw[qgq];exact hcell j v hj)
 |slcR b o len sz' c l hl hc hf=>obtain⟨xs,hv,hlen,hcell⟩:=qez s (show readCells H b o (n * sz)=some cs from h) hl;refine⟨xs.toArray,?_,hv,.inl hlen⟩;exact run_firstCells_some (P:=P) w sz n _ _ _ xs (by rw[hv.1,hlen]) (fun j v hj=>by rw[qgq];exact hcell j v hj)
 |fslc sz' es cb off cap vs hB hcap hz hc hv=>
  simp only[qd5,sj]at hm;subst hm;simp only[qbj]at h;split at h
  ·rename_i hb;have hb:=Nat.eq_of_beq_eq_true hb;subst hb;simp only[sj]at h;subst h;have hz':∀i (hi:i < (es.take n).length),(es.take n)[i].cells.length=sz':=fun i hi=>(by rw[ye];exact hz i (by simp at hi;omega));have hlen:(qaa (es.take n)).length=n * sz':=(by rw[qkq hz',jL,yC hn]);have hdm:∀k,k < n * sz'->k / sz' < n/\k % sz' < sz'/\k / sz' * sz'+k % sz'=k:=fun k hk=>by
    have h0:0 < sz':=by
     rcases Jn sz' with h|h
     ·subst h;simp at hk
     ·exact h
    exact⟨Nat.div_lt_of_lt_mul (by rw[Nat.mul_comm];exact hk),Nat.mod_lt _ h0,by rw[Nat.mul_comm];exact Nat.div_add_mod k sz'⟩
   have hrun:=run_loadCells (P:=P) w ⟨cb,off,none⟩ (n * sz') (fun k=>vs (k / sz') (k % sz')) (fun k hk=>by obtain⟨h1,h2,h3⟩:=hdm k hk;have:=hc (k / sz') (by omega) (k % sz') h2;rw[Nat.add_assoc,h3]at this;rw[qgq,s.cellW (a:=⟨cb,_,none⟩) hB];exact this);refine⟨_,by simpa only[Builtin.firstCells]using hrun,⟨by simp[hlen],fun k h1 h2=>?_⟩,.inl hlen⟩;rw[hlen]at h1;obtain⟨h3,h4,h5⟩:=hdm k h1;simp only[Jb,Jo];have e:(qaa (es.take n))[k]'(by rw[hlen];exact h1)=es[k / sz'].cells[k % sz']'(by rw[hz _ (by omega)];exact h4):=(by have:=qxe hz' (k / sz') (k % sz') (by simp;omega) h4 (by rw[h5,hlen];exact h1);simp only[h5]at this;rw[this];simp[ye]);rw[e];exact(hv _ _ _ _).mono ρ.bare_le
  ·simp at h
 |fnil sz'=>
  simp only[qd5,sj]at hm
  have : n = 0 := by have : m = 0 := by rw [<- hm]; rfl
                     omega
  subst this;simp only[qbj,List.take_nil,qaa]at h;split at h
  ·simp only[sj]at h;subst h;exact⟨#[],by simp[Builtin.firstCells],.nil,.inl (by simp)⟩
  ·simp at h
 |fnone sz' a c=>
  simp only[qd5,sj]at hm
  have : n = 0 := by have : m = 0 := by rw [<- hm]; rfl
                     omega
  subst this;simp only[qbj,List.take_nil,qaa]at h;split at h
  ·simp only[sj]at h;subst h;exact⟨#[],by simp[Builtin.firstCells,loadCells,loadCellsFrom],.nil,.inl (by simp)⟩
  ·simp at h
 |str st=>simp only[qd5,sj]at hm;subst hm;simp only[qbj,sj]at h;subst h;refine⟨_,by simp only[Builtin.firstCells,yV];rfl,⟨by simp[qi4,qis],fun i h1 h2=>?_⟩,.inr ⟨st,rfl⟩⟩;rw[qpb];simp only[qis,List.map_toArray,List.getElem_toArray,Jb,yq];exact .int _ _
 |zslcN=>
  simp only[qd5,sj]at hm;have:n=0:=by omega
  subst this;simp only[qbj,sj]at h;subst h;exact⟨#[],by simp[Builtin.firstCells],.nil,.inl (by simp)⟩
 |zslcE a=>
  simp only[qd5,sj]at hm;have:n=0:=by omega
  subst this;simp only[qbj,sj]at h;subst h;exact⟨#[],by simp[Builtin.firstCells,loadCells,loadCellsFrom],.nil,.inl (by simp)⟩
 |_=>simp[qd5]at hm
theorem qor{b kn:Nat} (h:qbx H b=some kn):∃k cs,H.get b=some k/\k.rd=some cs/\cs.length=kn:=by obtain⟨k,hk,h⟩:=obs h;obtain⟨cs,hrd,h⟩:=obs h;simp only[sj]at h;exact⟨k,cs,hk,hrd,h⟩
def qqp(elem:TypeId) (cs:List AV) (k:Blk):Prop:=k=.cells cs\/∃fz,fz<=cs.length/\k=.buf elem fz cs
theorem qjp{elem:TypeId} {cs:List AV}:qqp elem cs (qpj P elem cs):=by
 unfold qpj;split
 ·exact .inr ⟨0,jx _,rfl⟩
 ·exact .inl rfl
theorem zck{w:World} {cs:List AV} {c:Array Value} {elem:TypeId} {n:Nat} {k:Blk} (hk:qqp elem cs k) (hn:cs.length<=c.size) (hv:∀i (h:i < cs.length) (h':i < c.size),VR (ρ.upd n ⟨w.heap.size,0,c.size⟩) cs[i] c[i]) :
  BlkR (ρ.upd n ⟨w.heap.size,0,c.size⟩) (w.alloc (.cells c elem)) ⟨w.heap.size,0,c.size⟩ k:=by
 have h0:=qsg (t:=elem) (fr:=(0,0)) hn hv (fun i _=>by simp);have hh:(w.alloc (.cells c elem)).heap[w.heap.size]? = some (.cells c elem (0,0)):=by show (w.heap.push _)[w.heap.size]? = _;simp
 rcases hk with rfl|⟨fz,hfz,rfl⟩
 ·exact h0
 ·exact⟨⟨h0.1,fun i hi=>(h0.2.1 i hi).1,h0.2.2⟩,rfl,hfz,c,0,0,hh,.inl rfl⟩
theorem qtw{c old new:Array Value} {zv:Value} {cs:List AV} {need newCap sz:Nat} {elem:TypeId} {k:Blk} (hk:qqp elem cs k) (s:Sim ρ H w) (hv:VRs ρ cs (old++new).toList)
  (hzc:zv.cells.size=sz) (hlen:cs.length=need * sz) (hcap:need<=newCap) (h63:newCap<=9223372036854775807) (hc:c=old++new++Builtin.zeroCells zv.cells (newCap - need)) :
  Good ρ H w (.ok (.slice (some ⟨w.heap.size,0,none⟩) need newCap) ((w.drew).alloc (.cells c elem))) (.slc H.n 0 need (.rest sz)) (H.new k):=by
 have hsz:c.size=newCap * sz:=by
  have h1:(old++new).size=need * sz:=by have:=hv.1;simp at this;simp;omega
  rw[hc,Array.size_append,h1];simp only[Builtin.zeroCells,Array.size_map,Array.size_range,hzc];rw[<- Nat.add_mul];congr 1;omega
 have hle:ρ.le (ρ.upd H.n ⟨w.heap.size,0,c.size⟩):=Place.le_upd (s.dom _ (ja _));have hcl:cs.length<=c.size:=by rw[hsz,hlen];exact Nat.mul_le_mul_right _ hcap
 obtain⟨h1,h2⟩:=s.drew.new (.cells c elem) c.size k (zck hk hcl (fun i h h'=>by
  have hi:i < (old++new).toList.length:=by rw[hv.1];exact h
  have e:c[i]=(old++new).toList[i]:=by subst hc;rw[Array.getElem_append_left (by simpa using hi)];rfl
  rw[e];exact(hv.2 i h hi).mono hle))
 refine⟨_,_,_,rfl,?_,h1,(Step.drew _ _ _).trans h2⟩;exact .slcR H.n 0 need sz newCap ⟨w.heap.size,0,c.size⟩ Place.upd_same hcap ⟨by simp[hsz],h63⟩
end
section
variable {P:Program} {ρ:Place} {H H':Heap} {w:World}
structure AppT (P:Program) (ts:Array TypeId) (elem:TypeId) (sz by_:Nat) (zv:Value):Prop where
 fst:∃t,ts[0]? = some t/\P.underlying t=some (.slice elem)
 snd:∃u,ts[1]? = some u/\(P.underlying u=some .string\/∃e,P.underlying u=some (.slice e))
 size:∀w,(sizeOf elem).run P w=.ok sz w
 info:∃i:TypeInfo,(∀w,(typeInfo elem).run P w=.ok i w)/\i.bytes=by_
 zero:∀w,(zeroValue elem).run P w=.ok zv w
theorem AppT.room{ts:Array TypeId} {ty elem:TypeId} {sz by_:Nat} {zv:Value} (T:AppT P ts elem sz by_ zv) {y':Value} {n sLen sCap:Nat} {a:Addr} {new:Array Value} {w w':World}
  (hn:(Builtin.lenOf y').run P w=.ok n w) (hle:sLen+n<=sCap) (hnew:(Builtin.firstCells sz n y').run P w=.ok new w)
  (hst:(storeCells (a.add (sLen * sz)) new.toList).run P w=.ok () w') :
  (Builtin.append_ ts ty #[.slice (some a) sLen sCap,y']).run P w=.ok (.slice (some a) (sLen+n) sCap) w':=by
 obtain⟨t,ht,hd⟩:=T.fst;obtain⟨u,hu,hud⟩:=T.snd;rcases hud with hud|⟨e,hud⟩ <;>
  simp[Builtin.append_,ht,hu,jk hd,jk hud,T.size,hn,hle,hnew,hst]
theorem AppT.atNil{ts:Array TypeId} {ty elem:TypeId} {sz by_:Nat} {zv:Value} (T:AppT P ts elem sz by_ zv) {y':Value} {sCap:Nat} {new:Array Value} {w:World}
  (hn:(Builtin.lenOf y').run P w=.ok 0 w) (hnew:(Builtin.firstCells sz 0 y').run P w=.ok new w) :
  (Builtin.append_ ts ty #[.slice none 0 sCap,y']).run P w=.ok (.slice none 0 sCap) w:=by
 obtain⟨t,ht,hd⟩:=T.fst;obtain⟨u,hu,hud⟩:=T.snd;rcases hud with hud|⟨e,hud⟩ <;>
  simp[Builtin.append_,ht,hu,jk hd,jk hud,T.size,hn,hnew]
theorem zc8{need old:Nat} {elem:TypeId} {t:Nat} (h:need<=17592186044416):(Question.appendCap need old elem).cut t<=9223372036854775807:=by show need+t % (2 ^ 63 - need)<=_;have:=Nat.mod_lt t (show 0 < 2 ^ 63 - need by omega);omega
theorem AppT.grows{ts:Array TypeId} {ty elem:TypeId} {sz by_:Nat} {zv:Value} (T:AppT P ts elem sz by_ zv) {y':Value} {n sLen sCap:Nat} {base:Option Addr} {old new:Array Value} {w:World}
  (hn:(Builtin.lenOf y').run P w=.ok n w) (hgt:¬ sLen+n<=sCap) (hb:0 < by_) (hroom:(sLen+n) * by_<=17592186044416)
  (hold:(Builtin.firstCells sz sLen (.slice base sLen sCap)).run P w.drew=.ok old w.drew) (hnew:(Builtin.firstCells sz n y').run P w.drew=.ok new w.drew) :
  ∃newCap,(sLen+n<=newCap/\newCap<=9223372036854775807)/\(Builtin.append_ ts ty #[.slice base sLen sCap,y']).run P w =
   .ok (.slice (some ⟨w.heap.size,0,none⟩) (sLen+n) newCap) (w.drew.alloc (.cells (old++new++Builtin.zeroCells zv.cells (newCap - (sLen+n))) elem)):=by
 obtain⟨t,ht,hd⟩:=T.fst;obtain⟨u,hu,hud⟩:=T.snd;obtain⟨ti,hti,rfl⟩:=T.info;have hfit:Builtin.nextslicecap (sLen+n) sCap * ti.bytes<=281474976710656:=growslice_fits (by omega) (by omega);have h63:¬ (ti.bytes=0):=by omega
 refine⟨(Question.appendCap (sLen+n) sCap elem).cut (w.tape w.drawn (.appendCap (sLen+n) sCap elem)),⟨by simp[Question.cut],zc8 (j6 (Nat.le_mul_of_pos_right _ hb) hroom)⟩,?_⟩;have hforced:(Question.appendCap (sLen+n) sCap elem).forced=false:=rfl;have hnf:¬ 281474976710656 < Builtin.nextslicecap (sLen+n) sCap * ti.bytes:=by omega
 rcases hud with hud|⟨e,hud⟩ <;>
  simp[Builtin.append_,ht,hu,jk hd,jk hud,T.size,hn,hgt,hti,h63,hnf,hforced,hold,hnew,T.zero,newRow,newObj,Sem.run]
theorem qqo(s:Sim ρ H w) {ts:Array TypeId} {t u ty elem:TypeId} (ht:ts[0]? = some t) (hd:P.underlying t=some (.slice elem))
  (hu:ts[1]? = some u) (hud:P.underlying u=some .string\/∃e,P.underlying u=some (.slice e))
  {x y v:AV} {x' y':Value} (h:qbs P H elem x y=some (v,H')) (hx:VR ρ x x') (hy:VR ρ y y') :
  Good ρ H w ((Builtin.append_ ts ty #[x',y']).run P w) v H':=by
 replace h:=obs h;obtain⟨sz,hsz,h⟩:=h;replace h:=obs h;obtain⟨by_,hby,h⟩:=h;replace h:=obs h;obtain⟨z,hzz,h⟩:=h;replace h:=obs h;obtain⟨n,hn,h⟩:=h;split at h
 ·simp at h
 rename_i hcond;simp only[Bool.or_eq_false_iff,Bool.not_eq_false']at hcond;obtain⟨hc0,hcz⟩:=hcond;have hszpos:0 < sz:=by
  rcases Jn sz with h0|h0
  ·rw[h0]at hc0;simp at hc0
  ·exact h0
 simp only[jf]at hcz;have hbpos:0 < by_:=jG hcz.2;have hzl:=Nat.eq_of_beq_eq_true hcz.1;obtain⟨zv,rfl,hzr,_⟩:=qfp hzz;have hzs:zv.cells.size=sz:=by have:=(VRs.const (ρ:=ρ) zv).1;simp at this;omega
 have T:AppT P ts elem sz by_ zv:=⟨⟨t,ht,hd⟩,⟨u,hu,hud⟩,qdq hsz,qmp hby,hzr⟩;have hl:=qxx (P:=P) hn hy;have inplace:∀(b o len c:Nat) (l:Loc) (cap:Cap),ρ b=some l->len+n<=c->∀cs,qbj H sz n y=some cs->allSingle cs=true->writeCells H b (o+len * sz) cs=some H' ->
   VR ρ (.slc b o (len+n) cap) (.slice (some ⟨l.cb,l.off+o,none⟩) (len+n) c) ->
   Good ρ H w ((Builtin.append_ ts ty #[.slice (some ⟨l.cb,l.off+o,none⟩) len c,y']).run P w) (.slc b o (len+n) cap) H':=fun b o len c l cap hl0 hle cs hcs hsing hw hv=>by
  obtain⟨cn,hr,hcv,_⟩:=qhq (P:=P) s hcs hn (ja _) hy;obtain⟨h1,h2,h3⟩:=qnt (P:=P) s hw hl0 hcv (hcv.oneCell hsing);refine⟨_,ρ,_,T.room (hl w) hle hr (w':=w.setCells l.cb (l.off+(o+len * sz)) cn.toList) ?_,hv,h2,h3⟩;rw[qgq,Nat.add_assoc];exact h1
 have grow:∀(base:Option Addr) (sLen sCap:Nat) (old:Array Value) (os cs:List AV) (Hd:Heap) (k:Blk),qqp elem (os++cs) k->¬ sLen+n<=sCap->qdg (sLen+n) by_=true ->
   (Builtin.firstCells sz sLen (.slice base sLen sCap)).run P w.drew=.ok old w.drew->VRs ρ os old.toList->os.length=sLen * sz ->
   qbj H sz n y=some cs->cs.length=n * sz->Sim ρ Hd w->Step ρ H w ρ Hd w ->
   Good ρ H w ((Builtin.append_ ts ty #[.slice base sLen sCap,y']).run P w) (.slc Hd.n 0 (sLen+n) (.rest sz)) (Hd.new k):=fun base sLen sCap old os cs Hd k hkn hgt hroom hold hov hol hcs hcl sd st=>by
  obtain⟨cn,hr,hcv,_⟩:=qhq (P:=P) s.drew hcs hn (ja _) hy;obtain⟨newCap,⟨hle,h63⟩,hrun⟩:=T.grows (ty:=ty) (hl w) hgt hbpos (jG hroom) hold hr;rw[hrun];obtain⟨x1,ρ1,w1,e1,g1,g2,g3⟩:=qtw (elem:=elem) (k:=k) hkn (old:=old) (new:=cn) (zv:=zv) (newCap:=newCap) (need:=sLen+n) (sz:=sz) sd
   (by rw[Array.toList_append];exact hov.append hcv) hzs (by simp[hol,hcl,Nat.add_mul]) hle h63 rfl
  exact⟨x1,ρ1,w1,e1,g1,g2,st.trans g3⟩
 split at h
 ·-- nil
  cases hx;split at h
  ·simp only[sj,jg]at h;obtain⟨rfl,rfl⟩:=h;obtain⟨c,hc,_⟩:=qhf (P:=P) hn hy sz w;exact Good.pure s .nilS (T.atNil (hl w) hc)
  ·rename_i n' _;split at h
   ·rename_i hroom;replace h:=obs h;obtain⟨cs,hcs,h⟩:=h;split at h
    next hlen=>simp only[sj,jg]at h;obtain⟨rfl,rfl⟩:=h;have:=grow none 0 0 #[] [] cs H (qpj P elem cs) qjp (by omega) (by simpa using hroom) (by simp[Builtin.firstCells]) .nil (by simp) hcs (Nat.eq_of_beq_eq_true hlen) s (.refl _ _ _);simpa using this
    ·simp at h
   ·simp at h
 ·rename_i b o len cap;replace h:=obs h;obtain⟨cs,hcs,h⟩:=h;split at h
  ·simp at h
  rename_i hroom;split at h
  ·simp at h
  rename_i hsing;cases hx with
  |slcE _ _ _ c l hl0 hlen=>
   dsimp only at h;split at h
   next hle=>replace h:=obs h;obtain⟨H1,hw,h⟩:=h;simp only[sj,jg]at h;obtain⟨rfl,rfl⟩:=h;have hle:=jG hle;exact inplace b o len c l _ hl0 hle cs hcs hsing hw (.slcE _ _ _ _ l hl0 hle)
   ·rename_i hle;have hgt:¬ len+n<=c:=fun h0=>(by rw[show Nat.ble (len+n) c=true by rw[jW];exact h0]at hle;cases hle);split at h
    next hcl=>replace h:=obs h;obtain⟨old,hold,h⟩:=h;simp only[sj,jg]at h;obtain⟨rfl,rfl⟩:=h;obtain⟨xs,hv,hlen',hcell⟩:=qez s.drew hold hl0;refine grow _ len c xs.toArray old cs H _ qjp hgt hroom ?_ hv hlen' hcs (Nat.eq_of_beq_eq_true hcl) s (.refl _ _ _);exact run_firstCells_some (P:=P) w.drew sz len _ _ _ xs (by rw[hv.1,hlen']) (fun j v hj=>by rw[qgq];exact hcell j v hj)
    ·simp at h
  |slcR _ _ _ sz' c l hl0 hlen hf=>
   dsimp only at h;split at h
   ·simp at h
   rename_i hszeq;have hszeq:=Nat.eq_of_beq_eq_true hszeq;subst hszeq;replace h:=obs h;obtain⟨kn,hkn,h⟩:=h;obtain⟨k0,cells,hcells,hrd0,rfl⟩:=qor hkn;obtain⟨l1,hl1,_,_,hr0⟩:=s.block hcells;rw[hl0]at hl1;cases hl1;have hr:=hr0.rdR hrd0;have hkc:=hr.1;split at h
   next hle=>replace h:=obs h;obtain⟨H1,hw,h⟩:=h;simp only[sj,jg]at h;obtain⟨rfl,rfl⟩:=h;have hle:=jG hle;have hle2:len+n<=c:=Nat.le_of_mul_le_mul_right (by omega:(len+n) * sz<=c * sz) hszpos;exact inplace b o len c l _ hl0 hle2 cs hcs hsing hw (.slcR _ _ _ _ _ l hl0 hle2 hf)
   ·split at h
    ·rename_i hend;have hend:=Nat.eq_of_beq_eq_true hend;split at h
     ·rename_i hcl;have hcl:=Nat.eq_of_beq_eq_true hcl;replace h:=obs h;obtain⟨old,hold,h⟩:=h;replace h:=obs h;obtain⟨k1,hk1,h⟩:=h;rw[hcells]at hk1;cases hk1;replace h:=obs h;obtain⟨k',hgo,h⟩:=h;simp only[sj,jg]at h;obtain⟨rfl,rfl⟩:=h;have hun:∀i,i < l.fin->l.off+o+len * sz<=i->w.frozen? ⟨l.cb,i,none⟩=false:=fun i hi hoi=>by
       cases k0<;>simp only[Blk.rd,sj,reduceCtorEq]at hrd0
       ·exact(hr0.2.1 i hi).2
       ·rename_i t fz cs0;subst hrd0;obtain⟨_,h0,hfz,cc,lo,hh,hheap,hz⟩:=hr0;simp only[World.frozen?,hheap];rcases hz with rfl|hz
        ·by_cases h1:lo<=i<;>simp<;>omega
        ·simp;omega
      have hlen2:old.length=len * sz:=(by obtain⟨_,_,hx,_⟩:=qez s hold hl0;exact hx);have hnr:qqp elem (old++cs) k':=by
       unfold goOn at hgo;split at hgo
       ·simp only[sj]at hgo;subst hgo;exact .inl rfl
       ·rename_i t fz cs0;split at hgo
        next hc=>simp only[jf]at hc;have h1:=Nat.eq_of_beq_eq_true hc.1;have h2:=Nat.eq_of_beq_eq_true hc.2;simp only[sj]at hgo;subst hgo;subst h1;simp only[Blk.rd,sj]at hrd0;subst hrd0;refine .inr ⟨fz,?_,rfl⟩;have:=hr0.2.2.1;simp only[js];omega
        ·simp at hgo
       ·simp at hgo
      have hsame:∀{w':World} {l':Loc} {ρ':Place},l'.cb=l.cb->l'.off=l.off+o->l'.fin=l.fin->(∀i,w'.frozen? ⟨l.cb,i,none⟩=w.frozen? ⟨l.cb,i,none⟩) ->
        (∀c t fr,w.heap[l.cb]? = some (.cells c t fr)->∃c',w'.heap[l.cb]? = some (.cells c' t fr)/\c'.size=c.size) ->
        l'.off+(old++cs).length<=l'.fin->(∀i,i < l'.fin->(w'.cell? ⟨l'.cb,i,none⟩).isSome=true) ->
        (∀i (h:i < (old++cs).length),∃x,w'.cell? ⟨l'.cb,l'.off+i,none⟩=some x/\VR ρ' (old++cs)[i] x)->BlkR ρ' w' l' k':=by
       intro w' l' ρ' e1 e2 e3 hf hk g1 g2 g3;unfold goOn at hgo;split at hgo
       ·simp only[sj]at hgo;subst hgo;exact⟨g1,fun i hi=>⟨g2 i hi,by rw[e1,hf];exact(hr0.2.1 i (by omega)).2⟩,g3⟩
       ·rename_i t fz cs0;split at hgo
        next hc=>simp only[jf]at hc;have h2:=Nat.eq_of_beq_eq_true hc.2;simp only[sj]at hgo;subst hgo;simp only[Blk.rd,sj]at hrd0;subst hrd0;obtain⟨r1,r2,r3,c,lo,hi',hh,hz⟩:=hr0;obtain⟨c',hc',_⟩:=hk _ _ _ hh;refine⟨⟨g1,g2,g3⟩,by omega,?_,c',lo,hi',by rw[e1];exact hc',hz⟩;simp only[js];omega
        ·simp at hgo
       ·simp at hgo
      by_cases hgt:len+n<=c
      ·-- in place, under a new number
       obtain⟨cn,hrun,hcv,_⟩:=qhq (P:=P) s hcs hn (ja _) hy;obtain⟨xs,hv,hlen',hcell⟩:=qez s hold hl0;have h1:=hcv.oneCell hsing;have hcn:cn.toList.length=n * sz:=(by rw[hcv.1,hcl]);have hmul:(len+n) * sz<=c * sz:=Nat.mul_le_mul_right _ hgt;rw[Nat.add_mul]at hmul;have hcell2:∀j,j < cn.toList.length->(w.cell? ⟨l.cb,l.off+o+len * sz+j,none⟩).isSome=true:=fun j hj=>hr.2.1 _ (by omega);have hin:=World.cell?_setCells_in l.cb cn.toList (l.off+o+len * sz) w hcell2;have hout:=World.cell?_setCells_out l.cb cn.toList (l.off+o+len * sz) w;have hst:=run_storeCells_cells (P:=P) l.cb (l.off+o+len * sz) cn.toList 0 w (by simpa using hcell2) (fun j hj=>hun _ (by omega) (by omega)) h1;simp only[yD]at hst;have hle':ρ.le (ρ.upd H.n ⟨l.cb,l.off+o,l.fin⟩):=Place.le_upd (s.dom _ (ja _));obtain⟨g1,g2⟩:=s.regrow (k:=k') (l':=⟨l.cb,l.off+o,l.fin⟩) hcells hl0 rfl (qgt l.cb cn.toList (l.off+o+len * sz) w)
        (fun j hj=>qgu _ _ _ _ j hj) (qd1 _ _ _ _).1 (qd1 _ _ _ _).2.1 (qd1 _ _ _ _).2.2 (by
         refine hsame rfl rfl rfl (fun i=>World.frozen?_setCells _ _ _ _ _) (fun c t fr he=>qj3 _ _ _ _ he) (by simp only[js];omega) (fun i hi=>?_) fun i hi=>?_
         ·by_cases hi2:l.off+o+len * sz<=i/\i < l.off+o+len * sz+cn.toList.length
          ·have:=hin (i - (l.off+o+len * sz)) (by omega);rw[show l.off+o+len * sz+(i - (l.off+o+len * sz))=i by omega]at this;show (World.cell? _ ⟨l.cb,i,none⟩).isSome=true;rw[this];rfl
          ·show (World.cell? _ ⟨l.cb,i,none⟩).isSome=true;rw[hout ⟨l.cb,i,none⟩ (fun _ _=>by show i < _\/_<=i;omega)];exact hr.2.1 i hi
         ·simp only[js]at hi;by_cases hi2:i < len * sz
          ·have hx:i < xs.length:=(by rw[hv.1,hlen'];exact hi2);refine⟨xs[i],?_,?_⟩
           ·show World.cell? _ ⟨l.cb,l.off+o+i,none⟩=_;rw[hout ⟨l.cb,l.off+o+i,none⟩ (fun _ _=>by show l.off+o+i < _\/_<=l.off+o+i;omega)];exact hcell i _ (List.getElem?_eq_getElem hx)
           ·rw[yb (by omega)];exact(hv.2 i (by omega) hx).mono hle'
          ·have hj:i - len * sz < cn.toList.length:=(by omega);refine⟨cn.toList[i - len * sz],?_,?_⟩
           ·have:=hin (i - len * sz) hj;show World.cell? _ ⟨l.cb,l.off+o+i,none⟩=_;rw[show l.off+o+len * sz+(i - len * sz)=l.off+o+i by omega]at this;exact this
           ·rw[jB (by omega)];have e:i - old.length=i - len * sz:=(by omega);simp only[e];exact(hcv.2 _ (by omega) hj).mono hle')
       refine⟨_,_,_,T.room (hl w) hgt hrun (w':=w.setCells l.cb (l.off+o+len * sz) cn.toList) (by rw[qgq];exact hst),?_,g1,g2⟩;exact .slcR H.n 0 (len+n) sz c ⟨l.cb,l.off+o,l.fin⟩ Place.upd_same hgt (by simpa using hf)
      ·obtain⟨xs,hv,hlen',hcell⟩:=qez s.drew hold hl0;obtain⟨sd,st⟩:=s.dropped b;have:=grow (some ⟨l.cb,l.off+o,none⟩) len c xs.toArray old cs (H.drop b) k' hnr hgt hroom
        (run_firstCells_some (P:=P) w.drew sz len _ _ _ xs (by rw[hv.1,hlen']) (fun j v hj=>by rw[qgq];exact hcell j v hj)) hv hlen' hcs hcl sd st
       exact this
     ·simp at h
    ·simp at h
 ·-- an empty one
  split at h
  ·simp only[sj,jg]at h;obtain⟨rfl,rfl⟩:=h;obtain⟨c,hc,hcn⟩:=qhf (P:=P) hn hy sz w;cases hx with
   |zslcN=>exact Good.pure s .zslcN (T.atNil (hl w) hc)
   |zslcE a=>exact Good.pure s (.zslcE a) (T.room (hl w) (by omega) hc (by rw[hcn];rfl))
  ·rename_i n' _;split at h
   ·rename_i hroom;replace h:=obs h;obtain⟨cs,hcs,h⟩:=h;split at h
    ·rename_i hlen;simp only[sj,jg]at h;obtain⟨rfl,rfl⟩:=h;cases hx with
     |zslcN=>have:=grow none 0 0 #[] [] cs H (qpj P elem cs) qjp (by omega) (by simpa using hroom) (by simp[Builtin.firstCells]) .nil (by simp) hcs (Nat.eq_of_beq_eq_true hlen) s (.refl _ _ _);simpa using this
     |zslcE a=>have:=grow (some a) 0 0 #[] [] cs H (qpj P elem cs) qjp (by omega) (by simpa using hroom) (by simp[Builtin.firstCells,loadCells,loadCellsFrom]) .nil (by simp) hcs (Nat.eq_of_beq_eq_true hlen) s (.refl _ _ _);simpa using this
    ·simp at h
   ·simp at h
 ·cases hx with
  |eslc a c=>
   split at h
   ·simp only[sj,jg]at h;obtain⟨rfl,rfl⟩:=h;obtain⟨cn,hc,hcn⟩:=qhf (P:=P) hn hy sz w;exact Good.pure s (.eslc a c) (T.room (hl w) (by omega) hc (by rw[hcn];rfl))
   ·simp at h
 ·-- frozen, with no room
  rename_i s0 es;split at h
  ·simp at h
  rename_i n' _;replace h:=obs h;obtain⟨os,hos,h⟩:=h;replace h:=obs h;obtain⟨cs,hcs,h⟩:=h;split at h
  ·rename_i hb;simp only[jf]at hb;obtain⟨hroom,hcl,hol⟩:=hb;simp only[sj,jg]at h;obtain⟨rfl,rfl⟩:=h;cases hx with
   |xslc sz' es' cb off vs hB hz hc hv=>have hx2:VR ρ (.fslc s0 es) (.slice (some ⟨cb,off,none⟩) es.length es.length):=.fslc s0 es cb off es.length vs hB (ja _) hz hc hv;obtain⟨old,hold,hov,_⟩:=qhq (P:=P) s.drew hos (m:=es.length) rfl (ja _) hx2;exact grow (some ⟨cb,off,none⟩) es.length es.length old os cs H (qpj P elem (os++cs)) qjp (by omega) hroom hold hov (Nat.eq_of_beq_eq_true hol) hcs (Nat.eq_of_beq_eq_true hcl) s (.refl _ _ _)
  ·simp at h
 ·simp at h
theorem zbn{ts:Array TypeId} {t u ty elem:TypeId} {kk:IntKind} {sz:Nat} {ti:TypeInfo} {zv:Value} {w:World} (ht:ts[0]? = some t) (hd:P.underlying t=some (.slice elem))
  (hu:ts[1]? = some u) (hud:P.underlying u=some (.int kk)) (hS:∀w,(sizeOf elem).run P w=.ok sz w) (hti:∀w,(typeInfo elem).run P w=.ok ti w) (hzr:∀w,(zeroValue elem).run P w=.ok zv w)
  {k:Nat} (hk:0 < k) (hsz:0 < sz) (hb:0 < ti.bytes) (hroom:k * ti.bytes<=17592186044416) (hlt:k < 140737488355328) :
  (Builtin.append_ ts ty #[.slice none 0 0,.int .i64 (k:Int)]).run P w =
   .ok (.slice (some ⟨w.heap.size,0,none⟩) k ((Question.appendCap k 0 elem).cut (w.tape w.drawn (.appendCap k 0 elem))))
    (w.drew.alloc (.cells (#[]++Builtin.zeroCells zv.cells k++Builtin.zeroCells zv.cells ((Question.appendCap k 0 elem).cut (w.tape w.drawn (.appendCap k 0 elem)) - k)) elem)):=by
 have hwr:IntKind.i64.wrap (k:Int)=k:=Jj _ (by omega);have hA:¬ (281474976710656 < (k:Int) * (ti.bytes:Int)):=by
  have:(k:Int) * (ti.bytes:Int)=((k * ti.bytes:Nat):Int):=by simp
  rw[this];omega
 have hfit:Builtin.nextslicecap k 0 * ti.bytes<=281474976710656:=growslice_fits (by omega) (by omega);have hnf:¬ 281474976710656 < Builtin.nextslicecap k 0 * ti.bytes:=by omega
 have h63:¬ (ti.bytes=0):=by omega
 have hk0:¬ k=0:=by omega
 have hsz0:¬ sz=0:=by omega
 have hneg:¬ ((k:Int) < 0):=by omega
 have hmx:¬ (IntKind.i64.max < (k:Int)):=by
  have:IntKind.i64.max=9223372036854775807:=by decide
  omega
 have hforced:(Question.appendCap k 0 elem).forced=false:=rfl;simp[Builtin.append_,ht,hu,jk hd,jk hud,hS,asInt,asIntOf,hti,hwr,hA,hnf,h63,hk0,hsz0,hneg,hmx,hforced,hzr,Builtin.firstCells,newRow,newObj,Sem.run];rw[jm (show ¬ (9223372036854775807:Int) < (k:Int) by omega),jm (by have:=Nat.mul_pos hk hsz;omega)]
theorem grow_run(s:Sim ρ H w) {ts:Array TypeId} {t u ty elem:TypeId} {k:IntKind} (ht:ts[0]? = some t) (hd:P.underlying t=some (.slice elem))
  (hu:ts[1]? = some u) (hud:P.underlying u=some (.int k))
  {x y v:AV} {x' y':Value} (h:qyj P H elem x y=some (v,H')) (hx:VR ρ x x') (hy:VR ρ y y') :
  Good ρ H w ((Builtin.append_ ts ty #[x',y']).run P w) v H':=by
 replace h:=obs h;obtain⟨sz,hsz,h⟩:=h;replace h:=obs h;obtain⟨by_,hby,h⟩:=h;replace h:=obs h;obtain⟨z,hzz,h⟩:=h;split at h
 ·simp at h
 rename_i hcond;simp only[Bool.or_eq_false_iff,Bool.not_eq_false']at hcond;obtain⟨hc0,hcz⟩:=hcond;have hszpos:0 < sz:=by
  rcases Jn sz with h0|h0
  ·rw[h0]at hc0;simp at hc0
  ·exact h0
 simp only[jf]at hcz;have hbpos:0 < by_:=jG hcz.2;have hzl:=Nat.eq_of_beq_eq_true hcz.1;obtain⟨zv,rfl,hzr,_⟩:=qfp hzz;have hzs:zv.cells.size=sz:=by have:=(VRs.const (ρ:=ρ) zv).1;simp at this;omega
 have hS:=qdq hsz;obtain⟨ti,hti,rfl⟩:=qmp hby;cases x with
 |nilS=>
  cases hx;cases y with
  |int k2 n=>
   cases k2 with
   |i64=>
    cases hy;replace h:=obs h;obtain⟨n2,hn,h⟩:=h;obtain⟨rfl,hlt⟩:=qg1 hn;have hwr:IntKind.i64.wrap (n2:Int)=n2:=Jj _ (by omega);cases n2 with
    |zero=>simp only[sj,jg]at h;obtain⟨rfl,rfl⟩:=h;refine Good.pure s .nilS ?_;simp[Builtin.append_,ht,hu,jk hd,jk hud,hS,asInt,asIntOf,hti,Jj]
    |succ m=>
     simp only at h;split at h
     ·rename_i hroom;have hroom:=jG hroom;simp only[sj,jg]at h;obtain⟨rfl,rfl⟩:=h;have hzv:=qkx (ρ:=ρ) (n:=m+1) hzl hzs;have hzc:(Builtin.zeroCells zv.cells (m+1)).toList=((Array.range ((m+1) * sz)).map fun i=>zv.cells[i % zv.cells.size]!).toList:=(by simp[Builtin.zeroCells,hzs]);have hrun:=zbn (ty:=ty) (w:=w) ht hd hu hud hS hti hzr (k:=m+1) (by omega) hszpos hbpos hroom hlt;rw[hrun];obtain⟨x1,ρ1,w1,e1,g1,g2,g3⟩:=qtw (elem:=elem) (k:=qpj P elem (replL (ofV zv).cells (m+1))) qjp (old:=#[]) (new:=Builtin.zeroCells zv.cells (m+1)) (zv:=zv) (newCap:=(Question.appendCap (m+1) 0 elem).cut (w.tape w.drawn (.appendCap (m+1) 0 elem))) (need:=m+1) (sz:=sz) s
       (by rw[Array.empty_append,hzc];exact hzv) hzs (by rw[qhr,hzl]) (by simp[Question.cut]) (zc8 (j6 (Nat.le_mul_of_pos_right _ hbpos) hroom)) rfl
      exact⟨x1,ρ1,w1,e1,g1,g2,g3⟩
     ·simp at h
   |_=>simp at h
  |_=>simp at h
 |_=>simp at h
end
theorem qjm{z:List AV} (h:allSingle z=true):∀n,allSingle (replL z n)=true
 |0=>rfl
 |n+1=>by
  have app:∀(x y:List AV),allSingle x=true->allSingle y=true->allSingle (x++y)=true:=by
   intro x;induction x with
   |nil=>intro y _ hy;exact hy
   |cons v r ih=>
    intro y hx hy;simp only[List.cons_append,allSingle]at hx ⊢;split at hx
    next hv=>exact ih y hx hy
    ·cases hx
  exact app _ _ h (qjm h n)
section
variable {P:Program} {ρ:Place} {H H':Heap} {w:World}
theorem qik(s:Sim ρ H w) {b:Nat} {es es':List (AV × AV)} {vs:List AV} {l:Loc} {ents ents':Array MapEntry} {clock clock':Nat} (hg:H.get b=some (.map es)) (hl:ρ b=some l)
  (hw:w.heap[l.cb]? = some (.map ents clock)) (h:(H.ready b vs).set b (.map es')=some H') (hsz:ents'.size=es'.length)
  (hv:∀i (h:i < es'.length) (h':i < ents'.size),VR ρ es'[i].1 ents'[i].key/\VR ρ es'[i].2 ents'[i].val) :
  (setObj l.cb (.map ents' clock')).run P w=.ok () { w with heap:=w.heap.setIfInBounds l.cb (.map ents' clock') } /\
  Sim ρ H' { w with heap:=w.heap.setIfInBounds l.cb (.map ents' clock') }/\Step ρ H w ρ H' { w with heap:=w.heap.setIfInBounds l.cb (.map ents' clock') }:=by
 obtain⟨l',hl',_,hlt,_⟩:=s.block hg;rw[hl]at hl';cases hl';obtain⟨hn,hd,hk',⟨k0,hk0⟩,hs⟩:=qnd h s.nodup;refine⟨MapKept.run_setObj_map _ hw,s.turned hk0 hl hn hd hk' hs (by simp) (fun j hj=>?_) rfl rfl rfl ?_⟩
 ·show (w.heap.setIfInBounds l.cb _)[j]? = _;rw[Array.getElem?_setIfInBounds,jm (fun e=>hj e.symm)]
 ·refine⟨ents',clock',?_,hsz,hv⟩;show (w.heap.setIfInBounds l.cb _)[l.cb]? = _;rw[Array.getElem?_setIfInBounds];simp[hlt]
theorem zcb(s:Sim ρ H w) {ts:Array TypeId} {t ty:TypeId} (ht:ts[0]? = some t) {x:AV} {x':Value} (h:qql P H t x=some H') (hx:VR ρ x x') :
  Good ρ H w ((Builtin.clear_ ts ty #[x']).run P w) (.tup []) H':=by
 replace h:=obs h;obtain⟨d,hd,h⟩:=h;have unit:VR ρ (.tup []) (.tuple #[]):=.tup [] #[] rfl (fun i h=>absurd h (j3 i));have slc:∀(elem:TypeId) (b o len c:Nat) (l:Loc),d=.slice elem->ρ b=some l->((qby P elem).bind fun z=>(qcj P elem).bind fun sz=>match Nat.beq z.cells.length sz && allSingle z.cells with
   |true=>writeCells H b o (replL z.cells len)
   |false=>none)=some H'->Good ρ H w ((Builtin.clear_ ts ty #[.slice (some ⟨l.cb,l.off+o,none⟩) len c]).run P w) (.tup []) H':=fun elem b o len c l hde hl0 g=>by
  subst hde;replace g:=obs g;obtain⟨z,hz,g⟩:=g;replace g:=obs g;obtain⟨sz,hsz,g⟩:=g;split at g
  ·rename_i hc;simp only[jf]at hc;obtain⟨zv,rfl,hzr,_⟩:=qfp hz;have hzl:=Nat.eq_of_beq_eq_true hc.1;have hzs:zv.cells.size=sz:=(by have:=(VRs.const (ρ:=ρ) zv).1;simp at this;omega);have hzv:=qkx (ρ:=ρ) (n:=len) hzl hzs;obtain⟨h1,h2,h3⟩:=qnt (P:=P) s g hl0 hzv (hzv.oneCell (qjm hc.2 len));have hzc:(Builtin.zeroCells zv.cells len).toList=((Array.range (len * sz)).map fun i=>zv.cells[i % zv.cells.size]!).toList:=(by simp[Builtin.zeroCells,hzs]);cases len with
   |zero=>
    refine⟨.tuple #[],ρ,w,by simp[Builtin.clear_,ht,jk hd],unit,?_,?_⟩
    ·simpa[World.setCells]using h2
    ·simpa[World.setCells]using h3
   |succ len=>rw[<- hzc]at h1 h2 h3;refine⟨_,ρ,_,?_,unit,h2,h3⟩;simp[Builtin.clear_,ht,jk hd,hzr,h1]
  ·simp at g
 cases hx with
 |slcE b o len c l hl0 hlen=>cases d<;>first|exact slc _ b o len c l rfl hl0 h|simp at h
 |slcR b o len sz' c l hl0 hlen hf=>cases d<;>first|exact slc _ b o len c l rfl hl0 h|simp at h
 |_=>cases d<;>simp at h
theorem msB_run{t:TypeId} {l c:AV} {k:(Nat->AV) × Blk} {l' c':Value} (h:msB P t l c=some k) (hl:VR ρ l l') (hc:VR ρ c c') :
  ∃(ob:Obj) (fin:Nat) (x:Value),(Instr.makeSlice t l' c').run P w=.ok x (w.alloc ob)/\∀n,ρ n=none ->
   VR (ρ.upd n ⟨w.heap.size,0,fin⟩) (k.1 n) x/\BlkR (ρ.upd n ⟨w.heap.size,0,fin⟩) (w.alloc ob) ⟨w.heap.size,0,fin⟩ k.2:=by
 unfold msB at h;replace h:=obs h;obtain⟨d,hd,h⟩:=h;cases d with
 |slice elem=>
  replace h:=obs h;obtain⟨sz,hsz,h⟩:=h;replace h:=obs h;obtain⟨by_,hby,h⟩:=h;split at h
  ·rename_i ci li;cases hl;cases hc;replace h:=obs h;obtain⟨c,hci,h⟩:=h;replace h:=obs h;obtain⟨l,hli,h⟩:=h;obtain⟨rfl,hclt⟩:=qg1 hci;obtain⟨rfl,hllt⟩:=qg1 hli;split at h
   ·rename_i hroom;have hroom:=jG hroom;replace h:=obs h;obtain⟨z,hz,h⟩:=h;obtain⟨zv,rfl,hzr,_⟩:=qfp hz;split at h
    ·rename_i hzl;have hzl:=Nat.eq_of_beq_eq_true hzl;simp only[sj]at h;subst h;have hzs:zv.cells.size=sz:=(by have:=(VRs.const (ρ:=ρ) zv).1;simp at this;omega);have hzv:=qkx (ρ:=ρ) (n:=c) hzl hzs;obtain⟨ti,hti,rfl⟩:=qmp hby;have hwl:IntKind.i64.wrap (l:Int)=l:=Jj _ (by omega);have hwc:IntKind.i64.wrap (c:Int)=c:=Jj _ (by omega);have hcast:((ti.bytes:Int) * (c:Int))=((c * ti.bytes:Nat):Int):=(by rw[Nat.mul_comm];simp);have hA:¬ (281474976710656 < (ti.bytes:Int) * (c:Int)):=(by rw[hcast];omega);have hB':¬ c < l:=(by omega);have hS:=qdq hsz w;have hc0:¬ ((c:Nat):Int) < 0:=(by omega);have hl0:¬ ((l:Nat):Int) < 0:=(by omega);refine⟨.cells ((Array.range (c * sz)).map fun i=>zv.cells[i % zv.cells.size]!) elem,((Array.range (c * sz)).map fun i=>zv.cells[i % zv.cells.size]!).size,.slice (some ⟨w.heap.size,0,none⟩) l c,?_,fun m hm=>⟨.slcE m 0 l c _ Place.upd_same (by omega),
      qsg (by rw[<- hzv.1];simp) (fun i h h'=>(hzv.2 i h (by simpa using h')).mono (Place.le_upd hm)) (fun i _=>by simp)⟩⟩
     by_cases h0:c * sz=0
     ·simp[Instr.makeSlice,jk hd,asInt,asIntOf,hti,hwl,hwc,hA,hB',hc0,hl0,hS,h0,newRow,newObj,Sem.run];have e0:∀f:Nat->Value,(Array.range 0).map f = #[]:=fun f=>(by apply Array.ext';simp);rw[e0,e0]
     ·simp[Instr.makeSlice,jk hd,asInt,asIntOf,hti,hwl,hwc,hA,hB',hc0,hl0,hS,h0,hzr,newRow,newObj,Sem.run]
    ·simp at h
   ·simp at h
  ·simp at h
 |_=>simp at h
theorem conv_run(s:Sim ρ H w) {src dst:TypeId} {x v:AV} {x':Value} (h:zca P H src dst x=some (v,H')) (hx:VR ρ x x') :
  Good ρ H w ((convert src dst x').run P w) v H':=by
 replace h:=obs h;obtain⟨sd,hsd,h⟩:=h;replace h:=obs h;obtain⟨dd,hdd,h⟩:=h;split at h
 ·cases hx;simp only[sj,jg]at h;obtain⟨rfl,rfl⟩:=h;exact Good.pure s (.int _ _) (by simp[convert,jk hsd,jk hdd,Conv.intToInt])
 ·simp at h
end
section
variable {P:Program} {ρ:Place} {H H':Heap} {w:World}
theorem zb3{t:TypeId} {d:TypeDesc} {a b:AV} {q:Bool} {a' b':Value} (h:qtq P t d a b=some q) (hd:P.underlying t=some d) (ha:VR ρ a a') (hb:VR ρ b b') :
  (∀w,(Op.equal t a' b').run P w=.ok q w)/\(qiv d=true->Instr.sameNow d a' b'=some q)/\(qiv d=false->∃fs,d=.struct fs):=by
 unfold qtq at h;split at h
 ·rename_i hp;refine⟨fun w=>qmh h ha hb hd 9999 w,fun _=>?_,fun hf=>by rw[hp]at hf;cases hf⟩;unfold qjd at h;split at h<;>first|contradiction|skip
  all_goals (try (simp[qiv]at hp;done))
  ·cases ha;cases hb;exact h
  ·cases ha;cases hb;simp only[Instr.sameNow];exact h
  ·cases ha;cases hb;simp only[Instr.sameNow,quc];exact h
 ·rename_i hp;split at h
  next fs=>exact⟨fun w=>(zbz h ha hb w).1,fun hf=>(by rw[hp]at hf;cases hf),fun _=>⟨fs,rfl⟩⟩
  ·simp at h
theorem qpa{xs:List AV} {xs':Array Value} (hx:VRs ρ xs xs'.toList) (empty:Bool) (n:Nat) (w:World):∀{fs:List Field},eqFields P fs xs xs=some true ->
  (forIn fs PUnit.unit (fun f _=>
   if f.name ≠ "_" then do
    let a <- part f.type xs' f.offset
    Instr.checkKey empty (n+1) f.type a
    pure (ForInStep.yield PUnit.unit)
   else pure (ForInStep.yield PUnit.unit)):Sem PUnit).run P w=.ok PUnit.unit w
 |[],_=>rfl
 |f::fs,h=>by
  unfold eqFields at h;split at h
  ·simp at h
  ·rename_i hne
   have hne : f.name ≠ "_" := by simpa using hne
   replace h:=obs h;obtain⟨d,hd,h⟩:=h;split at h
   ·simp at h
   ·rename_i hpl;replace h:=obs h;obtain⟨x,hxx,h⟩:=h;replace h:=obs h;obtain⟨y,hyy,h⟩:=h;replace h:=obs h;obtain⟨e,he,h⟩:=h;have hag:qh4 P f.type=some false:=by unfold qh4;rw[hd];cases d<;>first|rfl|simp[qiv]at hpl
    obtain⟨x',hx1,hx2⟩:=qng (P:=P) (t:=f.type) (off:=f.offset) (v:=x) (by simp[zag,hag,hxx]) hx w;have hck:(Instr.checkKey empty (n+1) f.type x').run P w=.ok () w:=by unfold Instr.checkKey;simp only[jY,jk hd,jN];cases d<;>first|rfl|simp[qiv]at hpl
    cases e with
    |true=>have ih:=qpa hx empty n w h;simp only[List.forIn_cons,hne,ne_eq,not_false_eq_true,jQ,jY,hx1,hck,jN,yV];exact ih
    |false=>simp at h
theorem qjg{t:TypeId} {d:TypeDesc} {k:AV} {k':Value} (h:qtp P t d k=some ()) (hd:P.underlying t=some d) (hk:VR ρ k k') (empty:Bool) (n:Nat) (w:World) :
  (Instr.checkKey empty (n+2) t k').run P w=.ok () w:=by
 replace h:=obs h;obtain⟨q,hq,h⟩:=h;split at h
 ·unfold qtq at hq;split at hq
  next hp=>unfold Instr.checkKey;simp only[jY,jk hd,jN];cases d<;>first|rfl|simp[qiv]at hp
  ·split at hq
   ·rename_i fs;replace hq:=obs hq;obtain⟨d2,hd2,hq⟩:=hq;rw[hd]at hd2;cases hd2;cases hk<;>simp only at hq
    case agg cs vs hl hv=>
     split at hq
     ·have:=qpa (qmq hl hv) empty n w hq;unfold Instr.checkKey;simp only[jY,jk hd,jN];rw[<- Array.forIn_toList,this];rfl
     ·simp at hq
    all_goals (unfold qjd at hq;simp at hq)
   ·simp at hq
 ·simp at h
def EntR(ρ:Place) (es:List (AV × AV)) (l:List MapEntry):Prop:=l.length=es.length/\∀i (h:i < es.length) (h':i < l.length),VR ρ es[i].1 l[i].key/\VR ρ es[i].2 l[i].val
theorem EntR.tail{e:AV × AV} {es:List (AV × AV)} {x:MapEntry} {l:List MapEntry} (h:EntR ρ (e::es) (x::l)):EntR ρ es l:=
 ⟨by simpa using h.1,fun i h1 h2=>h.2 (i+1) (by simpa using h1) (by simpa using h2)⟩
theorem zad{t:TypeId} {d:TypeDesc} {k:AV} {k':Value} (hd:P.underlying t=some d) (hk:VR ρ k k') (w:World) :
  ∀{es:List (AV × AV)} {l:List MapEntry} {i:Nat} {r:Option Nat},posA P t d k i es=some r->EntR ρ es l ->
   (qiv d=true->Instr.findNow d k' l i=some (r.bind fun j=>(l[j - i]?).map fun e=>(j,e.val))) /\
   (Instr.findAsking t k' l i).run P w=.ok (r.bind fun j=>(l[j - i]?).map fun e=>(j,e.val)) w/\∀j,r=some j->i<=j/\j - i < l.length
 |[],l,i,r,h,he=>by
  simp only[posA,sj]at h;subst h;cases l with
  |nil=>exact⟨fun _=>rfl,rfl,fun j e=>by cases e⟩
  |cons _ _=>have:=he.1;simp at this
 |e::es,l,i,r,h,he=>by
  cases l with
  |nil=>have:=he.1;simp at this
  |cons x l=>
   replace h:=obs h;obtain⟨q,hq,h⟩:=h;obtain⟨h1,h2,_⟩:=zb3 hq hd hk (he.2 0 (by simp) (by simp)).1;simp only[jH]at h1 h2;cases q with
   |true=>
    simp only[sj]at h;subst h;refine⟨fun hp=>?_,?_,fun j e=>by cases e;simp⟩
    ·simp[Instr.findNow,h2 hp]
    ·simp[Instr.findAsking,h1]
   |false=>
    simp only at h;obtain⟨g1,g2,g3⟩:=zad hd hk w h he.tail;have hsh:(r.bind fun j=>(l[j - (i+1)]?).map fun e=>(j,e.val))=(r.bind fun j=>((x::l)[j - i]?).map fun e=>(j,e.val)):=by
     cases r with
     |none=>rfl
     |some j=>have:=(g3 j rfl).1;simp only[jc];rw[show j - i=(j - (i+1))+1 by omega];simp
    refine⟨fun hp=>?_,?_,fun j e=>?_⟩
    ·rw[<- hsh];simp only[Instr.findNow,h2 hp];exact g1 hp
    ·rw[<- hsh];simp only[Instr.findAsking,jY,h1,jN];exact g2
    ·obtain⟨a,b⟩:=g3 j e;simp only[jE];omega
theorem qs5{t:TypeId} {d:TypeDesc} {k:AV} {k':Value} (hd:P.underlying t=some d) (hk:VR ρ k k') (hok:qtp P t d k=some ()) (w:World) {es:List (AV × AV)} {l:List MapEntry} {r:Option Nat}
  (h:posA P t d k 0 es=some r) (he:EntR ρ es l):(Instr.findKey t k' l).run P w=.ok (r.bind fun j=>(l[j]?).map fun e=>(j,e.val)) w/\∀j,r=some j->j < l.length:=by
 obtain⟨h1,h2,h3⟩:=zad hd hk w h he;simp only[yK]at h1 h2 h3;refine⟨?_,fun j e=>(h3 j e).2⟩;cases hp:qiv d with
 |true=>exact MapKept.run_findKey hd (h1 hp)
 |false=>
  have:∃fs,d=.struct fs:=by unfold qtp qtq at hok;rw[hp]at hok;cases d<;>simp at hok;exact⟨_,rfl⟩
  obtain⟨fs,rfl⟩:=this;cases l with
  |nil=>
   cases es with
   |nil=>simp only[posA,sj]at h;subst h;simp[Instr.findKey,jk hd,Instr.findNow]
   |cons _ _=>have:=he.1;simp at this
  |cons x l=>have hn:Instr.findNow (.struct fs) k' (x::l) 0=none:=(by simp[Instr.findNow,Instr.sameNow]);simp only[Instr.findKey,jY,jk hd,jN,hn];exact h2
theorem Sim.mapAt(s:Sim ρ H w) {b:Nat} {es:List (AV × AV)} {l:Loc} (h:H.get b=some (.map es)) (hl:ρ b=some l) :
  ∃(ents:Array MapEntry) (clock:Nat),w.heap[l.cb]? = some (.map ents clock)/\EntR ρ es ents.toList:=by
 obtain⟨l',hl',_,_,ents,clock,h1,h2,h3⟩:=s.block h;rw[hl]at hl';cases hl';exact⟨ents,clock,h1,⟨by simpa using h2,fun i a b=>h3 i a (by simpa using b)⟩⟩
def two(ok:Bool) (x:AV) (b:Bool):AV:=match ok with
 |true=>.tup [x,.bool b]
 |false=>x
theorem qyg(s:Sim ρ H w) {t:TypeId} {m k v:AV} {ok:Bool} {m' k':Value} (h:qj9 P H t m k ok=some v) (hm:VR ρ m m') (hk:VR ρ k k') :
  ∃y,(Instr.lookup t m' k' ok).run P w=.ok y w/\VR ρ v y:=by
 obtain⟨d,hd,h⟩:=obs h;cases d with
 |map key elem=>
  obtain⟨kd,hkd,h⟩:=obs h;replace h:=obs h;obtain⟨⟨⟩,hok,h⟩:=h;obtain⟨es,hes,h⟩:=obs h;obtain⟨r,hr,h⟩:=obs h;have pair:∀{x:AV} {x':Value} (b:Bool),VR ρ x x'->VR ρ (two ok x b) (if ok=true then .tuple #[x',.bool b] else x'):=fun {x x'} b hx=>by
   cases ok with
   |false=>exact hx
   |true=>
    refine .tup _ _ rfl fun i h1 h2=>?_
    match i,h1 with
    |0,_=>exact hx
    |1,_=>exact .bool b
  have main:∀(ents:Array MapEntry),EntR ρ es ents.toList->(m'=.map none/\ents = #[]\/∃l clock,m'=.map (some l)/\w.heap[l]? = some (.map ents clock)) ->
    ∃y,(Instr.lookup t m' k' ok).run P w=.ok y w/\VR ρ v y:=fun ents he hor=>by
   obtain⟨p,hp,hr⟩:=obs hr;obtain⟨hfind,hlt⟩:=qs5 (P:=P) hkd hk hok w hp he;have hck:=fun e=>qjg (P:=P) hok hkd hk e 9998 w;cases p with
   |none=>
    simp only[sj]at hr;subst hr;obtain⟨z,hz,h⟩:=obs h;simp only[sj]at h;subst h;obtain⟨zv,rfl,hzr,_⟩:=qfp hz;simp only[Option.bind_none]at hfind;refine⟨_,?_,pair false (VR.const zv)⟩;rcases hor with⟨rfl,rfl⟩|⟨l,clock,rfl,hw⟩
    ·have hf2:(Instr.findKey key k' []).run P w=.ok none w:=(by simpa using hfind);simp[Instr.lookup,jk hd,hck,hf2,hzr]
    ·simp[Instr.lookup,jk hd,y9 hw,hck,hfind,hzr]
   |some i=>
    obtain⟨e,hge,hr⟩:=obs hr;simp only[sj]at hr;subst hr;simp only[sj]at h;subst h;obtain⟨hi,rfl⟩:=qfg hge;have hi':i < ents.toList.length:=(by rw[he.1];exact hi);have hg:ents.toList[i]? = some ents.toList[i]:=List.getElem?_eq_getElem hi';simp only[jc,hg,yt]at hfind;refine⟨_,?_,pair true (he.2 i hi hi').2⟩;rcases hor with⟨rfl,rfl⟩|⟨l,clock,rfl,hw⟩
    ·simp at hi'
    ·simp[Instr.lookup,jk hd,y9 hw,hck,hfind]
  cases hm with
  |nilM=>simp only[sj]at hes;subst hes;exact main #[] ⟨rfl,fun i h=>absurd h (j3 i)⟩ (.inl ⟨rfl,rfl⟩)
  |map b l hl=>
   obtain⟨x,hx,hes⟩:=obs hes;cases x with
   |map es'=>simp only[sj]at hes;subst hes;obtain⟨ents,clock,hw,he⟩:=s.mapAt hx hl;exact main ents he (.inr ⟨_,_,rfl,hw⟩)
   |_=>simp at hes
  |_=>simp at hes
 |_=>simp at h
theorem qt5{α:Type} {v:α}:∀{l l':List α} {i:Nat},setL v l i=some l'->i < l.length/\l'=l.set i v
 |[],_,_,h=>by simp[setL]at h
 |x::r,l',0,h=>by simp only[setL,sj]at h;subst h;simp
 |x::r,l',i+1,h=>by obtain⟨r',hr,h⟩:=obs (show (setL v r i).bind (fun r'=>some (x::r'))=some l' from h);simp only[sj]at h;subst h;obtain⟨h1,h2⟩:=qt5 hr;subst h2;simp[h1]
theorem qqa(s:Sim ρ H w) {t:TypeId} {m k v:AV} {m' k' v':Value} (h:qj8 P H t m k v=some H') (hm:VR ρ m m') (hk:VR ρ k k') (hv:VR ρ v v') :
  ∃w',(Instr.mapUpdate t m' k' v').run P w=.ok () w'/\Sim ρ H' w'/\Step ρ H w ρ H' w':=by
 replace h:=obs h;obtain⟨d,hd,h⟩:=h;cases d with
 |map key elem=>
  replace h:=obs h;obtain⟨kd,hkd,h⟩:=h;replace h:=obs h;obtain⟨⟨⟩,hok,h⟩:=h;cases hm with
  |map b l hl=>
   replace h:=obs h;obtain⟨x,hx,h⟩:=h;cases x with
   |map es=>
    replace h:=obs h;obtain⟨es',hes',h⟩:=h;obtain⟨ents,clock,hw,he⟩:=s.mapAt hx hl;obtain⟨p,hp,hes'⟩:=obs hes';obtain⟨hfind,hlt⟩:=qs5 (P:=P) hkd hk hok w hp he;have hck:=fun e=>qjg (P:=P) hok hkd hk e 9998 w;have hsz:ents.size=es.length:=(by simpa using he.1);cases p with
    |none=>
     simp only[sj]at hes';subst hes';simp only[Option.bind_none]at hfind;obtain⟨h1,h2,h3⟩:=qik (P:=P) (ents':=ents.push { key:=k',val:=v',born:=clock }) (clock':=clock+1) s hx hl hw h (by simp[hsz]) (fun i g1 g2=>by
      by_cases hi:i < es.length
      ·have:=he.2 i hi (by simpa[hsz]using hi);rw[yb hi,Array.getElem_push_lt (by omega)];exact this
      ·have:i=es.length:=(by simp at g1;omega);subst this;rw[jB (ja _)];simp only[Jg,jH];have:(ents.push { key:=k',val:=v',born:=clock })[es.length]'g2={ key:=k',val:=v',born:=clock }:=(by simp[<- hsz]);rw[this];exact⟨hk,hv⟩)
     exact⟨_,by simp[Instr.mapUpdate,jk hd,y9 hw,hck,hfind,h1],h2,h3⟩
    |some i=>
     obtain⟨e,hge,hes'⟩:=obs hes';split at hes'
     ·rename_i hek;have hek:=of_decide_eq_true hek;obtain⟨hi,rfl⟩:=qfg hge;obtain⟨_,rfl⟩:=qt5 hes';have hi':i < ents.toList.length:=hlt i rfl;have hia:i < ents.size:=(by simpa using hi');have hg:ents.toList[i]? = some ents.toList[i]:=List.getElem?_eq_getElem hi';simp only[jc,hg,yt]at hfind;have hold:VR ρ k ents[i].key:=(by have:=(he.2 i hi hi').1;rw[hek]at this;exact this);have fin:∀(key':Value) (w0:World),VR ρ k key'->Sim ρ H w0->w0.heap[l.cb]? = some (.map ents clock)->Step ρ H w ρ H w0 ->
        (Instr.keyThatStays ents[i].key k').run P w=.ok key' w0->∃w',(Instr.mapUpdate t (.map (some l.cb)) k' v').run P w=.ok () w'/\Sim ρ H' w'/\Step ρ H w ρ H' w':=fun key' w0 hkey s0 hw0 st0 hrun=>by
       obtain⟨h1,h2,h3⟩:=qik (P:=P) (ents':=ents.modify i fun e=>{ e with key:=key',val:=v' }) (clock':=clock) s0 hx hl hw0 h (by simp[hsz]) (fun j g1 g2=>by
        simp only[List.length_set]at g1;by_cases hj:j=i
        ·subst hj;simp only[List.getElem_set_self,Array.getElem_modify_self];exact⟨hkey,hv⟩
        ·rw[List.getElem_set_ne (fun e=>hj e.symm),Array.getElem_modify_of_ne (fun e=>hj e.symm)];exact he.2 j g1 (by simpa[hsz]using g1))
       refine⟨_,?_,h2,st0.trans h3⟩;have hgi:ents[i]? = some ents[i]:=Array.getElem?_eq_getElem hia;simp[Instr.mapUpdate,jk hd,y9 hw,hck,hfind,hgi,hrun,h1]
      have tri:(Instr.keyThatStays ents[i].key k').run P w=.ok k' w\/(Instr.keyThatStays ents[i].key k').run P w=.ok k' w.drew\/(Instr.keyThatStays ents[i].key k').run P w=.ok ents[i].key w.drew:=by
       unfold Instr.keyThatStays;by_cases hb:Instr.sameBits 10000 ents[i].key k'=true
       ·exact .inl (by simp[hb])
       ·right;simp only[hb,jz,jM,jY];simp[Question.forced];exact(Classical.em _).elim (fun h=>Or.inl fun hn=>absurd h hn) (fun h=>Or.inr fun hp=>absurd hp h)
      rcases tri with tri|tri|tri
      ·exact fin k' w hk s hw (.refl _ _ _) tri
      ·exact fin k' w.drew hk s.drew hw (.drew _ _ _) tri
      ·exact fin ents[i].key w.drew hold s.drew hw (.drew _ _ _) tri
     ·simp at hes'
   |_=>simp at h
  |_=>simp at h
 |_=>simp at h
theorem qyr(s:Sim ρ H w) {ts:Array TypeId} {t ty:TypeId} (ht:ts[0]? = some t) {m k:AV} {m' k':Value} (h:qmj P H t m k=some H') (hm:VR ρ m m') (hk:VR ρ k k') :
  Good ρ H w ((Builtin.delete_ ts ty #[m',k']).run P w) (.tup []) H':=by
 have unit:VR ρ (.tup []) (.tuple #[]):=.tup [] #[] rfl (fun i h=>absurd h (j3 i));replace h:=obs h;obtain⟨d,hd,h⟩:=h;cases d with
 |map key elem=>
  replace h:=obs h;obtain⟨kd,hkd,h⟩:=h;replace h:=obs h;obtain⟨⟨⟩,hok,h⟩:=h;have hck:=fun e=>qjg (P:=P) hok hkd hk e 9998 w;cases hm with
  |nilM=>simp only[sj]at h;subst h;exact Good.pure s unit (by simp[Builtin.delete_,ht,jk hd,hck])
  |map b l hl=>
   replace h:=obs h;obtain⟨x,hx,h⟩:=h;cases x with
   |map es=>
    replace h:=obs h;obtain⟨es',hes',h⟩:=h;obtain⟨ents,clock,hw,he⟩:=s.mapAt hx hl;obtain⟨p,hp,hes'⟩:=obs hes';obtain⟨hfind,hlt⟩:=qs5 (P:=P) hkd hk hok w hp he;have hsz:ents.size=es.length:=(by simpa using he.1);cases p with
    |none=>simp only[sj]at hes';subst hes';simp only[Option.bind_none]at hfind;obtain⟨h1,h2,h3⟩:=qik (P:=P) (vs:=[]) (ents':=ents) (clock':=clock) s hx hl hw h hsz (fun i g1 g2=>he.2 i g1 (by simpa using g2));exact⟨_,ρ,_,by simp[Builtin.delete_,ht,jk hd,y9 hw,hck,hfind,h1],unit,h2,h3⟩
    |some i=>
     simp only[sj]at hes';subst hes';have hi':i < ents.toList.length:=hlt i rfl;have hia:i < ents.size:=(by simpa using hi');have hg:ents.toList[i]? = some ents.toList[i]:=List.getElem?_eq_getElem hi';simp only[jc,hg,yt]at hfind;have hel:(ents.eraseIdxIfInBounds i).toList=ents.toList.eraseIdx i:=(by simp[Array.eraseIdxIfInBounds,hia]);obtain⟨h1,h2,h3⟩:=qik (P:=P) (vs:=[]) (ents':=ents.eraseIdxIfInBounds i) (clock':=clock) s hx hl hw h
      (by have:=jR List.length hel;simp only[Array.length_toList]at this;rw[this,List.length_eraseIdx,List.length_eraseIdx];simp[hsz])
      (fun j g1 g2=>by
       have e:(ents.eraseIdxIfInBounds i)[j]=(ents.toList.eraseIdx i)[j]'(by rw[<- hel,Array.length_toList];exact g2):=(by simp only[<- hel];rfl);rw[e];simp only[List.getElem_eraseIdx];split
       ·exact he.2 j _ _
       ·exact he.2 (j+1) _ _)
     exact⟨_,ρ,_,by simp[Builtin.delete_,ht,jk hd,y9 hw,hck,hfind,h1],unit,h2,h3⟩
   |_=>simp at h
  |_=>simp at h
 |_=>simp at h
theorem len_run(s:Sim ρ H w) {ts:Array TypeId} {t ty:TypeId} (ht:ts[0]? = some t) {x:AV} {n:Nat} {x':Value} (h:qf3 P H t x=some n) (hx:VR ρ x x') :
  (Builtin.len_ ts ty #[x']).run P w=.ok (.int .i64 n) w:=by
 replace h:=obs h;obtain⟨d,hd,h⟩:=h;split at h
 ·cases hx;simp only[sj]at h;subst h;simp[Builtin.len_,ht,jk hd,goInt,qgc]
 ·cases hx;simp only[sj]at h;subst h;simp[Builtin.len_,ht,jk hd,goInt]
 ·cases hx;simp only[sj]at h;subst h;simp[Builtin.len_,ht,jk hd,goInt]
 ·cases hx<;>simp only[sj]at h<;>subst h<;>simp[Builtin.len_,ht,jk hd,goInt]
 ·cases hx<;>simp only[sj]at h<;>subst h<;>simp[Builtin.len_,ht,jk hd,goInt]
 ·cases hx<;>simp only[sj]at h<;>subst h<;>simp[Builtin.len_,ht,jk hd,goInt]
 ·cases hx;simp only[sj]at h;subst h;simp[Builtin.len_,ht,jk hd,goInt]
 ·cases hx;rename_i l hl;obtain⟨k,hk,h⟩:=obs h;cases k with
  |map es=>simp only[sj]at h;subst h;obtain⟨ents,clock,hw,he⟩:=s.mapAt hk hl;have:ents.size=es.length:=(by simpa using he.1);simp[Builtin.len_,ht,jk hd,y9 hw,goInt,this]
  |_=>simp at h
 ·simp at h
theorem qnj{least:Bool}:∀{r:List AV} {x v:AV} {x':Value} {r':List Value},qkv least x r=some v->VR ρ x x'->VRs ρ r r'->∀w:World,
  ∃y,(r'.foldlM (if least=true then Builtin.min2 else Builtin.max2) x':Sem Value).run P w=.ok y w/\VR ρ v y
 |[],x,v,x',r',h,hx,hr,w=>by
  simp only[qkv,sj]at h;subst h;cases r' with
  |nil=>exact⟨x',rfl,hx⟩
  |cons _ _=>have:=hr.1;simp at this
 |y::r,x,v,x',r',h,hx,hr,w=>by
  cases r' with
  |nil=>have:=hr.1;simp at this
  |cons y' r'=>
   have hy:=hr.head;unfold qkv at h;split at h
   ·cases hx;cases hy;rename_i k a k' b;split at h
    ·rename_i hk;subst hk;cases least with
     |true=>obtain⟨z,h1,h2⟩:=qnj h (.int k (min a b)) hr.tail w;refine⟨z,?_,h2⟩;have e:(if b < a then b else a)=min a b:=(by omega);simp only[jQ]at h1 ⊢;simp only[List.foldlM_cons,jY,Builtin.min2,yV,jN,e,h1]
     |false=>obtain⟨z,h1,h2⟩:=qnj h (.int k (max a b)) hr.tail w;refine⟨z,?_,h2⟩;have e:(if b > a then b else a)=max a b:=(by omega);simp only[jz,jM]at h1 ⊢;simp only[List.foldlM_cons,jY,Builtin.max2,yV,jN,e,h1]
    ·simp at h
   ·simp at h
end
section
variable {ρ:Place} {w:World}
def Done(ρ:Place) (H:Heap) (w:World) (r:Result Next) (v:AV) (H':Heap):Prop:=
 ∃x ρ' w',VR ρ' v x/\Sim ρ' H' w'/\Step ρ H w ρ' H' w'/\(r=.ok (.value x) w'\/(r=.ok .skip w'/\x=undef))
theorem Done.of_good{H H':Heap} {v:AV} {P:Program} {sem:Sem Value} (h:Good ρ H w (sem.run P w) v H'):Done ρ H w ((do Pure.pure (Next.value (<- sem)):Sem Next).run P w) v H':=by obtain⟨x,ρ',w',h1,h2,h3,h4⟩:=h;exact⟨x,ρ',w',h2,h3,h4,.inl (by simp[h1])⟩
theorem Done.pure{H:Heap} {v:AV} {x:Value} {P:Program} {sem:Sem Value} (s:Sim ρ H w) (hr:sem.run P w=.ok x w) (hv:VR ρ v x):Done ρ H w ((do Pure.pure (Next.value (<- sem)):Sem Next).run P w) v H:=
 .of_good (Good.pure s hv hr)
theorem Done.unit{H H':Heap} {w':World} {P:Program} {sem:Sem Unit} (hr:sem.run P w=.ok () w') (s:Sim ρ H' w') (t:Step ρ H w ρ H' w'):Done ρ H w ((do sem;Pure.pure Next.skip:Sem Next).run P w) .undef H':=
 ⟨undef,ρ,w',.undef _,s,t,.inr ⟨by simp[hr],rfl⟩⟩
theorem vrs_nil{xs:List Value} (h:VRs ρ [] xs):xs=[]:=by cases xs with|nil=>rfl|cons _ _=>have:=h.1;simp at this
theorem qqs{v:AV} {xs:List Value} (h:VRs ρ [v] xs):∃x,xs=[x]/\VR ρ v x:=by
 cases xs with
 |nil=>have:=h.1;simp at this
 |cons x r=>exact⟨x,by rw[vrs_nil h.tail],h.head⟩
theorem qzc{v u:AV} {xs:List Value} (h:VRs ρ [v,u] xs):∃x y,xs=[x,y]/\VR ρ v x/\VR ρ u y:=by
 cases xs with
 |nil=>have:=h.1;simp at this
 |cons x r=>obtain⟨y,rfl,hy⟩:=qqs h.tail;exact⟨x,y,rfl,h.head,hy⟩
theorem qtk{C:Ctx} {o:Oper} {s:St} {a:Act} {k:(Nat->AV) × Blk} (sm:Sim ρ s.H w) (e:EnvR ρ s a) (h:qbc C o s=some k) :
  ∃(ob:Obj) (fin:Nat) (x:Value),(execOp a.eval o).run C.P w=.ok (.value x) (w.alloc ob)/\∀n,ρ n=none ->
   VR (ρ.upd n ⟨w.heap.size,0,fin⟩) (k.1 n) x/\BlkR (ρ.upd n ⟨w.heap.size,0,fin⟩) (w.alloc ob) ⟨w.heap.size,0,fin⟩ k.2:=by
 unfold qbc at h;have cells:∀{cs:List AV} {c:Array Value} {t:TypeId},VRs ρ cs c.toList->∀n,ρ n=none->BlkR (ρ.upd n ⟨w.heap.size,0,c.size⟩) (w.alloc (.cells c t)) ⟨w.heap.size,0,c.size⟩ (.cells cs):=fun {cs c t} hv n hn=>
  qsg (by rw[<- hv.1];simp) (fun i h h'=>(hv.2 i h (by simpa using h')).mono (Place.le_upd hn)) (fun i _=>by simp)
 have za3:∀{cs:List AV} {c:Array Value} {t el:TypeId} {d:Option Tmp},C.P.underlying t=some (.slice el)->VRs ρ cs c.toList->∀n,ρ n=none->BlkR (ρ.upd n ⟨w.heap.size,0,c.size⟩) (w.alloc (.cells c el)) ⟨w.heap.size,0,c.size⟩ (qyz C.P t d cs):=fun {cs c t el d} hu hv n hn=>by
  have hk:qqp el cs (qyz C.P t d cs):=by
   unfold qyz;split
   ·exact .inl rfl
   ·split
    ·rw[hu];exact .inr ⟨0,jx _,rfl⟩
    ·exact .inl rfl
  exact zck hk (by rw[<- hv.1];simp) (fun i h h'=>(hv.2 i h (by simpa using h')).mono (Place.le_upd hn))
 split at h
 ·rename_i t hop;replace h:=obs h;obtain⟨z,hz,h⟩:=h;replace h:=obs h;obtain⟨n,hn,h⟩:=h;split at h
  ·simp only[sj]at h;subst h;obtain⟨zv,rfl,hzr,_⟩:=qfp hz;refine⟨_,zv.cells.size,_,by simp[execOp,hop,Instr.alloc,hzr,newVar,newRow,newObj,Sem.run];rfl,fun m hm=>⟨.ptr m 0 _ Place.upd_same,?_⟩⟩;exact cells (t:=t) (VRs.const (ρ:=ρ) zv) m hm
  ·simp at h
 ·rename_i t x hop;replace h:=obs h;obtain⟨v,hv,h⟩:=h;split at h
  next hsing=>simp only[sj]at h;subst h;have hvr:=qbk e hv;have hc:VRs ρ v.cells (a.eval x).cells.toList:=hvr.cells (by rintro rfl;simp[AV.cells,allSingle,AV.single]at hsing) (by rintro l rfl;simp[AV.cells,allSingle,AV.single]at hsing);refine⟨_,(a.eval x).cells.size,_,by simp[execOp,hop,Instr.box,newVar,newRow,newObj,Sem.run];rfl,fun m hm=>⟨.ptr m 0 _ Place.upd_same,cells hc m hm⟩⟩
  ·simp at h
 ·rename_i t len parts hop;replace h:=obs h;obtain⟨ps,hps,h⟩:=h;replace h:=obs h;obtain⟨cs,hcs,h⟩:=h;simp only[sj]at h;subst h;obtain⟨h1,h2⟩:=qof e hps;obtain⟨c,el,hund,hrun,hv⟩:=qps (vals:=parts.toList.map fun p=>(p.1,a.eval p.2)) sm hcs (by simp[h1]) (by simpa[yL]using h2);refine⟨.cells c el,c.size,.slice (some ⟨w.heap.size,0,none⟩) len len,?_,fun m hm=>⟨.slcE m 0 len len _ Place.upd_same (ja _),za3 hund hv m hm⟩⟩;have:(parts.toList.map fun p=>(p.1,a.eval p.2)).toArray=parts.map fun(i,x)=>(i,a.eval x):=by simp[<- List.map_toArray]
  rw[this]at hrun;simp[execOp,hop,hrun]
 next t l c hop=>replace h:=obs h;obtain⟨p,hp,h⟩:=h;replace h:=obs h;obtain⟨u,hu,h⟩:=h;obtain⟨ob,fin,x,h1,h2⟩:=msB_run (P:=C.P) (w:=w) h (qbk e hp) (qbk e hu);exact⟨ob,fin,x,by simp[execOp,hop,h1],h2⟩
 ·rename_i t r hop;replace h:=obs h;obtain⟨_,hr,h⟩:=h;simp only[sj]at h;subst h;refine⟨.map #[] 0,0,.map (some w.heap.size),?_,fun m hm=>⟨.map m _ Place.upd_same,#[],0,?_,rfl,fun i h=>absurd h (j3 i)⟩⟩
  ·cases r with
   |none=>simp[execOp,hop,Instr.makeMap,newObj,Sem.run]
   |some x=>
    obtain⟨v,hv,hr⟩:=obs hr;have hvr:=qbk e hv;obtain⟨d,hd,hr⟩:=obs hr;split at hr
    next k i=>cases hvr':a.eval x<;>rw[hvr']at hvr<;>cases hvr;simp[execOp,hop,Instr.makeMap,jk hd,hvr',asInt,asIntOf,newObj,Sem.run]
    ·simp at hr
  ·show (w.heap.push _)[w.heap.size]? = _;simp
 ·simp at h
theorem qj6{s:St} {a:Act} (e:EnvR ρ s a) {xs:Array Operand} {vs:List AV} (h:qfy s xs.toList=some vs):VRs ρ vs (xs.map a.eval).toList:=by simpa using qth e h
theorem VR.args{fn:Fn} {a c:List AV} {x:Value} (h:VR ρ (.func fn a c) x):∃a' c',x=.func fn a' c'/\VRs ρ a a'.toList/\VRs ρ c c'.toList:=by
 cases h with
 |func _ _ _ a' c' ha hc hav hcv=>exact⟨a',c',rfl,qmq ha hav,qmq hc hcv⟩
theorem qvr{C:Ctx} {H H':Heap} (sm:Sim ρ H w) {b:Builtin} {ts:Array TypeId} {ty:TypeId} {cs:Array Bool} {args:List AV} {v:AV} {xs:List Value} (h:qcl C.P H b ts args=some (v,H'))
  (hv:VRs ρ args xs):Done ρ H w ((builtin b ts ty cs xs.toArray).run C.P w) v H':=by
 unfold qcl at h;split at h
 ·obtain⟨x,rfl,hx⟩:=qqs hv;replace h:=obs h;obtain⟨t,ht,h⟩:=h;replace h:=obs h;obtain⟨n,hn,h⟩:=h;simp only[sj,jg]at h;obtain⟨rfl,rfl⟩:=h;exact Done.pure sm (len_run sm ht hn hx) (.int _ _)
 ·obtain⟨x,y,rfl,hx,hy⟩:=qzc hv;replace h:=obs h;obtain⟨t,ht,h⟩:=h;replace h:=obs h;obtain⟨d,hd,h⟩:=h;split at h
  ·rename_i elem;replace h:=obs h;obtain⟨q,hu,h⟩:=h;split at hu
   ·rename_i u hu1;obtain⟨ud,hud,hu⟩:=obs hu;split at hu
    ·simp only[sj]at hu;subst hu;exact Done.of_good (qqo sm ht hd hu1 (.inl hud) h hx hy)
    ·simp only[sj]at hu;subst hu;exact Done.of_good (qqo sm ht hd hu1 (.inr ⟨_,hud⟩) h hx hy)
    ·simp only[sj]at hu;subst hu;exact Done.of_good (grow_run sm ht hd hu1 hud h hx hy)
    ·simp at hu
   ·simp at hu
  ·simp at h
 ·obtain⟨x,rfl,hx⟩:=qqs hv;replace h:=obs h;obtain⟨t,ht,h⟩:=h;replace h:=obs h;obtain⟨d,hd,h⟩:=h;split at h
  ·simp only[sj,jg]at h;obtain⟨rfl,rfl⟩:=h;cases hx;refine Done.pure sm ?_ (.int _ _);simp[builtin,Builtin.cap_,ht,jk hd,goInt]
  ·simp at h
 ·obtain⟨x,rfl,hx⟩:=qqs hv;replace h:=obs h;obtain⟨t,ht,h⟩:=h;replace h:=obs h;obtain⟨H1,hc,h⟩:=h;simp only[sj,jg]at h;obtain⟨rfl,rfl⟩:=h;exact Done.of_good (zcb sm ht hc hx)
 ·obtain⟨x,y,rfl,hx,hy⟩:=qzc hv;replace h:=obs h;obtain⟨t,ht,h⟩:=h;replace h:=obs h;obtain⟨H1,hc,h⟩:=h;simp only[sj,jg]at h;obtain⟨rfl,rfl⟩:=h;exact Done.of_good (qyr sm ht hc hx hy)
 ·cases xs with
  |nil=>have:=hv.1;simp at this
  |cons x r=>replace h:=obs h;obtain⟨u,hu,h⟩:=h;simp only[sj,jg]at h;obtain⟨rfl,rfl⟩:=h;obtain⟨y,h1,h2⟩:=qnj (P:=C.P) hu hv.head hv.tail w;exact Done.pure sm (by simpa[Builtin.max_]using h1) h2
 ·cases xs with
  |nil=>have:=hv.1;simp at this
  |cons x r=>replace h:=obs h;obtain⟨u,hu,h⟩:=h;simp only[sj,jg]at h;obtain⟨rfl,rfl⟩:=h;obtain⟨y,h1,h2⟩:=qnj (P:=C.P) hu hv.head hv.tail w;exact Done.pure sm (by simpa[Builtin.min_]using h1) h2
 ·simp at h
def za9(o:Op):Prop:=∀c,o=.call c->∃b,c.callee=.builtin b
theorem val_run{C:Ctx} {call:qck} {o:Oper} {s:St} {a:Act} {v:AV} {H':Heap} (sm:Sim ρ s.H w) (e:EnvR ρ s a) (h:qah C call o s=some (v,H')) (hq:za9 o.op) :
  Done ρ s.H w ((execOp a.eval o).run C.P w) v H':=by
 have put:∀{x:Option AV},(x.bind fun x=>some (x,s.H))=some (v,H')->x=some v/\H'=s.H:=fun {x} hx=>by obtain⟨y,hy,hx⟩:=obs hx;simp only[sj,jg]at hx;exact⟨by rw[hy,hx.1],hx.2.symm⟩
 have pure_:∀{x:Value},VR ρ v x->H'=s.H->(execOp a.eval o).run C.P w=.ok (.value x) w->Done ρ s.H w ((execOp a.eval o).run C.P w) v H':=fun {x} hv hH hr=>by subst hH;exact⟨x,ρ,w,hv,sm,.refl _ _ _,.inl hr⟩
 have blk:∀{k:(Nat->AV) × Blk},qbc C o s=some k->v=k.1 s.H.n->H'=s.H.new k.2->Done ρ s.H w ((execOp a.eval o).run C.P w) v H':=fun {k} hk hv hH=>by obtain⟨ob,fin,x,h1,h2⟩:=qtk sm e hk;obtain⟨h3,h4⟩:=h2 s.H.n (sm.dom _ (ja _));obtain⟨g1,g2⟩:=sm.new ob fin k.2 h4;subst hv;subst hH;exact⟨x,_,_,h3,g1,g2,.inl h1⟩
 unfold qah at h;simp only at h;split at h
 next x hop=>obtain⟨hx,rfl⟩:=put h;exact pure_ (qbk e hx) rfl (by simp[execOp,hop])
 next x hop=>obtain⟨hx,rfl⟩:=put h;exact pure_ (qbk e hx) rfl (by simp[execOp,hop])
 ·rename_i c x y hop;replace h:=obs h;obtain⟨cv,hc,h⟩:=h;have hcr:=qbk e hc;split at h
  ·rename_i t;have hce:a.eval c=.bool t:=(by cases hq:a.eval c<;>rw[hq]at hcr<;>cases hcr;rfl);split at h
   ·obtain⟨hx,rfl⟩:=put h;exact pure_ (qbk e hx) rfl (by simp[execOp,hop,hce,asBool])
   ·obtain⟨hx,rfl⟩:=put h;exact pure_ (qbk e hx) rfl (by simp[execOp,hop,hce,asBool])
  ·simp at h
 ·replace h:=obs h;obtain⟨k,hk,h⟩:=h;simp only[sj,jg]at h;exact blk hk h.1.symm h.2.symm
 ·replace h:=obs h;obtain⟨k,hk,h⟩:=h;simp only[sj,jg]at h;exact blk hk h.1.symm h.2.symm
 ·replace h:=obs h;obtain⟨k,hk,h⟩:=h;simp only[sj,jg]at h;exact blk hk h.1.symm h.2.symm
 ·replace h:=obs h;obtain⟨k,hk,h⟩:=h;simp only[sj,jg]at h;exact blk hk h.1.symm h.2.symm
 ·replace h:=obs h;obtain⟨k,hk,h⟩:=h;simp only[sj,jg]at h;exact blk hk h.1.symm h.2.symm
 ·rename_i t parts hop;replace h:=obs h;obtain⟨ps,hps,h⟩:=h;obtain⟨hx,rfl⟩:=put h;obtain⟨h1,h2⟩:=qof e hps;obtain⟨y,hr,hv⟩:=zcj (vals:=parts.toList.map fun p=>(p.1,a.eval p.2)) hx (by simp[h1]) (by simpa[yL]using h2) w;refine pure_ hv rfl ?_;have:(parts.toList.map fun p=>(p.1,a.eval p.2)).toArray=parts.map fun(i,x)=>(i,a.eval x):=by simp[<- List.map_toArray]
  rw[this]at hr;simp[execOp,hop,hr]
 next t x hop=>replace h:=obs h;obtain⟨p,hp,h⟩:=h;obtain⟨hx,rfl⟩:=put h;obtain⟨y,hr,hv⟩:=qo9 sm hx (qbk e hp);exact pure_ hv rfl (by simp[execOp,hop,hr])
 next t x y hop=>replace h:=obs h;obtain⟨p,hp,h⟩:=h;replace h:=obs h;obtain⟨u,hu,h⟩:=h;replace h:=obs h;obtain⟨H1,hw,h⟩:=h;simp only[sj,jg]at h;obtain⟨rfl,rfl⟩:=h;obtain⟨w',hr,h1,h2⟩:=qss (P:=C.P) sm hw (qbk e hp) (qbk e hu);exact⟨undef,ρ,w',.undef _,h1,h2,.inr ⟨by simp[execOp,hop,hr],rfl⟩⟩
 ·rename_i x hop;replace h:=obs h;obtain⟨p,hp,h⟩:=h;have hpr:=qbk e hp;split at h
  ·simp only[sj,jg]at h;obtain⟨rfl,rfl⟩:=h;refine pure_ hpr rfl ?_;cases hq:a.eval x<;>rw[hq]at hpr<;>cases hpr;simp[execOp,hop,hq]
  ·simp only[sj,jg]at h;obtain⟨rfl,rfl⟩:=h;refine pure_ hpr rfl ?_;cases hq:a.eval x<;>rw[hq]at hpr<;>cases hpr;simp[execOp,hop,hq]
  ·simp only[sj,jg]at h;obtain⟨rfl,rfl⟩:=h;refine pure_ hpr rfl ?_;obtain⟨a',c',hq,_⟩:=hpr.args;simp[execOp,hop,hq]
  ·simp only[sj,jg]at h;obtain⟨rfl,rfl⟩:=h;refine pure_ hpr rfl ?_;obtain⟨a',c',hq,_⟩:=hpr.args;simp[execOp,hop,hq]
  ·simp only[sj,jg]at h;obtain⟨rfl,rfl⟩:=h;refine pure_ hpr rfl ?_;cases hq:a.eval x<;>rw[hq]at hpr<;>cases hpr;simp[execOp,hop,hq]
  ·simp at h
 ·rename_i op t x y ty hop;replace h:=obs h;obtain⟨p,hp,h⟩:=h;replace h:=obs h;obtain⟨u,hu,h⟩:=h;obtain⟨hx,rfl⟩:=put h;obtain⟨z,hr,hv⟩:=binA_run hx (qbk e hp) (qbk e hu) x y w;refine pure_ hv rfl ?_;have e2:execOp a.eval o=(do Pure.pure (Next.value (<- (do eqGuard op t x y (a.eval x) (a.eval y);Go.binOp op t (a.eval x) (a.eval y):Sem Value))):Sem Next):=by simp only[execOp,hop]
  rw[e2,jY,hr];rfl
 next op t x hop=>replace h:=obs h;obtain⟨p,hp,h⟩:=h;obtain⟨hx,rfl⟩:=put h;obtain⟨z,hr,hv⟩:=unA_run (P:=C.P) hx (qbk e hp) w;exact pure_ hv rfl (by simp[execOp,hop,hr])
 next t u x hop=>replace h:=obs h;obtain⟨p,hp,h⟩:=h;have:=Done.of_good (conv_run sm h (qbk e hp));simpa[execOp,hop]using this
 ·rename_i fn first cap hop
  replace h:=obs h;obtain⟨p,hp,h⟩:=h;replace h:=obs h;obtain⟨u,hu,h⟩:=h;simp only[sj,jg]at h;obtain⟨rfl,rfl⟩:=h;have h1:=qj6 e hp;have h2:=qj6 e hu;exact pure_ (.func fn _ _ _ _ (by simpa using h1.1) (by simpa using h2.1) (fun i g g'=>h1.2 i g (by simpa using g')) (fun i g g'=>h2.2 i g (by simpa using g'))) rfl (by simp[execOp,hop,Instr.makeFunc])
 next t x lo hi mx hop=>replace h:=obs h;obtain⟨p,hp,h⟩:=h;replace h:=obs h;obtain⟨l,hl,h⟩:=h;replace h:=obs h;obtain⟨g,hg,h⟩:=h;replace h:=obs h;obtain⟨m,hm,h⟩:=h;obtain⟨hx,rfl⟩:=put h;obtain⟨z,hr,hv⟩:=qzv sm hx (qbk e hp) (qog e hl) (qog e hg) (qog e hm);exact pure_ hv rfl (by simp[execOp,hop,hr])
 next t x f hop=>replace h:=obs h;obtain⟨p,hp,h⟩:=h;obtain⟨hx,rfl⟩:=put h;obtain⟨z,hr,hv⟩:=qs7 hx (qbk e hp) w;exact pure_ hv rfl (by simp[execOp,hop,hr])
 next t x f hop=>replace h:=obs h;obtain⟨p,hp,h⟩:=h;obtain⟨hx,rfl⟩:=put h;obtain⟨z,hr,hv⟩:=zbv hx (qbk e hp) w;exact pure_ hv rfl (by simp[execOp,hop,hr])
 next t x i hop=>replace h:=obs h;obtain⟨p,hp,h⟩:=h;replace h:=obs h;obtain⟨u,hu,h⟩:=h;obtain⟨hx,rfl⟩:=put h;obtain⟨z,hr,hv⟩:=qrq hx (qbk e hp) (qbk e hu) w;exact pure_ hv rfl (by simp[execOp,hop,hr])
 next t x i hop=>replace h:=obs h;obtain⟨p,hp,h⟩:=h;replace h:=obs h;obtain⟨u,hu,h⟩:=h;obtain⟨hx,rfl⟩:=put h;obtain⟨z,hr,hv⟩:=zbh hx (qbk e hp) (qbk e hu) w;exact pure_ hv rfl (by simp[execOp,hop,hr])
 next t m k ok hop=>replace h:=obs h;obtain⟨p,hp,h⟩:=h;replace h:=obs h;obtain⟨u,hu,h⟩:=h;obtain⟨hx,rfl⟩:=put h;obtain⟨z,hr,hv⟩:=qyg sm hx (qbk e hp) (qbk e hu);exact pure_ hv rfl (by simp[execOp,hop,hr])
 next t m k x hop=>replace h:=obs h;obtain⟨p,hp,h⟩:=h;replace h:=obs h;obtain⟨u,hu,h⟩:=h;replace h:=obs h;obtain⟨z,hz,h⟩:=h;replace h:=obs h;obtain⟨H1,hw,h⟩:=h;simp only[sj,jg]at h;obtain⟨rfl,rfl⟩:=h;obtain⟨w',hr,h1,h2⟩:=qqa (P:=C.P) sm hw (qbk e hp) (qbk e hu) (qbk e hz);exact⟨undef,ρ,w',.undef _,h1,h2,.inr ⟨by simp[execOp,hop,hr],rfl⟩⟩
 next t m k x hop=>replace h:=obs h;obtain⟨p,hp,h⟩:=h;replace h:=obs h;obtain⟨u,hu,h⟩:=h;replace h:=obs h;obtain⟨z,hz,h⟩:=h;replace h:=obs h;obtain⟨H1,hw,h⟩:=h;simp only[sj,jg]at h;obtain⟨rfl,rfl⟩:=h;obtain⟨w',hr,h1,h2⟩:=qqa (P:=C.P) sm hw (qbk e hp) (qbk e hu) (qbk e hz);exact⟨undef,ρ,w',.undef _,h1,h2,.inr ⟨by simp[execOp,hop,hr],rfl⟩⟩
 ·rename_i x i hop;replace h:=obs h;obtain⟨p,hp,h⟩:=h;have hpr:=qbk e hp;split at h
  next vs=>obtain⟨hx,rfl⟩:=put h;obtain⟨hi,rfl⟩:=qfg hx;cases hq:a.eval x<;>rw[hq]at hpr<;>cases hpr;rename_i xs hl hv;have hi':i < xs.size:=(by omega);exact pure_ (hv i hi hi') rfl (by simp[execOp,hop,Instr.extract,hq,hi'])
  ·simp at h
 ·rename_i t x hop;replace h:=obs h;obtain⟨p,hp,h⟩:=h;replace h:=obs h;obtain⟨d,hd,h⟩:=h;have hpr:=qbk e hp;split at h
  next l=>simp only[sj,jg]at h;obtain⟨rfl,rfl⟩:=h;have hxe:a.eval x=.string ⟨l.toArray⟩:=(by cases hq:a.eval x<;>rw[hq]at hpr<;>cases hpr;rfl);have hh:(w.alloc (.stringIter ⟨l.toArray⟩ 0)).heap[w.heap.size]? = some (.stringIter ⟨l.toArray⟩ 0):=(by show (w.heap.push _)[w.heap.size]? = _;simp);obtain⟨g1,g2⟩:=sm.new (.stringIter ⟨l.toArray⟩ 0) 0 (.iter l 0) ⟨hh,rfl⟩;exact⟨_,_,_,.ptr s.H.n 0 _ Place.upd_same,g1,g2,.inl (by simp[execOp,hop,Instr.range,jk hd,hxe,newObj,Sem.run])⟩
  ·simp at h
 ·rename_i x isS hop;replace h:=obs h;obtain⟨p,hp,h⟩:=h;have hpr:=qbk e hp;split at h
  ·rename_i b;replace h:=obs h;obtain⟨k,hk,h⟩:=h;split at h
   ·rename_i st pos;cases hq:a.eval x<;>rw[hq]at hpr<;>cases hpr;rename_i l hl;obtain⟨l',hl',_,hlt,hr⟩:=sm.block hk;rw[hl]at hl';cases hl';obtain⟨hheap,hoff⟩:=hr;have hgo:(getObj l.cb).run C.P w=.ok (.stringIter ⟨st.toArray⟩ pos) w:=(by simp[getObj,Sem.run,hheap]);split at h
    ·rename_i hpos;have hpos:pos < st.length:=jG hpos;replace h:=obs h;obtain⟨H1,hset,h⟩:=h;simp only[sj,jg]at h;obtain⟨rfl,rfl⟩:=h;obtain⟨hn,hd,hk',⟨k0,hk0⟩,hs⟩:=qnd (vs:=[]) hset sm.nodup;generalize hdec:Utf8.decode ⟨st.toArray⟩ pos=dec at *;have hso:∀ob:Obj,(setObj l.cb ob).run C.P w=.ok () { w with heap:=w.heap.setIfInBounds l.cb ob }:=fun ob=>(by simp[setObj,Sem.run,hheap]);obtain⟨g1,g2⟩:=sm.turned (w':={ w with heap:=w.heap.setIfInBounds l.cb (.stringIter ⟨st.toArray⟩ (pos+dec.2)) }) hk0 hl hn hd hk' hs (by simp) (fun j hj=>by
       show (w.heap.setIfInBounds l.cb _)[j]? = _;rw[Array.getElem?_setIfInBounds,jm (fun e=>hj e.symm)]) rfl rfl rfl (by
       refine⟨?_,hoff⟩;show (w.heap.setIfInBounds l.cb _)[l.cb]? = _;rw[Array.getElem?_setIfInBounds];simp[hlt])
     refine⟨.tuple #[.bool true,.int .i64 pos,.int .i32 dec.1],ρ,_,?_,g1,g2,.inl ?_⟩
     ·refine .tup _ _ rfl fun i h1 h2=>?_
      match i,h1 with
      |0,_=>exact .bool _
      |1,_=>exact .int _ _
      |2,_=>exact .int _ _
     ·simp[execOp,hop,hq,Instr.next,hoff,hgo,qgc,hpos,hdec,hso,goInt]
    ·rename_i hpos;have hpos:¬ pos < st.length:=fun h=>(by rw[show Nat.blt pos st.length=true by simpa using h]at hpos;cases hpos);simp only[sj,jg]at h;obtain⟨rfl,rfl⟩:=h;refine pure_ (.tup [.bool false] #[.bool false] rfl fun i h1 h2=>?_) rfl ?_
     ·match i,h1 with
      |0,_=>exact .bool _
     ·simp[execOp,hop,hq,Instr.next,hoff,hgo,qgc,hpos]
   ·simp at h
  ·simp at h
 next c hop=>obtain⟨b,hb⟩:=hq c hop;replace h:=obs h;obtain⟨args,ha,h⟩:=h;rw[hb]at h;have hr:=fun cs=>qvr (C:=C) (ty:=o.type) (cs:=cs) sm h (qj6 e ha);simp only[Je]at hr;simp only[execOp,hop,resolve,hb,jY,yV,jN,invoke];exact hr _
 ·simp at h
end
def fen:Option Nat->Fence
 |none=>Fence.wide
 |some l=>Fence.wide.inRound l
theorem qxi(r:Option Nat) (f:FuncId):(fen r).fn f:=by cases r<;>trivial
theorem qu3(r:Option Nat):(fen r).depth.isSome=false:=by cases r<;>rfl
theorem zbx{r:Option Nat} {n:Nat} {P:Program} {f:FuncId} {args:Array Value} {w:World} {R:Ending->World->Prop} (h:CallsIn Fence.wide n P f args w R):CallsIn (fen r) n P f args w R:=by
 cases r with
 |none=>exact h
 |some l=>exact h.inRound l
theorem qu2{r:Option Nat} {n:Nat} {P:Program} {l:Nat} {f:FuncId} {tmps:Array Value} {as' bd:Code} {w:World} {R:Ending->World->Prop} (h:RoundIn Fence.wide n P l f tmps as' bd w R):RoundIn (fen r) n P l f tmps as' bd w R:=by
 cases r with
 |none=>exact h
 |some l=>exact h
section
variable {ρ:Place} {w:World}
def qvx(ρ:Place) (H:Heap) (w:World) (v:AV) (H':Heap):Ending->World->Prop:=
 fun e w'=>∃x ρ',e=.returned x/\VR ρ' v x/\Sim ρ' H' w'/\Step ρ H w ρ' H' w'
def CallAt(C:Ctx) (f:FuncId) (args:List AV) (H:Heap) (v:AV) (H':Heap):Prop:=
 ∀ρ w xs,Sim ρ H w->VRs ρ args xs ->
  (∃x ρ' w',(callFunc f xs.toArray).run C.P w=.ok (.value x) w'/\VR ρ' v x/\Sim ρ' H' w'/\Step ρ H w ρ' H' w') \/
  (∃g ys,(callFunc f xs.toArray).run C.P w=.ok (.enter g ys) w/\CallsIn Fence.wide 0 C.P g ys w (qvx ρ H w v H'))
def qi5(C:Ctx) (b:Nat) (args:List AV) (H:Heap) (v:AV) (H':Heap):Prop:=
 ∀ρ w xs l,Sim ρ H w->VRs ρ args xs->ρ b=some l ->
  ∃fn tmps assign body,(Instr.yield l.cb xs.toArray).run C.P w=.ok (.round l.cb fn tmps assign body) w/\RoundIn Fence.wide 0 C.P l.cb fn tmps assign body w (qvx ρ H w v H')
structure CallOK (C:Ctx) (call:qck):Prop where
 fn:∀f args H v H',call (.fn f) args H=some (v,H')->CallAt C f args H v H'
 yl:∀b args H v H',call (.yl b) args H=some (v,H')->qi5 C b args H v H'
theorem qlg{ops:Array Oper} {s:St} {a:Act} {o:Oper} {g:Bool} (e:EnvR ρ s a) (h:qar ops s o=some g):Region.wanted o (yielded ops a.tmps)=g:=by
 unfold qar at h;unfold Region.wanted;split at h
 next hg=>simp only[sj]at h;subst h;simp[hg]
 ·rename_i j want hg;replace h:=obs h;obtain⟨p,hp,h⟩:=h;replace h:=obs h;obtain⟨t,ht,h⟩:=h;replace h:=obs h;obtain⟨v,hv,h⟩:=h;have hvr:=e.val t v hv;simp only[hg,yielded,hp,ht,jc];rw[Array.getD_eq_getD_getElem?]at hvr;split at h
  ·rename_i b;simp only[sj]at h;subst h;cases hx:a.tmps[t]? with
   |none=>rw[hx]at hvr;cases hvr
   |some x=>rw[hx]at hvr;simp only[yg]at hvr;cases hvr;simp
  ·simp only[sj]at h;subst h;cases hx:a.tmps[t]? with
   |none=>simp
   |some x=>rw[hx]at hvr;simp only[yg]at hvr;cases hvr;simp
  ·simp at h
theorem qq5{C:Ctx} {call:qck} {o:Oper} {s:St} {r:AV × Heap} (h:qah C call o s=some r) (ro:Option Nat) (f:Operand->Value):o.semAt ro f=execOp f o:=by
 unfold Oper.semAt;split
 next l c hop=>unfold qah at h;simp[hop]at h
 ·rfl
theorem zaq{C:Ctx} {call:qck} (hC:CallOK C call) {o:Oper} {s:St} {a:Act} {r:Option Nat} {next:Act->World->Prop} {Q:Exit->Act->World->Prop} {v:AV} {H':Heap}
  (hv:qah C call o s=some (v,H')) (sm:Sim ρ s.H w) (e:EnvR ρ s a)
  (fin:∀x ρ' w',VR ρ' v x->Sim ρ' H' w'->Step ρ s.H w ρ' H' w'->next (a.put o.dst x) w'):o.wpIn (fen r) 0 C.P a w next Q:=by
 refine⟨fun f _=>qxi r f,?_⟩;rw[qq5 hv];by_cases hq:za9 o.op
 ·obtain⟨x,ρ',w',h1,h2,h3,h4⟩:=val_run sm e hv hq;rcases h4 with h4|⟨h4,rfl⟩
  ·rw[h4];exact fin x ρ' w' h1 h2 h3
  ·rw[h4];exact fin undef ρ' w' h1 h2 h3
 ·have:∃c f,o.op=.call c/\c.callee=.value f:=by
   by_cases hc:∃c,o.op=.call c
   ·obtain⟨c,hc⟩:=hc;cases hcc:c.callee with
    |value f=>exact⟨c,f,hc,hcc⟩
    |builtin b=>exact absurd (fun c' hc'=>by rw[hc]at hc';cases hc';exact⟨b,hcc⟩) hq
    |invoke x m=>unfold qah at hv;simp[hc,hcc]at hv
   ·exact absurd (fun c hc'=>absurd ⟨c,hc'⟩ hc) hq
  obtain⟨c,f,hop,hcc⟩:=this;have hv2:((qfy s c.args.toList).bind fun args=>(qc5 s f).bind fun f=>match f with
   |.func (.func f) first cap=>call (.fn f) (first++args++cap) s.H
   |.yld b=>call (.yl b) args s.H
   |_=>none)=some (v,H'):=by
   unfold qah at hv;simp only[hop,hcc]at hv;exact hv
  replace hv2:=obs hv2;obtain⟨args,ha,hv2⟩:=hv2;replace hv2:=obs hv2;obtain⟨fv,hf,hv2⟩:=hv2;split at hv2
  ·rename_i g first cap
   obtain⟨first',cap',hfe,hfi,hca⟩:=(qbk e hf).args;have hall:VRs ρ (first++args++cap) (first'.toList++(c.args.map a.eval).toList++cap'.toList):=(hfi.append (qj6 e ha)).append hca;have hrun:(execOp a.eval o).run C.P w=(callFunc g (first'.toList++(c.args.map a.eval).toList++cap'.toList).toArray).run C.P w:=(by have e1:(first'.toList++(c.args.map a.eval).toList++cap'.toList).toArray=first'++c.args.map a.eval++cap':=(by apply Array.ext';simp);rw[e1];simp[execOp,hop,hcc,resolve,Deferred.ofValue,hfe,invoke]);rw[hrun];rcases hC.fn g _ s.H v H' hv2 ρ w _ sm hall with⟨x,ρ',w',h1,h2,h3,h4⟩|⟨g',ys,h1,h2⟩
   ·rw[h1];exact fin x ρ' w' h2 h3 h4
   ·rw[h1];refine⟨fun hd=>(by rw[qu3]at hd;cases hd),?_⟩;refine CallsIn.mono (zbx h2) ?_;rintro e' w' ⟨x,ρ',rfl,h3,h4,h5⟩;exact fin x ρ' w' h3 h4 h5
  next b=>have hfr:=qbk e hf;cases hq:a.eval f<;>rw[hq]at hfr<;>cases hfr;rename_i l hl;have hrun:(execOp a.eval o).run C.P w=(Instr.yield l.cb (c.args.map a.eval).toList.toArray).run C.P w:=(by rw[Je];simp[execOp,hop,hcc,resolve,Deferred.ofValue,hq,invoke]);rw[hrun];obtain⟨fn,tmps,as',bd,h1,h2⟩:=hC.yl b _ s.H v H' hv2 ρ w _ l sm (qj6 e ha) hl;rw[h1];refine⟨fun hd=>(by rw[qu3]at hd;cases hd),?_⟩;refine RoundIn.mono (qu2 h2) ?_;rintro e' w' ⟨x,ρ',rfl,h3,h4,h5⟩;exact fin x ρ' w' h3 h4 h5
  ·simp at hv2
theorem op_wp{C:Ctx} {call:qck} (hC:CallOK C call) {ops:Array Oper} {i:Nat} {o:Oper} (ho:ops[i]? = some o) {s s':St} {a:Act} {r:Option Nat} {next:Act->World->Prop} {Q:Exit->Act->World->Prop}
  (h:qeb C call ops o s=some s') (sm:Sim ρ s.H w) (e:EnvR ρ s a)
  (hk:∀a' w' ρ',Sim ρ' s'.H w'->Step ρ s.H w ρ' s'.H w'->EnvR ρ' s' a'->a'.defers=a.defers->next a' w'):wpOpIn (fen r) 0 C.P ops Q i next a w:=by
 unfold wpOpIn;simp only[ho];have defers:∀(d:Option Tmp) (x:Value),(a.put d x).defers=a.defers:=fun d x=>by cases d<;>rfl
 replace h:=obs h;obtain⟨g,hg,h⟩:=h;rw[qlg e hg];split at h
 ·simp only[jQ];replace h:=obs h;obtain⟨⟨v,H'⟩,hv,hput⟩:=h;have hput:St.put { s with H:=H' } o.dst v=some s':=hput;have hH:s'.H=H':=St.put_heap hput;exact zaq hC hv sm e fun x ρ' w' h1 h2 h3=>hk _ w' ρ' (hH ▸ h2) (hH ▸ h3) (((e.mono h3.le).heap H').put hput h1) (defers _ _)
 ·simp only[jz,jM];refine⟨fun f _=>qxi r f,?_⟩;have hH:s'.H=s.H:=St.put_heap h;exact hk _ w ρ (hH ▸ sm) (hH ▸ .refl _ _ _) (e.put h (.tup [] #[] rfl (fun i h=>absurd h (j3 i)))) (defers _ _)
theorem qp0{s:St} {a:Act} (sm:Sim ρ s.H w) (e:EnvR ρ s a) (o:Oper) :
  Sim ρ (qc0 s o).H w/\Step ρ s.H w ρ (qc0 s o).H w/\EnvR ρ (qc0 s o) a:=by
 unfold qc0;have kill:∀b,Sim ρ ({ s with H:=s.H.kill b }:St).H w/\Step ρ s.H w ρ ({ s with H:=s.H.kill b }:St).H w/\EnvR ρ { s with H:=s.H.kill b } a:=fun b=>
  ⟨(sm.killed b).1,(sm.killed b).2,e.heap _⟩
 repeat' split
 all_goals first|exact kill _|exact⟨sm,.refl _ _ _,e⟩
theorem zao{C:Ctx} {call:qck} (hC:CallOK C call) {ops:Array Oper} {r:Option Nat} {Q:Exit->Act->World->Prop}:∀{l:List Oper} {i:Nat} {s s':St} {a:Act} {ρ:Place} {w:World},
  (∀j,l[j]? = ops[i+j]?)->qfn C call ops l s=some s'->Sim ρ s.H w->EnvR ρ s a ->
  (∀a' w' ρ',Sim ρ' s'.H w'->Step ρ s.H w ρ' s'.H w'->EnvR ρ' s' a'->a'.defers=a.defers->Q .normal a' w')->wpOpsIn (fen r) 0 C.P ops Q (List.range' i l.length) a w
 |[],i,s,s',a,ρ,w,_,h,sm,e,hk=>by simp only[qfn,sj]at h;subst h;exact hk a w ρ sm (.refl _ _ _) e rfl
 |o::l,i,s,s',a,ρ,w,hl,h,sm,e,hk=>by obtain⟨s1,h1,h2⟩:=obs h;obtain⟨g1,g2,g3⟩:=qp0 sm e o;rw[jE,List.range'_succ,wpOpsIn_cons];refine op_wp hC (by simpa using(hl 0).symm) h1 g1 g3 fun a' w' ρ' k1 k2 k3 k4=>?_;refine zao hC (fun j=>by have:=hl (j+1);simpa[Nat.add_assoc,Nat.add_comm 1 j]using this) h2 k1 k3 fun a2 w2 ρ2 m1 m2 m3 m4=>?_;exact hk a2 w2 ρ2 m1 ((g2.trans k2).trans m2) m3 (m4.trans k4)
theorem EnvR.fresh{s:St} {a:Act} (e:EnvR ρ s a):EnvR ρ { s with ts:=[] } a:=by
 refine⟨e.size,fun t v h=>e.val t v ?_⟩;simp only[St.get]at h ⊢;split at h
 next x hx=>simp only[sj]at h;subst h;simp[hx]
 ·simp[qhv,qmw]at h
end
theorem qf1{s s':St} {x:Operand} (h:∀t,x=.tmp t->s.get t=s'.get t):qc5 s x=qc5 s' x:=by
 cases x with
 |tmp t=>exact h t rfl
 |_=>rfl
theorem qkj{s s':St}:∀{xs:List Operand},(∀t,Operand.tmp t∈xs->s.get t=s'.get t)->qfy s xs=qfy s' xs
 |[],_=>rfl
 |x::r,h=>by simp only[qfy];rw[qf1 (s:=s) (s':=s') (x:=x) (fun t e=>h t (by simp[e])),qkj (fun t ht=>h t (ji _ ht))]
theorem qio{s s':St}:∀{xs:List (Nat × Operand)},(∀t,Operand.tmp t∈xs.map (·.2)->s.get t=s'.get t)->qi1 s xs=qi1 s' xs
 |[],_=>rfl
 |x::r,h=>by simp only[qi1];rw[qf1 (s:=s) (s':=s') (x:=x.2) (fun t e=>h t (by simp[e])),qio (fun t ht=>h t (by simp at ht ⊢;exact .inr ht))]
theorem qv4{s s':St} {x:Option Operand} (h:∀t,x=some (.tmp t)->s.get t=s'.get t):qhd s x=qhd s' x:=by
 cases x with
 |none=>rfl
 |some x=>simp only[qhd];rw[qf1 (s:=s) (s':=s') (x:=x) (fun t e=>h t (by rw[e]))]
def Asks(o:Op) (t:Nat):Prop:=Operand.tmp t∈o.operands.toList
theorem qoi{C:Ctx} {o:Oper} {s s':St} (h:∀t,Asks o.op t->s.get t=s'.get t):qbc C o s=qbc C o s':=by
 unfold qbc;unfold Asks at h;split<;>rename_i hop<;>simp only[hop,Op.operands]at h
 ·rfl
 next t x=>rw[qf1 (s:=s) (s':=s') (x:=x) (fun t e=>h t (by simp[e]))]
 next t l parts=>rw[qio (s:=s) (s':=s') (fun t ht=>h t (by simpa using ht))]
 next t l c=>rw[qf1 (s:=s) (s':=s') (x:=l) (fun t e=>h t (by simp[e])),qf1 (s:=s) (s':=s') (x:=c) (fun t e=>h t (by simp[e]))]
 ·rename_i t r;cases r with
  |none=>rfl
  |some x=>simp only;rw[qf1 (s:=s) (s':=s') (x:=x) (fun t e=>h t (by simp[e]))]
 ·rfl
theorem qs9{C:Ctx} {call:qck} {o:Oper} {s s':St} (hH:s.H=s'.H) (h:∀t,Asks o.op t->s.get t=s'.get t):qah C call o s=qah C call o s':=by
 have hm:=qoi (C:=C) h;have one:∀x,x∈o.op.operands.toList->qc5 s x=qc5 s' x:=fun x hx=>qf1 fun t e=>h t (by unfold Asks;rw[<- e];exact hx);have many:∀xs:List Operand,(∀x,x∈xs->x∈o.op.operands.toList)->qfy s xs=qfy s' xs:=fun xs hx=>qkj fun t ht=>h t (hx _ ht);have opt:∀x:Option Operand,(∀y,x=some y->y∈o.op.operands.toList)->qhd s x=qhd s' x:=fun x hx=>qv4 fun t ht=>h t (hx _ ht);cases hop:o.op with
 |move x=>simp only[qah,hop,hH,one x (by simp[hop,Op.operands])]
 |assign x=>simp only[qah,hop,hH,one x (by simp[hop,Op.operands])]
 |pick c x y=>simp only[qah,hop,hH,one c (by simp[hop,Op.operands]),one x (by simp[hop,Op.operands]),one y (by simp[hop,Op.operands])]
 |alloc t=>simp only[qah,hop,hH,hm]
 |box t x=>simp only[qah,hop,hH,hm]
 |buildSlice t n ps=>simp only[qah,hop,hH,hm]
 |makeMap t r=>simp only[qah,hop,hH,hm]
 |build t ps=>have:qi1 s ps.toList=qi1 s' ps.toList:=qio fun t ht=>h t (by simpa[Asks,hop,Op.operands]using ht);simp only[qah,hop,hH,this]
 |load t x=>simp only[qah,hop,hH,one x (by simp[hop,Op.operands])]
 |store t x y=>simp only[qah,hop,hH,one x (by simp[hop,Op.operands]),one y (by simp[hop,Op.operands])]
 |nilCheck x=>simp only[qah,hop,hH,one x (by simp[hop,Op.operands])]
 |binOp op t x y ty=>simp only[qah,hop,hH,one x (by simp[hop,Op.operands]),one y (by simp[hop,Op.operands])]
 |unOp op t x=>simp only[qah,hop,hH,one x (by simp[hop,Op.operands])]
 |convert t u x=>simp only[qah,hop,hH,one x (by simp[hop,Op.operands])]
 |makeFunc f x y=>simp only[qah,hop,hH,many x.toList (fun z hz=>by simp[hop,Op.operands]at hz ⊢;exact .inl hz),many y.toList (fun z hz=>by simp[hop,Op.operands]at hz ⊢;exact .inr hz)]
 |makeSlice t x y=>simp only[qah,hop,hH,hm]
 |slice t x a b c=>simp only[qah,hop,hH,one x (by simp[hop,Op.operands]),opt a (fun y e=>by simp[hop,Op.operands,e]),opt b (fun y e=>by simp[hop,Op.operands,e]),opt c (fun y e=>by simp[hop,Op.operands,e])]
 |fieldAddr t x f=>simp only[qah,hop,hH,one x (by simp[hop,Op.operands])]
 |field t x f=>simp only[qah,hop,hH,one x (by simp[hop,Op.operands])]
 |indexAddr t x y=>simp only[qah,hop,hH,one x (by simp[hop,Op.operands]),one y (by simp[hop,Op.operands])]
 |index t x y=>simp only[qah,hop,hH,one x (by simp[hop,Op.operands]),one y (by simp[hop,Op.operands])]
 |lookup t x y ok=>simp only[qah,hop,hH,one x (by simp[hop,Op.operands]),one y (by simp[hop,Op.operands])]
 |mapUpdate t x y z=>simp only[qah,hop,hH,one x (by simp[hop,Op.operands]),one y (by simp[hop,Op.operands]),one z (by simp[hop,Op.operands])]
 |insert t x y z=>simp only[qah,hop,hH,one x (by simp[hop,Op.operands]),one y (by simp[hop,Op.operands]),one z (by simp[hop,Op.operands])]
 |extract x i=>simp only[qah,hop,hH,one x (by simp[hop,Op.operands])]
 |range t x=>simp only[qah,hop,hH,one x (by simp[hop,Op.operands])]
 |next x b=>simp only[qah,hop,hH,one x (by simp[hop,Op.operands])]
 |call c=>
  have h1:=many c.args.toList (fun z hz=>by simp[hop,Op.operands,Call.operands]at hz ⊢;exact .inr hz);cases hc:c.callee with
  |builtin b=>simp only[qah,hop,hH,h1,hc]
  |value f=>simp only[qah,hop,hH,h1,hc,one f (by simp[hop,Op.operands,Call.operands,hc])]
  |invoke x m=>simp only[qah,hop,hH,h1,hc]
 |_=>simp only[qah,hop]
theorem qn3{P:Program} {H H':Heap} {b:Builtin} {ts:Array TypeId} {args:List AV} {v:AV} (hb:b=.max\/b=.min) (h:qcl P H b ts args=some (v,H')) :
  H'=H/\∀H2,qcl P H2 b ts args=some (v,H2):=by
 cases args with
 |nil=>rcases hb with rfl|rfl<;>simp[qcl]at h
 |cons x r=>
  have e:∀H2,qcl P H2 b ts (x::r)=(qkv (decide (b=.min)) x r).bind fun x=>some (x,H2):=fun H2=>by rcases hb with rfl|rfl<;>rfl
  rw[e]at h;obtain⟨y,hy,h⟩:=obs h;simp only[sj,jg]at h;obtain⟨rfl,rfl⟩:=h;exact⟨rfl,fun H2=>by rw[e,hy];rfl⟩
theorem qvs{P:Program} {H H':Heap} {ts:Array TypeId} {args:List AV} {v:AV} (h:qcl P H .len ts args=some (v,H')):H'=H:=by
 cases args with
 |nil=>simp[qcl]at h
 |cons x r=>
  cases r with
  |cons _ _=>simp[qcl]at h
  |nil=>have e:qcl P H .len ts [x]=(ts[0]?).bind fun t=>(qf3 P H t x).bind fun n=>some (.int .i64 n,H):=rfl;rw[e]at h;obtain⟨t,_,h⟩:=obs h;obtain⟨n,_,h⟩:=obs h;simp only[sj,jg]at h;exact h.2.symm
theorem qhw{C:Ctx} {call:qck} {o:Oper} {s:St} {v:AV} {H':Heap} (hc:qb4 o.op=.pure) (h:qah C call o s=some (v,H')):H'=s.H/\∀H,qah C call o { s with H:=H }=some (v,H):=by
 have put:∀{x:Option AV},(x.bind fun x=>some (x,s.H))=some (v,H')->x=some v/\H'=s.H:=fun {x} hx=>by obtain⟨y,hy,hx⟩:=obs hx;simp only[sj,jg]at hx;exact⟨by rw[hy,hx.1],hx.2.symm⟩
 have hop:∀(H:Heap) x,qc5 { s with H:=H } x=qc5 s x:=fun H x=>qf1 fun _ _=>rfl;have hops:∀(H:Heap) x,qfy { s with H:=H } x=qfy s x:=fun H x=>qkj fun _ _=>rfl;have hopP:∀(H:Heap) x,qi1 { s with H:=H } x=qi1 s x:=fun H x=>qio fun _ _=>rfl;cases ho:o.op with
 |move x|assign x=>
  simp only[qah,ho,hop]at h ⊢;obtain⟨h1,h2⟩:=put h;exact⟨h2,fun H=>by simp[h1]⟩
 |pick c x y=>
  simp only[qah,ho,hop]at h ⊢;obtain⟨cv,hcv,h⟩:=obs h;simp only[hcv,jc];split at h
  ·split at h
   ·obtain⟨h1,h2⟩:=put h;exact⟨h2,fun H=>by simp[h1]⟩
   ·obtain⟨h1,h2⟩:=put h;exact⟨h2,fun H=>by simp[h1]⟩
  ·simp at h
 |build t ps=>simp only[qah,ho,hopP]at h ⊢;obtain⟨p,hp,h⟩:=obs h;obtain⟨h1,h2⟩:=put h;exact⟨h2,fun H=>by simp[hp,h1]⟩
 |nilCheck x=>simp only[qah,ho,hop]at h ⊢;obtain⟨p,hp,h⟩:=obs h;simp only[hp,jc];split at h<;>simp only[sj,jg,reduceCtorEq]at h<;>(obtain⟨rfl,rfl⟩:=h;exact⟨rfl,fun H=>rfl⟩)
 |binOp op t x y ty=>simp only[qah,ho,hop]at h ⊢;obtain⟨p,hp,h⟩:=obs h;obtain⟨q,hq,h⟩:=obs h;obtain⟨h1,h2⟩:=put h;exact⟨h2,fun H=>by simp[hp,hq,h1]⟩
 |unOp op t x=>simp only[qah,ho,hop]at h ⊢;obtain⟨p,hp,h⟩:=obs h;obtain⟨h1,h2⟩:=put h;exact⟨h2,fun H=>by simp[hp,h1]⟩
 |makeFunc f x y=>simp only[qah,ho,hops]at h ⊢;obtain⟨p,hp,h⟩:=obs h;obtain⟨q,hq,h⟩:=obs h;simp only[sj,jg]at h;obtain⟨rfl,rfl⟩:=h;exact⟨rfl,fun H=>by simp[hp,hq]⟩
 |fieldAddr t x f|field t x f=>
  simp only[qah,ho,hop]at h ⊢;obtain⟨p,hp,h⟩:=obs h;obtain⟨h1,h2⟩:=put h;exact⟨h2,fun H=>by simp[hp,h1]⟩
 |indexAddr t x y|index t x y=>
  simp only[qah,ho,hop]at h ⊢;obtain⟨p,hp,h⟩:=obs h;obtain⟨q,hq,h⟩:=obs h;obtain⟨h1,h2⟩:=put h;exact⟨h2,fun H=>by simp[hp,hq,h1]⟩
 |extract x i=>
  simp only[qah,ho,hop]at h ⊢;obtain⟨p,hp,h⟩:=obs h;simp only[hp,jc];split at h
  ·obtain⟨h1,h2⟩:=put h;exact⟨h2,fun H=>by simp[h1]⟩
  ·simp at h
 |call c=>
  simp only[qb4,ho]at hc;simp only[qah,ho,hops,hop]at h ⊢;obtain⟨args,ha,h⟩:=obs h;simp only[ha,jc];split at hc<;>(try simp at hc);rename_i b hb;rw[hb]at h ⊢;split at hc<;>(try simp at hc;done)
  ·obtain⟨h1,h2⟩:=qn3 (.inl rfl) h;exact⟨h1,h2⟩
  ·obtain⟨h1,h2⟩:=qn3 (.inr rfl) h;exact⟨h1,h2⟩
 |_=>simp[qb4,ho]at hc
theorem qh0{C:Ctx} {call:qck} {o:Oper} {s:St} {v:AV} {H':Heap} (hc:qb4 o.op=.reads) (h:qah C call o s=some (v,H')):H'=s.H:=by
 have put:∀{x:Option AV},(x.bind fun x=>some (x,s.H))=some (v,H')->H'=s.H:=fun {x} hx=>by obtain⟨y,hy,hx⟩:=obs hx;simp only[sj,jg]at hx;exact hx.2.symm
 cases ho:o.op with
 |load t x=>simp only[qah,ho]at h;obtain⟨p,hp,h⟩:=obs h;exact put h
 |lookup t x y ok=>simp only[qah,ho]at h;obtain⟨p,hp,h⟩:=obs h;obtain⟨q,hq,h⟩:=obs h;exact put h
 |slice t x a b c=>simp only[qah,ho]at h;obtain⟨p,hp,h⟩:=obs h;obtain⟨q,hq,h⟩:=obs h;obtain⟨q2,hq2,h⟩:=obs h;obtain⟨q3,hq3,h⟩:=obs h;exact put h
 |call c=>simp only[qb4,ho]at hc;simp only[qah,ho]at h;obtain⟨args,ha,h⟩:=obs h;split at hc<;>(try simp at hc);rename_i b hb;rw[hb]at h;split at hc<;>(try simp at hc;done);exact qvs h
 |_=>simp[qb4,ho]at hc
