/-
  Part of the proof.
-/
import Derived.Test.YtcooopkognhciaaGreatDoorA1
import Derived.Test.YtcooopkognhciaaGreatDoorQM
import Derived.Shelf.SlSortCmp.WholeK
import Derived.Shelf.SlSortCmp.NoneTotal
import Derived.Laws.Externs
import Derived.Lib.MakeNoZero
import Derived.Lib.Bytealg
import Derived.RecoverIn
import Derived.TacticsInMore
import Derived.KernelRfl
import Derived.OpenShut
import Derived.ChangeArms
import Derived.Stop.Joined
import Derived.Handed
import GoSem.ClaimGoes
import Derived.Shelf.SlGeneric
import Derived.Ground.NamesProg
import Derived.Ground.SlsfProg
import Derived.Shelf.SlLaysF0
import Derived.Shelf.Slices.In.SortAlone
import Derived.Test.YtcooopkognhciaaGreatDoorProg
import Derived.Test.YtcooopkognhciaaGreatDoorChecked
set_option maxRecDepth 100000
set_option maxHeartbeats 40000000
set_option linter.all false
open Bool renaming false->Ah,true->Ag,or_true->qJ,rec->B1,and_self->qT
open Go renaming Act->FP,BinOp->CT,Code->DC,DataW->JO,Func->BC,FuncId->Au,MapEntry->Ap,MemPlace->IY,Oper->C0,Operand->BU,Program->AN,TypeId->Ai,TypeInfo->KR,Value->Aa,World->AM,Addr->BD,Deferred->Hh,IntKind->Cq,TypeDesc->eT
open Option renaming none->Z,some->I,bind_eq_some_iff->jS,map_eq_some_iff->mp
open Array renaming replicate->Cz,map->ZA,size_append->uO,size_replicate->ZB,toList->aI
open Nat renaming min_eq_right->tF,max_eq_right->KZ,beq->Am,ble->Ar,blt->AD,div_lt_of_lt_mul->qO,max_eq_left->qH,succ->A3,testBit_and->Tt,testBit_two_pow_mul_add->IX,and_le_left->Ms,and_two_pow_sub_one_eq_mod->EH,add_mul_mod_self_left->WY,pow_lt_pow_right->kR,mul_le_mul_left->ry
open Go.Region renaming ready->CQ,binds->ET,before->Df
open List renaming mk_mem_zipIdx_iff_getElem?->Qh,range->BG,countP_cons->uI,flatten_cons->JR,finRange->KC,pairwise_iff_getElem->F8,getElem?_inj->uM,not_mem_nil->KX,length->LT,mem_flatten->qI,rec->Hg,replicate->AE,ext_getElem->kh,getElem_map->EU,getElem_range->kP,cons->eV,head?_cons->rz,getElem_take->qW,getElem_drop->qV,take_add->qM
open Go.Oper renaming looksAt->Ys
open Go.World renaming cell?->WX
open Int renaming ofNat->AQ,ofNat_eq_natCast->M9,toNat->bH,fdiv_eq_ediv_of_nonneg->rq
open Go.Sem renaming run->gN,run_bind->AI
open Go.Result renaming andThen_ok->Aw
open ByteArray renaming size->aL
open UInt8 renaming ofNat->dR,toNat->dE
open Classical renaming byContradiction->ru
open Go.DataW renaming trod->jQ
open Go.Value renaming slice->PA,int->AL,bool->CU
namespace Go.Ev
noncomputable section
def rg:=@Array.all_eq_true_iff_forall_mem
def ix:=@Array.getElem?_mapIdx
def Iy:=@Bool.or_eq_false_iff
def UQ:=@Int.toNat_of_nonneg
def K0:=@List.count_append
def HM:=@List.count_le_length
def CH:=@List.eq_of_mem_replicate
def UJ:=@List.getElem!_eq_getElem?_getD
def Eg:=@List.getElem?_drop
def Ab:=@List.getElem?_eq_getElem
def AX:=@List.getElem?_map
def Jj:=@List.getElem?_range
def Iu:=@List.getElem?_set
def fT:=@List.getElem?_set_ne
def O4:=@List.getElem?_set_self
def LS:=@List.getElem?_take
def Bu:=@List.getElem_mem
def AV:=@List.length_drop
def iV:=@List.length_replicate
def B4:=@List.length_set
def Br:=@List.length_singleton
def Cg:=@List.length_take
def BS:=@List.map_append
def O5:=@List.map_map
def KD:=@List.map_replicate
def Cp:=@List.map_set
def dF:=@List.mem_append
def DW:=@List.mem_append_left
def rj:=@List.mem_append_right
def gq:=@List.mem_filterMap
def BT:=@List.mem_or_eq_of_mem_set
def dX:=@List.mem_range
def Jg:=@List.nodup_nil
def fU:=@List.range_succ
def PC:=@List.sum_append
def gv:=@List.sum_cons
def FO:=@List.take_append_drop
def iT:=@List.take_left
def CS:=@List.take_length
def A5:=@List.take_succ_eq_append_getElem
def UK:=@Nat.add_comm
def Ds:=@Nat.add_sub_cancel_left
def UL:=@Nat.add_zero
def ke:=@Nat.and_le_right
def KQ:=@Nat.eq_zero_or_pos
def GW:=@Nat.le_add_right
def Bf:=@Nat.le_of_lt
def Ji:=@Nat.lt_of_le_of_lt
def N4:=@Nat.min_eq_left
def EG:=@Nat.mul_add
def UI:=@Nat.mul_comm
def Cj:=@Nat.mul_le_mul
def BJ:=@Nat.mul_one
def F5:=@Nat.not_lt_zero
def Na:=@Nat.pow_le_pow_right
section
variable {h J h0:Y} {v v' u x x' z y:Aa} {vs D0 l l' args AP:AH} {t e:Ai} {fr Ec:Fr} {ρ C2 FS:Ren} {w w':AM} {n i id m j off nx b r k U:Nat} {a:FP} {pl:Pl} {outs:List EO} {es C3:List Ap} {kp:Aa->Y->RR} {f:Au} {call:Be} {lo s:WS} {o:Op} {hb:HB} {op:CT} {τ:Bb} {P:AN} {L:Array Bool} {d c:Type} {AU:Array C0} {g base:Nat} {fn:BC} {t3 t3':Ai} {M:E2}
abbrev On (L:Array Bool) (j:Nat):Prop:=L.getD j Ah=Ag
def I9 (U:i<L.size):On (L.setIfInBounds i Ag) j↔(On L j\/j=i):=by
 unfold On;by_cases h:i=j
 .subst h;simp[Bh,U]
 .rw[getD_set_ne Ah h]
  exact⟨.inl,λa=>a.resolve_right λe=>h e.symm⟩
section
variable{P:AN} {τ:Bb} {call:Be} {AU:Array C0} {F:Nat->Fr} {H:Nat->Y} {E:Nat->Hi} {R:Nat->Ren}
def fR (AU:Array C0) (H:Nat->Y) (E:Nat->Hi) (L:Array Bool) (m id:Nat):Prop:=∀j,j<AU.size->Wr H E j id->(On L j↔j<m)
structure PK (P:AN) (AU:Array C0) (F:Nat->Fr) (H:Nat->Y) (E:Nat->Hi) (R:Nat->Ren) (Yt:Ren) (a0:FP) (w0:AM) (L:Array Bool) (ρ:Ren) (a:FP) (w:AM):Prop where
 size:L.size=AU.size
 closed:LZ AU (On L)
 sz:(F 0).sz=a.tmps.size
 M:∀t m v,m<=AU.size->(∀j,WT AU j t->(On L j↔j<m))->(F m).M.get t=I v->∃v',a.tmps[t]?=I v'/\VR ρ v v'
 ds:a.defers=a0.defers
 b:∀id pl,ρ id=I pl->pl.b<w.heap.size
 made:∀id pl,ρ id=I pl->id<(H 0).a\/∃j,j<AU.size/\On L j/\(H j).a<=id/\id<(H (j+1)).a
 C:∀id,id<(H 0).a->ρ id=Yt id
 bi:∀id pl,ρ id=I pl->∃pl',R AU.size id=I pl'
 mem:∀id pl hb m,m<=AU.size->ρ id=I pl->id<(H m).a->fR AU H E L m id->(H m).t.get id=I hb->BR P ρ pl w hb
 ord:∀id id' pl pl' hb m,m<=AU.size->ρ id=I pl->ρ id'=I pl'->id<id'->pl.b=pl'.b->id<(H m).a->fR AU H E L m id->(H m).t.get id=I hb->hb.live=Ah
 c:∀id id' pl pl' j,j<AU.size->(H j).a<=id->id<(H (j+1)).a->(∀lo,¬Ws E j lo)->ρ id=I pl->ρ id'=I pl'->id'<(H j).a->pl'.b≠pl.b
 d:w0.heap.size<=w.heap.size
 O:∀b,b<w0.heap.size->(∀id pl,(H AU.size).lo.has id->Yt id=I pl->pl.b≠b)->w.heap[b]?=w0.heap[b]?
 new:∀id pl,(H 0).a<=id->ρ id=I pl->w0.heap.size<=pl.b\/∃j pj,(H AU.size).lo.has j/\Yt j=I pj/\pj.b=pl.b
 os:w.os=w0.os
 out:w.output=w0.output
 tape:w.tape=w0.tape
 drawn:w0.drawn<=w.drawn
def NQ {b:Bo} {x y:Nat} (h:y<x):Hy b x y=(b.getD x 0).testBit y:=by
 unfold Hy;rw[Aq (Bf h)];rfl
def Ie (h:i∈CQ .any AU L):i<L.size/\¬On L i/\∃o,AU[i]?=I o/\∀e∈o.after,ET .any e=Ag->On L e.on:=by
 let⟨a,o,d,f⟩:=mem_ready.1 h;have c:=BB λg=>by rw[Bh,Dr g] at a;cases a
 refine⟨c,λb=>?_,o,d,f⟩;rw[Bh,By c] at a;unfold On at b;rw[Bh,By c] at b;simp at a b;rw[a] at b;cases b
def Rv (d:LZ AU (On L)) (h:i∈CQ .any AU L):LZ AU (λj=>On L j\/j=i):=by
 let⟨_,_,o,f,g⟩:=Ie h;intro j k e a c hb b;rcases b with b|rfl
 .exact .inl (d j k e a c hb b)
 .rw[f] at a;cases a;exact .inl (g e c hb)
def Ic (c:LZ AU (On L)) (d:i∈CQ .any AU L) (e:j≠i) (h:Hy (Df AU).toList (max i j) (min i j)=Ag):(On L j↔j<i):=by
 rcases Sk e with a|b
 .rw[qH (Bf a),tF (Bf a),NQ a] at h
  have:=LD (Rv c d) h (.inr B);exact⟨λ_=>a,λ_=>this.resolve_right e⟩
 .rw[KZ (Bf b),N4 (Bf b),NQ b] at h
  exact⟨λf=>Cf (LD c h f) (Ie d).2.1,λa=>G⟩
def L3 (h:s.has i):s.hasB i=true:=by
 cases s with
 |no=>exact h.elim
 |one b=>have h:=h;subst h;show Am i i=Ag;simp
 |rest lo=>exact Aq h
 |pair b lo=>
  have h:=h;show(Am i b||Ar lo i)=Ag;rcases h with h|h
  .subst h;simp
  .rw[Aq h,qJ]
def X4 {nx':Nat} (h:s.has i) (d:nx<=i) (e:i<nx'):s.M nx nx'=true:=by
 cases s with
 |no=>exact h.elim
 |one b=>
  have h:=h;subst h;show(Ar nx i&&AD i nx')=Ag;have a:AD i nx'=true:=Jq
  rw[Aq d,a];rfl
 |rest lo=>
  have h:lo<=i:=h;show(AD nx nx'&&AD lo nx')=Ag;have c:AD nx nx'=true:=by rw[AK];omega
  have a:AD lo nx'=true:=by rw[AK];omega
  rw[c,a];rfl
 |pair b lo=>
  have h:=h;show((Ar nx b&&AD b nx')||(AD nx nx'&&AD lo nx'))=Ag;rcases h with h|h
  .subst h
   have a:AD i nx'=true:=Jq
   rw[Aq d,a];rfl
  .have c:AD nx nx'=true:=Jq
   have a:AD lo nx'=true:=Jq
   rw[c,a,qT,qJ]
def Nv (r:G0 P τ call AU F H E R) {d:Option Ai} (U:i<AU.size) (l:j<AU.size) (m:i≠j) (k:E i=.wr lo d)
 (b:(∃e,Ws E j e)\/E j=.aD\/(∃a,E j=.rd a/\lo.has a)\/∃a t,E j=.lk a t/\lo.has a/\ZU t d=Ah):
 Hy (Df AU).toList (max i j) (min i j)=true:=by
 rcases Sk m with f|g
 .rw[KZ (Bf f),N4 (Bf f)]
  refine r.sep i j f l ?_;rw[k];rcases b with⟨e,n,b⟩|b|⟨a,b,c⟩|⟨a,t,b,c,h⟩<;>rw[b]
  .rfl
  .rfl
  .exact L3 c
  .show(lo.hasB a&&!ZU t d)=Ag
   rw[L3 c,h];rfl
 .rw[qH (Bf g),tF (Bf g)]
  refine r.sep j i g U ?_;rw[k];rcases b with⟨e,n,b⟩|b|⟨a,b,c⟩|⟨a,t,b,c,h⟩<;>rw[b]
  .rfl
  .rfl
  .exact L3 c
  .show(lo.hasB a&&!ZU t d)=Ag
   rw[L3 c,h];rfl
def OM (i j:Nat) (b:Bo) (h:Hy b (max i j) (min i j)=Ag):Hy b (max j i) (min j i)=true:=Jq
section
variable{Yt:Ren} {a0:FP} {w0:AM} {L:Array Bool} {ρ:Ren} {a:FP} {w:AM} {i:Nat}
def Xr (r:G0 P τ call AU F H E R) (h:PK P AU F H E R Yt a0 w0 L ρ a w) (d:i∈CQ .any AU L) (U:i<AU.size) (e:j<AU.size) (c:j≠i) (b:Ws E i lo) (f:∃g,Ws E j g):(On L j↔j<i):=
 let⟨_,b⟩:=b
 Ic h.closed d c (Nv r U e (Ne.symm c) b (.inl f))
def Arg (r:G0 P τ call AU F H E R) (v:PK P AU F H E R Yt a0 w0 L ρ a w) (d:i∈CQ .any AU L) (U:i<AU.size) (e:j<AU.size) (f:(H i).a<=id) (g:id<(H (i+1)).a) (h:Wr H E j id):i<j/\¬On L j:=by
 let⟨p,lo,⟨q,k⟩,l⟩:=h;have b:i<j:=BB λm=>by have:=r.O m G;omega
 refine⟨b,λn=>?_⟩;have o:Hy (Df AU).toList j i=true:=by
  refine r.sep i j b e ?_;rw[k];cases c:E i with
  |aK=>exact X4 l f g
  |rd a=>have:=(r.aE i U).rd a c;omega
  |lk a t=>have:=(r.aE i U).lk a t c;omega
  |bad=>have:=(r.aE i U).ok;rw[c] at this;cases this
  |aD=>rfl
  |wr s u=>rfl
 have:=Ic v.closed d (show j≠i by omega) Jq;have:=this.1 n;omega
def rU (r:G0 P τ call AU F H E R) (A:PK P AU F H E R Yt a0 w0 L ρ a w) (f:i∈CQ .any AU L) (U:i<AU.size) (p:m<=AU.size) (z:id<(H m).a)
 (d:((H i).a<=id/\id<(H (i+1)).a)\/Wr H E i id) (g:fR AU H E (L.setIfInBounds i Ag) m id):i<m/\id<(H (i+1)).a/\(H m).t.get id=(H (i+1)).t.get id:=by
 have h:i<L.size:=A.size▸U
 have k:i<m:=by
  rcases d with⟨l,c⟩|b
  .exact BB λq=>by have:=r.O q G;omega
  .exact(g i U b).1 ((I9 h).2 (.inr B))
 have n:id<(H (i+1)).a:=by
  rcases d with⟨l,c⟩|b
  .exact c
  .exact AC b.1 (r.aE i U).a
 refine⟨k,n,r.same k p n λj l c b=>?_⟩;have e:j<AU.size:=G;have o:=((I9 h).1 ((g j e b).2 c)).resolve_right G;rcases d with⟨s,u⟩|⟨_,lo,v,_⟩
 .exact(Arg r A f U e s u b).2 o
 .let⟨_,x,y,_⟩:=b
  have:=(Xr r A f U e G v ⟨x,y⟩).1 o;omega
def tN (r:G0 P τ call AU F H E R) (J:PK P AU F H E R Yt a0 w0 L ρ a w) (v:i∈CQ .any AU L) (U:i<AU.size) (x:Ws E i s) {c:Nat} {g:Pl}
 (f:s.has c) (A:c<(H i).a) (k:ρ c=I g) (e:ρ id=I pl) (W:id<(H i).a) (d:¬s.has id) (l:pl.b=g.b) (n:m<=AU.size) (o:id<(H m).a) (p:fR AU H E L m id)
 (q:(H m).t.get id=I hb):hb.live=false:=by
 have X:∀b,s.top=I b->c=b->id≠c->hb.live=Ah:=by
  intro b C D d;subst D;rcases Sk d with K|M
  .exact J.ord id c pl g hb m n e k K l o p q
  .let⟨u,N,y⟩:=(r.aE i U).live c s x C
   have:=J.ord c id g pl u i (Bf U) k e M l.symm A (λj O Q=>?_) N
   .rw[this] at y;cases y
   .by_cases z:j=i
    .subst z;exact⟨λh=>Cf h (Ie v).2.1,λh=>G⟩
    .let⟨_,S,T,_⟩:=Q
     exact Xr r J v U O z x ⟨S,T⟩
 cases s with
 |no=>exact f.elim
 |rest lo=>
  have f:lo<=c:=f;have d:¬lo<=id:=d;exact J.ord id c pl g hb m n e k G l o p q
 |one b=>
  have f:=f;subst f;have d:=d;exact X c B B d
 |pair b lo=>
  have f:c=b\/lo<=c:=f;have d:¬(id=b\/lo<=id):=d;by_cases u:c=b
  .subst u
   exact X c B B (λV=>d (.inl V))
  .exact J.ord id c pl g hb m n e k G l o p q
def PK.next (r:G0 P τ call AU F H E R) (Y:PK P AU F H E R Yt a0 w0 L ρ a w) (W:i∈CQ .any AU L) (U:i<AU.size) {o:C0} (ho:AU[i]?=I o) {y:Ren} {N:AM}
 (a2:∀t j,WT AU i t->WT AU j t->j≠i->(On L j↔j<i))
 (a3:(F i).set o.dst v=I (F (i+1))) (hv:o.dst.isSome=Ag->VR y v v')
 (old:∀id,id<(H i).a\/(H (i+1)).a<=id->y id=ρ id) (ad:ρ.le y)
 (a4:∀id pl,y id=I pl->∃pl',R AU.size id=I pl')
 (a5:∀id pl,y id=I pl->pl.b<N.heap.size)
 (a6:w.heap.size<=N.heap.size)
 (au:∀b,b<w.heap.size->(∀id pl,id<(H i).a->(∃lo,Ws E i lo/\lo.has id)->ρ id=I pl->pl.b≠b)->N.heap[b]?=w.heap[b]?)
 (ae:∀id pl,(H i).a<=id->id<(H (i+1)).a->y id=I pl->w.heap.size<=pl.b\/∃j s lo,Ws E i lo/\lo.has j/\j<(H i).a/\ρ j=I s/\s.b=pl.b)
 (a7:∀id pl hb,((H i).a<=id/\id<(H (i+1)).a)\/Wr H E i id->y id=I pl->(H (i+1)).t.get id=I hb->BR P y pl N hb)
 (a8:∀id c pl pl' hb,id<c->c<(H (i+1)).a->((H i).a<=id/\id<(H (i+1)).a)\/Wr H E i id->y id=I pl->y c=I pl'->pl.b=pl'.b->(H (i+1)).t.get id=I hb->hb.live=Ah)
 (a9:N.os=w.os) (ba:N.output=w.output) (bb:N.tape=w.tape) (hdr:w.drawn<=N.drawn):
 PK P AU F H E R Yt a0 w0 (L.setIfInBounds i Ag) y (a.put o.dst v') N:=by
 have ab:i<L.size:=Y.size▸U
 have hn:¬On L i:=(Ie W).2.1;have bl:=(r.aE i U).a;have af:∀{j},j≠i->(On (L.setIfInBounds i Ag) j↔On L j):=λX=>(I9 ab).trans ⟨λh=>h.resolve_right X,.inl⟩;have bm:=r.O (Al i) (Bf U);have av:∀{m id},¬(((H i).a<=id/\id<(H (i+1)).a)\/Wr H E i id)->fR AU H E (L.setIfInBounds i Ag) m id->(id<(H i).a\/(H (i+1)).a<=id)/\fR AU H E L m id:=by
  intro m id n z;refine⟨?_,λj K hw=>?_⟩
  .rcases A8 id (H i).a with h|h
   .exact .inl h
   .exact .inr (gQ λA=>n (.inl ⟨h,A⟩))
  .have X:j≠i:=λe=>n (.inr (e▸hw))
   rw[←af X];exact z j K hw
 have aw:∀{id pl},ρ id=I pl->(H (i+1)).a<=id->∃j,j<AU.size/\On L j/\i<j/\(H j).a<=id/\id<(H (j+1)).a:=by
  intro id pl e l;rcases Y.made id pl e with h|⟨j,q,g,h3,h4⟩
  .omega
  .refine⟨j,q,g,?_,h3,h4⟩
   exact BB λad=>by have:=r.O (p:=j+1) (m:=i+1) G G;omega
 have am:∀{j lo},j<AU.size->On L j->i<j->Ws E i lo->∀an,¬Ws E j an:=by
  intro j lo K af ao f an bc;have:=(Xr r Y W U K G f ⟨an,bc⟩).1 af;omega
 refine⟨?_,?_,?_,?_,?_,a5,?_,?_,a4,?_,?_,?_,Ao Y.d a6,?_,?_,a9.trans Y.os,ba.trans Y.out,bb.trans Y.tape,Ao Y.drawn hdr⟩
 .rw[Array.size_setIfInBounds];exact Y.size
 .have:=Rv Y.closed W
  intro j oj e bd x hb K;exact(I9 ab).2 (this j oj e bd x hb ((I9 ab).1 K))
 .rw[Y.sz]
  cases o.dst<;>simp[Act.put]
 ·
  intro t m u x z hu;by_cases ak:WT AU i t
  .have be:=(z i ak).1 ((I9 ab).2 (.inr B))
   let⟨o',ax,hd⟩:=ak;rw[ho] at ax;cases ax;rw[r.M be x λj q g ag=>by
    have bf:=(af G).1 ((z j ag).2 g);have:=(a2 t j ⟨o,ho,hd⟩ ag G).1 bf;omega] at hu
   have hf:=(JG a3).2.2.2 t hd;rw[hf.2] at hu;cases hu;refine⟨v',?_,hv Jq⟩;rw[hd];have:t<a.tmps.size:=Y.sz▸(r.sz (Bf U)).1▸hf.1
   simp[Act.put,this]
  .obtain⟨u',q,g⟩:=Y.M t m u x (λj ag=>by
    have X:j≠i:=λe=>ak (e▸ag);rw[←af X];exact z j ag) hu
   refine⟨u',?_,g.mono ad⟩;cases hd:o.dst with
   |none=>exact q
   |some d=>
    have X:d≠t:=λe=>ak ⟨o,ho,by rw[hd,e]⟩;simp only[Act.put];rw[AY X];exact q
 .cases o.dst<;>exact Y.ds
 .intro id pl e
  by_cases l:(H i).a<=id/\id<(H (i+1)).a
  .exact .inr ⟨i,U,(I9 ab).2 (.inr B),l⟩
  .rw[old id G] at e
   exact(Y.made id pl e).imp (λh=>h) λ⟨j,q,g,h3⟩=>⟨j,q,(I9 ab).2 (.inl g),h3⟩
 .intro id l
  rw[old id (.inl G)];exact Y.C id l
 ·
  intro id pl hb m x e l z O;by_cases n:((H i).a<=id/\id<(H (i+1)).a)\/Wr H E i id
  .let⟨_,_,hs⟩:=rU r Y W U x l n z
   rw[hs] at O;exact a7 id pl hb n e O
  .let⟨al,ah⟩:=av n z
   rw[old id al] at e;have bg:=Y.mem id pl hb m x e l ah O;cases ap:hb.live with
   |false=>cases hb<;>simp[HB.live] at ap;trivial
   |true=>
    refine bg.mono ad (au _ (Y.b id pl e) λbh bi g Z e2 C=>?_);let⟨lo,f,Z⟩:=Z;rcases al with S|bj
    .have:=tN r Y W U f Z g e2 e S (λA=>n (.inr ⟨S,lo,f,A⟩)) C.symm x l ah O
     rw[this] at ap;cases ap
    .let⟨j,D,j2,T,j4,j5⟩:=aw e bj
     exact Y.c id bh pl bi j D j4 j5 (am D j2 T f) e e2 (AC g (r.O (Bf T) (Bf D))) C
 ·
  intro id c pl pl' hb m x e k S C l z O;by_cases n:((H i).a<=id/\id<(H (i+1)).a)\/Wr H E i id
  .let⟨_,bn,hs⟩:=rU r Y W U x l n z
   rw[hs] at O;rcases A8 c (H (i+1)).a with J|J
   .exact a8 id c pl pl' hb S J n e k C O
   .rw[old c (.inr J)] at k
    let⟨j,D,j2,T,j4,j5⟩:=aw k J;have ao:=r.O (Bf T) (Bf D);rcases n with⟨k1,k2⟩|⟨k1,lo,f,k2⟩
    .rcases ae id pl k1 k2 e with ai|⟨M,s,lo,f,n1,n2,Q,V⟩
     .have:=Y.b c pl' k;omega
     .exact Cf (V.trans C) (Y.c c M pl' s j D j4 j5 (am D j2 T f) k Q G)
    .rw[old id (.inl k1)] at e
     exact Cf C (Y.c c id pl' pl j D j4 j5 (am D j2 T f) k e G)
  .let⟨al,ah⟩:=av n z
   rw[old id al] at e;by_cases aj:(H i).a<=c/\c<(H (i+1)).a
   .have ay:id<(H i).a:=G
    rcases ae c pl' aj.1 aj.2 k with ai|⟨M,s,lo,f,n1,n2,Q,V⟩
    .have:=Y.b id pl e;omega
    .exact tN r Y W U f n1 n2 Q e ay (λA=>n (.inr ⟨ay,lo,f,A⟩)) (C.trans V.symm) x l ah O
   .rw[old c G] at k
    exact Y.ord id c pl pl' hb m x e k S C l ah O
 ·
  intro id c pl pl' j K q g aq e k S;by_cases az:j=i
  .subst az
   rw[old c (.inl S)] at k;have:=Y.b c pl' k;rcases ae id pl q g e with ai|⟨_,_,lo,f,_⟩
   .omega
   .exact Cf f (aq lo)
  .have bk:id<(H i).a\/(H (i+1)).a<=id:=by
    rcases A8 id (H i).a with h|h
    .exact .inl h
    .exact .inr (gQ λA=>az (r.bK K U q g h A))
   rw[old id bk] at e;by_cases aj:(H i).a<=c/\c<(H (i+1)).a
   .have ao:i<j:=BB λad=>by have:=r.O ad (Bf U);omega
    have bo:=r.O (Bf ao) (Bf K);have:=Y.b id pl e;rcases ae c pl' aj.1 aj.2 k with ai|⟨M,s,lo,f,n1,n2,Q,V⟩
    .omega
    .rw[←V];exact Y.c id M pl s j K q g aq e Q G
   .rw[old c G] at k
    exact Y.c id c pl pl' j K q g aq e k S
 ·
  intro b hb A;rw[au b (AC hb Y.d) λid pl q Z e C=>?_]
  .exact Y.O b hb A
  .let⟨lo,f,Z⟩:=Z
   have ar:=r.lo_le U (Ae _) _ ((r.aE i U).wr lo f _ Z);rcases A8 id (H 0).a with h|h
   .rw[Y.C id h] at e;exact A id pl ar e C
   .rcases Y.new id pl h e with J|⟨j,s,D,j2,T⟩
    .omega
    .exact A j s D j2 (T.trans C)
 .intro id pl l e
  by_cases a1:(H i).a<=id/\id<(H (i+1)).a
  .rcases ae id pl a1.1 a1.2 e with ai|⟨M,s,lo,f,n1,n2,Q,V⟩
   .exact .inl (Ao Y.d ai)
   .have ar:=r.lo_le U (Ae _) _ ((r.aE i U).wr lo f _ n1)
    rcases A8 M (H 0).a with h|h
    .rw[Y.C M h] at Q;exact .inr ⟨M,s,ar,Q,V⟩
    .rw[←V];exact Y.new M s h Q
  .rw[old id G] at e;exact Y.new id pl l e
end
end
def MI {t:Nat}:∀(l:List C0) (i:Nat),NG t j i l=Ag->∀k o,l[k]?=I o->o.dst=I t->i+k=j
 |[],_,_,k,o,h,_=>Jq
 |x::l,i,b,k,o,h,c=>by
  simp only[NG,An,Dm] at b;cases k with
  |zero=>
   simp at h;subst h;rcases b.1 with a|a
   .have:=Af a;omega
   .rw[c] at a;simp at a
  |succ k=>
   simp at h;have:=MI l (i+1) b.2 k o h c;omega
def Aax {w:Bool} (h:QI (aI AU) (I (g,w))=Ag):∃a t,AU[g]?=I a/\a.dst=I t/\∀j,WT AU j t->j=g:=by
 unfold QI at h;simp only[] at h;split at h
 case h_2=>cases h
 rename_i o b;split at h
 case h_2=>cases h
 rename_i t c;refine⟨o,t,Jq,c,λj d=>?_⟩;let⟨e,f,i⟩:=d;have:=MI _ _ h j e Jq i;omega
def WP {b:Type} {A:Array (List b)} {x:b}:∀{y:b},y∈A.getD j []->y∈(A.modify k (x::·)).getD j []:=by
 intro y a;rw[Bh] at*;rw[B3];by_cases h:k=j
 .rw[Bi h]
  cases c:A[j]? with
  |none=>rw[c] at a;simp at a
  |some l=>rw[c] at a;simp at a⊢;exact .inr a
 .rw[Bm h];exact a
def Yg {a:Type} {A:Array (List a)} {x:a} (b:k<A.size):x∈(A.modify k (x::·)).getD k []:=by
 rw[Bh,B3,Bi B,By b];simp
def wF (n:Nat) (w:Array (List (Tmp×Nat))) (x:C0×Nat):Array (List (Tmp×Nat)):=match x.1.dst with|I d=>w.modify (d%n) ((d,x.2)::·)|Z=>w
def Ky {n:Nat}:∀(l:List (C0×Nat)) (W:Array (List (Tmp×Nat))),W.size=n->
 (∀k y,y∈W.getD k []->y∈(l.foldl (wF n) W).getD k [])/\
 (∀x∈l,∀d,x.1.dst=I d->d%n<n->(d,x.2)∈(l.foldl (wF n) W).getD (d%n) [])
 |[],W,_=>⟨λ_ _ h=>h,λx m=>Jq⟩
 |x::l,W,g=>by
  rw[F7];cases c:x.1.dst with
  |none=>
   have i:wF n W x=W:=by simp[wF,c]
   rw[i];let⟨e,j⟩:=Ky l W g;refine⟨e,λy a d b f=>?_⟩;rcases bZ.1 a with rfl|a
   .rw[c] at b;cases b
   .exact j y a d b f
  |some d0=>
   have i:wF n W x=W.modify (d0%n) ((d0,x.2)::·):=by simp[wF,c]
   rw[i];obtain⟨e,j⟩:=Ky l (W.modify (d0%n) ((d0,x.2)::·)) (Array.size_modify▸g);refine⟨λk y a=>e k y (WP a),λy a d b f=>?_⟩;rcases bZ.1 a with rfl|a
   .rw[c] at b;cases b
    exact e _ _ (Yg Jq)
   .exact j y a d b f
structure Xp (AU:Array C0):Prop where
 lt:∀(i:Nat) (o:C0) (e:Edge),AU[i]?=I o->e∈o.after->ET .any e=Ag->e.on<i
 guard:∀(i:Nat) (o:C0) (g:Nat) (w:Bool),AU[i]?=I o->o.guard=I (g,w)->∃e∈o.after,e.on=g/\ET .any e=Ag
 tmp:∀(i:Nat) (o:C0) (t:Tmp),AU[i]?=I o->(o.dst=I t\/Operand.tmp t∈o.op.operands)->∀j,WT AU j t->j≠i->Hy (Df AU).toList (max i j) (min i j)=Ag
def NK {J:Array KR} {d:Bool} (h:Region.ok J AU d=Ag):Xp AU:=by
 unfold Region.ok at h;simp only[An] at h;let⟨⟨⟨⟨l,c⟩,_⟩,_⟩,_⟩:=h;have m:∀(i:Nat) o,AU[i]?=I o->(o.after.all (λe=>decide (e.on<i)||(match e.ground with|.gcOnly _=>e.on !=i&&decide (e.on<AU.size)|_=>Ah))&&
  (match o.guard with|Z=>Ag|I (j,_)=>o.after.any (λe=>e.on==j&&ET .any e)&&((AU[j]?).bind (·.dst)).isSome))=Ag:=by
  intro i o b;rw[rg] at l;exact l (o,i) Jq
 refine⟨λi o e b f hb=>?_,λi o g w b u=>?_,λi o t b v j x y=>?_⟩
 .have:=m i o b
  simp only[An] at this;have:=rg.1 this.1 e f;simp only[Dm,decide_eq_true_eq] at this;rcases this with h|h
  .exact h
  .unfold ET at hb
   cases z:e.ground<;>rw[z] at h hb<;>simp_all
 .have:=m i o b
  simp only[An,u] at this;let⟨k,A,a⟩:=Array.any_eq_true.1 this.2.1;have f:=Array.getElem_mem A;generalize o.after[k]=e at a f;simp only[An,beq_iff_eq] at a;exact⟨e,f,a.1,a.2⟩
 .unfold Region.temporariesOk at c
  simp only[] at c;rw[Jf] at c;let⟨C,p,D⟩:=x;have L:j<AU.size:=(dM.1 p).1;have a:=c (o,i) (by rw[Qh];simpa using b);simp only[] at a;rw[Jf] at a;have q:=a t (by
   rcases v with h|h
   .simp[h]
   .refine rj _ (gq.2 ⟨.tmp t,by simpa using h,B⟩))
  rw[Jf] at q;have E:=(Ky (n:=AU.size) AU.toList.zipIdx (Cz AU.size []) wl).2 (C,j) (by rw[Qh];simpa using p) t D (Je _ G);have r:=q (t,j) E;simp only[bne_self_eq_false,Bool.false_or,Dm,beq_iff_eq] at r;have s:=r.resolve_left y;have F:max j i=max i j:=Nat.max_comm _ _;have H:min j i=min i j:=Nat.min_comm _ _;rw[F,H] at s;have K:min i j<max i j:=G;rw[NQ K];have:(Df AU).toList.getD (max i j) 0=(Df AU).getD (max i j) 0:=by
   rw[Bh,Ak,Is]
  rw[this];exact s
def RX (t:T Aa):Bo->T Aa
 |[]=>.nil
 |x::l=>match t.get x with
  |I v=>(RX t l).ins x v
  |Z=>RX t l
def NJ (t:T Aa) (j:Nat):∀l:Bo,(RX t l).get j=if j∈l then t.get j else Z
 |[]=>Jq
 |x::l=>by
  have a:=NJ t j l;simp[RX];cases b:t.get x with
  |none=>
   simp[a];by_cases h:j=x
   .subst h;simp[b]
   .simp[h]
  |some v=>
   simp[T.M];by_cases h:j=x
   .subst h;simp[b]
   .simp[h,a]
def WD {g:Option (Nat×Bool)} (h:∀j w t,g=I (j,w)->(AU[j]?).bind (·.dst)=I t->fr.M.get t=Ec.M.get t):E5 fr (aI AU) g=E5 Ec (aI AU) g:=by
 cases g with
 |none=>rfl
 |some x=>
  let⟨j,w⟩:=x;unfold E5;simp only[];cases a:AU.toList[j]? with
  |none=>rfl
  |some o=>
   simp[];cases b:o.dst with
   |none=>rfl
   |some t=>
    simp[];rw[h j w t B Jq]
section
variable{P:AN} {τ:Bb} {call:Be} {AU:Array C0} {F:Nat->Fr} {H:Nat->Y} {E:Nat->Hi} {R:Nat->Ren}
variable{Yt:Ren} {a0:FP} {w0:AM} {L:Array Bool} {ρ:Ren} {a:FP} {w:AM} {i:Nat}
def Ahe {o:C0} {y:Fr} (z:∀x∈o.op.operands,ev τ y x=ev τ (F i) x) (l:F9 τ call (F i) (H i).ad o.op (DK (F i) o) DP=I [.aE (F (i+1)) J]) (j:H (i+1)=(H i).M J)
 (p:E i=CF τ (F i) o.op (H i) J.lo) (A:(E i).ok=Ag) (S:∀a t,E i≠.lk a t):∃c d:Y,c.a=(H i).a/\c.lo=.no/\F9 τ call y c o.op (DK (F i) o) DP=I [.aE (F (i+1)) d]/\d.a=(H (i+1)).a/\
  (∀id hb,c.t.get id=I hb->(H i).t.get id=I hb/\(E i=.aD\/(∃lo,Ws E i lo)\/E i=.rd id))/\
  (∀id,((H i).a<=id/\id<(H (i+1)).a)\/Wr H E i id->d.t.get id=(H (i+1)).t.get id)/\(∀lo,Ws E i lo->d.lo=lo)/\((∀lo,¬Ws E i lo)->∀id,id<(H i).a->¬d.lo.has id):=by
 let⟨L,M,_⟩:=vH l (p▸A);rw[←p] at L M;have u:(E i=.aD\/∃lo,Ws E i lo)->∃c d:Y,c.a=(H i).a/\c.lo=.no/\F9 τ call y c o.op (DK (F i) o) DP=I [.aE (F (i+1)) d]/\d.a=(H (i+1)).a/\
  (∀id hb,c.t.get id=I hb->(H i).t.get id=I hb/\(E i=.aD\/(∃lo,Ws E i lo)\/E i=.rd id))/\
  (∀id,((H i).a<=id/\id<(H (i+1)).a)\/Wr H E i id->d.t.get id=(H (i+1)).t.get id)/\(∀lo,Ws E i lo->d.lo=lo)/\((∀lo,¬Ws E i lo)->∀id,id<(H i).a->¬d.lo.has id):=by
  intro w;refine⟨(H i).ad,J,B,B,L7 z▸l,by rw[j];rfl,λid hb q=>⟨q,w.imp (λx=>x) .inl⟩,λid _=>by rw[j];rfl,λlo e=>((λs C=>let⟨g,N⟩:=C;(Xz (p.symm.trans N)).1:∀s,Ws E i s->s=J.lo) lo e).symm,λO=>L λs g C=>O s ⟨g,C⟩⟩
 cases f:E i with
 |aD=>rw[f] at u;exact u Jq
 |wr lo g=>rw[f] at u;exact u (.inr ⟨lo,g,f⟩)
 |lk a t=>exact Cf f Jq
 |bad=>rw[f] at A;cases A
 |aK=>
  let⟨v,nb,c⟩:=Zl (p.symm.trans f) l;have r:=c (H i).ad (DK (F i) o) DP B;rw[l] at r;let⟨D,m⟩:=Qw r.symm;have P:=c ⟨.nil,(H i).a,.no⟩ (DK (F i) o) DP B;refine⟨⟨.nil,(H i).a,.no⟩,je ⟨.nil,(H i).a,.no⟩ nb,B,B,?_,?_,λid hb q=>Jq,λid K=>?_,λlo e=>(by obtain⟨g,e⟩:=e;rw[f] at e;cases e),λ_=>?_⟩
  .rw[L7 z,P];simp[DK,D]
  .rw[j,←m];cases nb<;>rfl
  .rcases K with⟨Q,n⟩|⟨_,lo,⟨g,k⟩,_⟩
   .rw[j,←m] at n
    rw[j,←m];cases nb with
    |none=>have n:id<(H i).a:=n;omega
    |some b=>
     have n:id<(H i).a+1:=n;have:id=(H i).a:=G;subst this;show(T.ins T.nil (H i).a b).get (H i).a=((H i).t.ins (H i).a b).get (H i).a;rw[T.ao,T.ao]
   .rw[f] at k;cases k
  .cases nb<;>exact λ_ _ h=>h
 |rd b=>
  let⟨v,c⟩:=uY (p.symm.trans f) l;have r:=c (H i).ad (DK (F i) o) DP B;rw[l] at r;let⟨D,m⟩:=Qw r.symm;have R:∃t:T HB,t.get b=(H i).t.get b/\∀id hb,t.get id=I hb->id=b:=by
   cases hb:(H i).t.get b with
   |none=>exact⟨.nil,B,λid hb h=>Jq⟩
   |some x=>exact⟨T.nil.ins b x,T.ao _ _ _,λid hb h=>by
    rw[T.M] at h;by_cases w:id=b
    .exact w
    .rw[Bm w,T.C] at h;cases h⟩
  let⟨t,t1,t2⟩:=R;refine⟨⟨t,(H i).a,.no⟩,⟨t,(H i).a,.no⟩,B,B,?_,?_,λid hb q=>?_,λid K=>?_,λlo e=>(by obtain⟨g,e⟩:=e;rw[f] at e;cases e),λ_ _ _ h=>h⟩
  .rw[L7 z,(c ⟨t,(H i).a,.no⟩ (DK (F i) o) DP t1)];simp[DK,D]
  .rw[j,←m];rfl
  .have:=t2 id hb q;subst this
   exact⟨Jq,.inr (.inr B)⟩
  .rcases K with⟨Q,n⟩|⟨_,lo,⟨g,k⟩,_⟩
   .have:(H (i+1)).a=(H i).a:=by rw[j,←m];rfl
    omega
   .rw[f] at k;cases k
def Uu {a t:Nat} (b:CF τ fr o h0 lo=.lk a t):∃m x,o=.lookup t m x Ah/\ev τ fr m=I (.map (I a)):=by
 unfold CF at b;cases c:Dj o with
 |true=>rw[c] at b;cases b
 |false=>
  rw[c] at b;simp[I0] at b;split at b
  .cases b
  .cases b
  .cases b
  .cases b
  .cases b
  .cases b
  .split at b
   .cases b
   .exact(B2.2.1 _ _ b).elim
  .rename_i t m x d
   split at b
   .rename_i r e
    cases d with
    |true=>cases b
    |false=>cases b;exact⟨m,x,B,e⟩
   .exact(B2.2.1 _ _ b).elim
  .split at b
   .exact(L4.2.1 _ _ b).elim
   .exact(B2.2.1 _ _ b).elim
  .split at b
   .cases b
   .cases b
   .exact(B2.2.1 _ _ b).elim
  .split at b
   .cases b
   .cases b
   .exact(B2.2.1 _ _ b).elim
  .exact(B2.2.1 _ _ b).elim
def wk (r:G0 P τ call AU F H E R) (J:PK P AU F H E R Yt a0 w0 L ρ a w) (p:id<(H AU.size).a):∃m,m<=AU.size/\id<(H m).a/\fR AU H E L m id:=by
 have I:∀k,k<=AU.size->∃m,m<=k/\(∀j,j<m->Wr H E j id->On L j)/\(m=k\/(Wr H E m id/\¬On L m)):=by
  intro k
  induction k with
  |zero=>intro _;exact⟨0,Ae _,λj f=>G,.inl B⟩
  |succ k q=>
   intro z;let⟨m,g,c,b⟩:=q G;rcases b with rfl|b
   .by_cases h:Wr H E m id/\¬On L m
    .exact⟨m,G,c,.inr h⟩
    .refine⟨m+1,Ae _,λj f d=>?_,.inl B⟩
     by_cases t:j=m
     .subst t;exact ru λu=>h ⟨d,u⟩
     .exact c j G d
   .exact⟨m,G,c,.inr b⟩
 let⟨m,g,c,b⟩:=I AU.size Jq;refine⟨m,g,?_,λj f d=>⟨λi=>?_,λv=>c j v d⟩⟩
 .rcases b with rfl|b
  .exact p
  .exact b.1.1
 .rcases b with rfl|⟨b,l⟩
  .exact f
  .refine BB λn=>?_
   have x:m≠j:=λe=>l (e▸i);let⟨_,s,⟨A,y⟩,_⟩:=b;let⟨_,C,D,_⟩:=d;have o:=Nv r G f x y Jq;rw[KZ n,N4 n,NQ G] at o;exact l (LD J.closed o i)
def VU (r:G0 P τ call AU F H E R) {t p q:Nat} (l:p<=q) (m:q<=AU.size) (g:id<(H p).a) (c:∀k,p<=k->k<q->Wr H E k id->∃s,E k=.wr s (I t)):
 I3 τ t id ((H p).t.get id) ((H q).t.get id):=by
 induction q with
 |zero=>
  have:p=0:=G;subst this;exact I3.refl _ _ _
 |succ q h=>
  by_cases i:p=q+1
  .subst i;exact I3.refl _ _ _
  .refine(h G G λk a d=>c k a G).trans ?_
   by_cases b:Wr H E q id
   .let⟨s,e⟩:=c q G G b
    let⟨n,a,d⟩:=(r.aE q G).me s t e;let⟨_,o,⟨u,f⟩,j⟩:=b;rw[e] at f;cases f;subst a;subst j;exact d
   .rw[(r.aE q G).same id (AC g (r.O G G)) b]
    exact I3.refl _ _ _
def Amg (T:BM P τ) (hc:C8 P τ call) (av:Xp AU) (r:G0 P τ call AU F H E R) (a9:∀g,g<τ.a->Yt g=I ⟨g,0,0⟩) (Y:PK P AU F H E R Yt a0 w0 L ρ a w)
 (hr:i∈CQ .any AU L) {ro':Option Nat} {Q:Exit->FP->AM->Prop}:
 wpOpIn (Fw ro') 0 P AU Q i (λa' w'=>∃C2,PK P AU F H E R Yt a0 w0 (L.setIfInBounds i Ag) C2 a' w') a w:=by
 let⟨b8,aw,o,O,bm⟩:=Ie hr;have U:i<AU.size:=Gq;let⟨ba,bn⟩:=r.step i o O;let⟨aT,wT,ah⟩:=r.st i Jq;let⟨b9,ca,ay⟩:=r.st (i+1) U;have bo:=(r.aE i U).a;have bp:∀t∈o.looksAt AU,∀j,WT AU j t->(On L j↔j<i):=by
  intro t u j hj;by_cases D:j=i
  .subst D;exact⟨λh=>Cf h aw,λh=>G⟩
  .unfold Ys at u
   rcases List.mem_append.1 u with u|u
   .let⟨x,S,bb⟩:=gq.1 u
    have:x=.tmp t:=Jq
    subst this;exact Ic Y.closed hr D (av.tmp i o t O (.inr Jq) j hj D)
   .cases n:o.guard with
    |none=>rw[n] at u;cases u
    |some gw=>
     let⟨g,bq⟩:=gw;rw[n] at u ba;let⟨og,t',br,hd,bs⟩:=Aax ba;simp[br,CC,hd,Option.toList_some,bQ] at u;subst u;have:=bs j hj;subst this;let⟨e,he,al,hb⟩:=av.guard i o j bq O n;have bc:=bm e he hb;have ai:=av.lt i o e O he hb;rw[al] at bc ai;exact⟨λ_=>ai,λ_=>bc⟩
 have az:∀t j,WT AU i t->WT AU j t->j≠i->(On L j↔j<i):=by
  intro t j bt am bd;let⟨o',be,hd⟩:=bt;rw[O] at be;cases be;exact Ic Y.closed hr bd (av.tmp i o t O (.inl hd) j am bd)
 have ax:Tv (ρ.cut (R i)) ⟨RX (F i).M (o.looksAt AU),(F i).sz,[]⟩ a:=by
  refine⟨by show(F i).sz=_;rw[(r.sz (Bf U)).1,Y.sz],λt v hv=>?_⟩;rw[NJ] at hv;by_cases u:t∈o.looksAt AU
  .rw[Bi u] at hv
   let⟨v',A,K⟩:=Y.M t i v (Bf U) (bp t u) hv;let⟨_,_,h3⟩:=ah.b.2 t v hv;exact⟨v',A,K.cut h3⟩
  .rw[Bm u] at hv;cases hv
 have bf:∀x∈o.op.operands,ev τ ⟨RX (F i).M (o.looksAt AU),(F i).sz,[]⟩ x=ev τ (F i) x:=by
  intro x S;cases x with
  |tmp t=>
   show(RX (F i).M (o.looksAt AU)).get t=(F i).M.get t;have hm:t∈o.looksAt AU:=by unfold Ys;exact DW _ (gq.2 ⟨.tmp t,by simpa using S,B⟩)
   rw[NJ,Bi hm]
  |_=>rfl
 have bg:E5 ⟨RX (F i).M (o.looksAt AU),(F i).sz,[]⟩ (aI AU) o.guard=E5 (F i) (aI AU) o.guard:=by
  refine WD λj wn t n u=>?_;rw[NJ,Bi (by unfold Ys;exact rj _ (by simp only[n];simp[u]):t∈o.looksAt AU)]
 unfold wpOpIn;simp[O];rcases bn with⟨hw,J,an,hH,hE,bu⟩|⟨hw,aa,hH,hE⟩
 ·
  have a1:=Kn ax (bg.trans hw) o B;rw[Bi a1];have bv:∀c,o.op≠.defer c:=by
   intro c bw;rw[bw] at an;simp[F9,Ch,iH] at an
  have bh:=Oper.semAt_eq ro' a.eval o bv;by_cases V:∃b t,E i=.lk b t
  ·
   let⟨b,t,V⟩:=V;let⟨mo,xo,cb,bx⟩:=Uu (hE.symm.trans V);have hb:b<(H i).a:=by
    have hv:=EK ah.hk ah.b bx;generalize aT.eval mo=z at hv;cases hv with|map e=>exact r.bi (Bf U) e
   have cc:=r.O (Bf U) (Ae _);obtain⟨m,m1,m2,m3⟩:=wk r Y (id:=b) G;have bi:∀k,k<AU.size->Wr H E k b->k≠i->¬(On L k↔k<i)->∃s,E k=.wr s (I t):=by
    intro k hk ab aj bz;let⟨_,s,⟨me,M⟩,W⟩:=ab;cases a2:ZU t me with
    |false=>exact Cf (Ic Y.closed hr aj (OM _ _ _ (Nv r hk U aj M (.inr (.inr (.inr ⟨b,t,V,W,a2⟩)))))) bz
    |true=>
     cases me with
     |none=>cases a2
     |some t'=>have:=Af a2;subst this;exact⟨s,M⟩
   have bj:¬Wr H E i b:=λ⟨_,s,⟨me,M⟩,_⟩=>Jq
   have b0:I3 τ t b ((H m).t.get b) ((H i).t.get b):=by
    rcases A8 i m with a3|a3
    .refine(VU r (Bf a3) m1 hb λk A K ab=>?_).symm
     have aj:k≠i:=λe=>bj (e▸ab);exact bi k G ab aj λW=>by
      have:=W.1 ((m3 k G ab).2 K);omega
    .refine VU r a3 (Bf U) m2 λk A K ab=>?_
     have aj:k≠i:=λe=>bj (e▸ab);exact bi k G ab aj λW=>by
      have:=(m3 k G ab).1 (W.2 K);omega
   have b1:∃X:Ev.T HB,X.get b=(H m).t.get b/\∀id hb,X.get id=I hb->id=b:=by
    cases hb:(H m).t.get b with
    |none=>exact⟨.nil,B,λid hb h=>Jq⟩
    |some x=>exact⟨Ev.T.nil.ins b x,Ev.T.ao _ _ _,λid hb h=>by
     rw[Ev.T.M] at h;by_cases W:id=b
     .exact W
     .rw[Bm W,Ev.T.C] at h;cases h⟩
   let⟨X,t1,t2⟩:=b1;let⟨v,hq⟩:=vJ (hE.symm.trans V) an;have A:=hq (H i).ad (DK (F i) o) DP (I3.refl _ _ _);have b2:=A.symm.trans an;let⟨aa,_⟩:=Qw b2;have h3:=hq ⟨X,(H AU.size).a,.no⟩ (DK (F i) o) DP (by show I3 τ t b (X.get b) _;rw[t1];exact b0);have q3:F9 τ call ⟨RX (F i).M (o.looksAt AU),(F i).sz,[]⟩ ⟨X,(H AU.size).a,.no⟩ o.op (DK (F i) o) DP=I [.aE (F (i+1)) ⟨X,(H AU.size).a,.no⟩]:=by
    rw[L7 bf,h3];simp only[DK,aa]
   have b3:∀id pl,ρ id=I pl->id<(H AU.size).a:=λid pl e=>by
    obtain⟨pl',h⟩:=Y.bi id pl e;exact r.bi (Ae _) h
   have a4:C5 P τ ρ ⟨X,(H AU.size).a,.no⟩ w:=by
    refine⟨⟨λid l=>?_,λid pl a5 e eH=>?_,Y.b,λx y px py S ex ey ae a6 b4=>?_,λg n=>?_⟩,Ao r.a (r.O (Al _) (Ae _))⟩
    .have l:(H AU.size).a<=id:=l
     cases ao:ρ id with
     |none=>rfl
     |some pl=>have:=b3 id pl ao;omega
    .have eH:=eH
     have:=t2 id a5 eH;subst this;rw[t1] at eH;exact Y.mem id pl a5 m m1 e m2 m3 eH
    .have ae:=ae
     have:=t2 x S ae;subst this;rw[t1] at ae;exact Y.ord x y px py S m m1 ex ey a6 b4 m2 m3 ae
    .rw[Y.C g (AC n r.a)];exact a9 g n
   have ap:=ND T hc a4 (ax.mono (Ren.bO _ _)) q3;rw[←bh] at ap;have cd:=(r.aE i U).lk b t V;refine LG ap (λv' w' N=>?_) (λch w' N=>?_) (λw' N=>N)
   .let⟨af,v,A,o1,k1,k2,k3,k4,k5⟩:=N
    obtain⟨aa,rfl⟩:=P4 k4 k5;have q:=k3.a;refine⟨ρ,Y.next r hr U O az aa (λa7=>?_) (λ_ _=>B) (Ren.le_refl ρ) Y.bi (λid pl e=>AC (Y.b id pl e) q.size) q.size (λb hb _=>q.O b hb λ_ _ h=>h.elim) (λid pl A K e=>G) (λid pl hb p e n=>?_) (λid a8 pl pl' hb ai J p e e' al n=>?_) q.os q.out q.tape q.drawn⟩
    .let⟨d,hd⟩:=fP.1 a7
     let⟨_,_,h3⟩:=ay.b.2 d v ((JG aa).2.2.2 d hd).2;refine(k1.cut h3).mono λid pl e=>?_;let⟨e1,_,e2⟩:=Ren.O e;have l:=r.bi U e2;rw[q.C id Jq] at e1;exact e1
    .rcases p with p|p
     .omega
     .let⟨_,s,⟨me,M⟩,_⟩:=p;rw[V] at M;cases M
    .rcases p with p|p
     .omega
     .let⟨_,s,⟨me,M⟩,_⟩:=p;rw[V] at M;cases M
   .let⟨_,_,_,_,_,_,_,_,_,hb,_⟩:=N;cases hb
  let⟨hq,ce,q1,q2,q3,q4,q5,q6,q7,q8⟩:=Ahe bf an hH hE bu λa t h=>V ⟨a,t,h⟩;have a4:C5 P τ (ρ.cut (R i)) hq w:=by
   refine⟨⟨λid l=>?_,λid pl hb e eH=>?_,λid pl e=>Y.b id pl (Ren.bO _ _ _ _ e),λx y px py S ex ey ae a6 hb=>?_,λg n=>?_⟩,q1▸Ao r.a (r.O (Al i) (Bf U))⟩
   .unfold Ren.cut
    rw[ah.hk.1.fresh id Jq];rfl
   .let⟨ag,pl',eR⟩:=Ren.O e
    let⟨g1,g2⟩:=q5 id hb eH;have l:=r.bi (Bf U) eR;refine(Y.mem id pl hb i (Bf U) ag l (λj hj am=>?_) g1).cut (ah.hk.1.hr id pl' hb eR g1);by_cases D:j=i
    .subst D;exact⟨λh=>Cf h aw,λh=>G⟩
    .let⟨_,lo,⟨me,C⟩,aq⟩:=am
     refine Ic Y.closed hr D (OM _ _ _ (Nv r hj U D C ?_));rcases g2 with h|h|h
     .exact .inr (.inl h)
     .exact .inl h
     .exact .inr (.inr (.inl ⟨id,h,aq⟩))
   .let⟨ag,_,eR⟩:=Ren.O ex
    let⟨g1,g2⟩:=q5 x S ae;refine Y.ord x y px py S i (Bf U) ag (Ren.bO _ _ _ _ ey) a6 hb (r.bi (Bf U) eR) (λj hj am=>?_) g1;by_cases D:j=i
    .subst D;exact⟨λh=>Cf h aw,λh=>G⟩
    .let⟨_,lo,⟨me,C⟩,aq⟩:=am
     refine Ic Y.closed hr D (OM _ _ _ (Nv r hj U D C ?_));rcases g2 with h|h|h
     .exact .inr (.inl h)
     .exact .inl h
     .exact .inr (.inr (.inl ⟨x,h,aq⟩))
   .have A:=Y.C g (AC n r.a)
    exact Ren.aN (A.trans (a9 g n)) (ah.hk.1.a g n)
  have ap:=ND T hc a4 ax q3;rw[←bh] at ap;refine LG ap (λv' w' N=>?_) (λch w' N=>?_) (λw' N=>N)
  .let⟨af,v,A,o1,k1,k2,k3,k4,k5⟩:=N
   obtain⟨aa,rfl⟩:=P4 k4 k5;have q:=k3.a;rw[q1] at q
   let ar:Ren:=λid=>if id<(H (i+1)).a then af.cut (R (i+1)) id else ρ id
   have bk:(af.cut (R (i+1))).le ar:=by
    intro id pl e;let⟨_,_,eR⟩:=Ren.O e;show(if id<(H (i+1)).a then af.cut (R (i+1)) id else ρ id)=I pl
    rw[Bi (r.bi U eR)];exact e
   have old:∀id,id<(H i).a\/(H (i+1)).a<=id->ar id=ρ id:=by
    intro id l;show(if id<(H (i+1)).a then af.cut (R (i+1)) id else ρ id)=ρ id
    rcases l with l|l
    .rw[Bi G]
     unfold Ren.cut;rw[r.C i U id l,q.C id l];unfold Ren.cut;cases hR:R i id with
     |some pl=>simp
     |none=>
      simp only[Option.isSome_none,BE,if_false];cases ao:ρ id with
      |none=>rfl
      |some pl=>let⟨pl',h⟩:=Y.bi id pl ao;rw[(λh=>r.cX (Bf U) (Ae _) h:∀{id:Nat},id<(H i).a->R AU.size id=R i id) l,hR] at h;cases h
    .rw[Bm G]
   have b5:∀id,(H i).a<=id->id<(H (i+1)).a->ρ id=none:=by
    intro id A K;cases ao:ρ id with
    |none=>rfl
    |some pl=>
     rcases Y.made id pl ao with h|⟨j,j1,j2,j3,j4⟩
     .have:=r.O (Al i) (Bf U);omega
     .have:=r.bK j1 U j3 j4 A K;subst this;exact Cf j2 aw
   have aq:ρ.le ar:=by
    intro id pl e;by_cases l:id<(H i).a\/(H (i+1)).a<=id
    .rw[old id l];exact e
    .rw[b5 id G G] at e;cases e
   have ak:∀{id pl},ar id=I pl->id<(H (i+1)).a->af id=I pl/\∃pl',R (i+1) id=I pl':=by
    intro id pl e l;have e:(if id<(H (i+1)).a then af.cut (R (i+1)) id else ρ id)=I pl:=e
    rw[Bi l] at e;exact Ren.O e
   have bl:∀{id},((H i).a<=id/\id<(H (i+1)).a)\/Wr H E i id->id<(H (i+1)).a:=by
    intro id h;rcases h with h|h
    .exact h.2
    .exact AC h.1 bo
   refine⟨ar,Y.next r hr U O az aa (λa7=>?_) old aq (λid pl e=>?_) (λid pl e=>?_) q.size (λb hb W=>?_) (λid pl A K e=>?_) (λid pl hb p e n=>?_) (λid a8 pl pl' hb ai J p e e' al n=>?_) q.os q.out q.tape q.drawn⟩
   .let⟨d,hd⟩:=fP.1 a7
    let⟨_,_,h3⟩:=ay.b.2 d v ((JG aa).2.2.2 d hd).2;exact(k1.cut h3).mono bk
   .by_cases l:id<(H (i+1)).a
    .let⟨_,pl',h⟩:=ak e l
     exact⟨pl',r.cX U (Ae _) l▸h⟩
    .rw[old id (.inr G)] at e;exact Y.bi id pl e
   .by_cases l:id<(H (i+1)).a
    .exact k2.1.b id pl (ak e l).1
    .rw[old id (.inr G)] at e;exact AC (Y.b id pl e) q.size
   .refine q.O b hb λid pl C e=>?_
    let⟨ag,_,eR⟩:=Ren.O e;have l:=r.bi (Bf U) eR;refine W id pl l ?_ ag;by_cases au:∃lo,Ws E i lo
    .let⟨lo,ad⟩:=au
     exact⟨lo,ad,Jq⟩
    .exact Cf C (q8 (λlo ad=>au ⟨lo,ad⟩) id l)
   .rcases q.new id pl A (ak e K).1 with h|⟨j,pj,j1,j2,j3⟩
    .exact .inl h
    .let⟨ag,_,eR⟩:=Ren.O j2
     have l:=r.bi (Bf U) eR;by_cases au:∃lo,Ws E i lo
     .let⟨lo,ad⟩:=au
      exact .inr ⟨j,pj,lo,ad,Jq,l,ag,j3⟩
     .exact Cf j1 (q8 (λlo ad=>au ⟨lo,ad⟩) j l)
   .have l:=bl p
    let⟨e1,pl',e2⟩:=ak e l;have b6:=k2.1.hr id pl hb e1 Jq;have b7:=ay.hk.1.hr id pl' hb e2 n;exact(b6.cut b7).mono bk B
   .have l:=bl p
    exact k2.1.ord id a8 pl pl' hb (ak e l).1 (ak e' J).1 Jq ai al
  .let⟨_,_,_,_,_,_,_,_,_,hb,_⟩:=N;cases hb
 ·
  have a1:=Kn ax (bg.trans hw) o B;rw[Bm Jq];refine⟨λf _=>Vb ro' f,ρ,?_⟩;have cf:(H (i+1)).a=(H i).a:=Jq
  refine Y.next r hr U O az aa (λ_=>OR) (λ_ _=>B) (Ren.le_refl ρ) Y.bi Y.b (Ae _) (λ_ _ _=>B) (λid pl A K e=>G) (λid pl hb p e n=>?_) (λid a8 pl pl' hb ai J p e e' al n=>?_) B B B (Ae _)
  .rcases p with p|⟨_,lo,⟨me,C⟩,_⟩
   .omega
   .rw[hE] at C;cases C
  .rcases p with p|⟨_,lo,⟨me,C⟩,_⟩
   .omega
   .rw[hE] at C;cases C
def left(n:Nat) (L:Array Bool):Nat:=(BG n).countP λj=>!L.getD j Ah
def V1 (U:i<n) (c:i<L.size) (d:¬On L i):left n (L.setIfInBounds i Ag)<left n L:=by
 have k:∀l:Bo,i∈l->l.countP (λj=>!(L.setIfInBounds i Ag).getD j Ah)<l.countP (λj=>!L.getD j Ah):=by
  have e:∀l:Bo,l.countP (λj=>!(L.setIfInBounds i Ag).getD j Ah)<=l.countP (λj=>!L.getD j Ah):=λl=>
   List.countP_mono_left λj _ h=>by
    have:¬On L j:=λa=>(by simpa[On] using h:¬On (L.setIfInBounds i Ag) j) ((I9 c).2 (.inl a));simpa[On] using this
  intro l
  induction l with
  |nil=>intro h;cases h
  |cons x l f=>
   intro h;rw[uI,uI];by_cases b:x=i
   .subst b
    have g:=(I9 c).2 (.inr B);rw[g,(by simpa[On] using d:L.getD x Ah=Ah)];have:=e l;simp only[Qf,Kz,BE,if_false,if_true];omega
   .have:=f ((bZ.1 h).resolve_left λa=>b a.symm)
    rw[(getD_set_ne Ah λa=>b a.symm:(L.setIfInBounds i Ag).getD x Ah=L.getD x Ah)];omega
 exact k _ Jq
def Aua (c:Xp AU) (k:L.size=AU.size) (h:CQ .any AU L=[]):∀j,j<AU.size->On L j:=by
 intro j
 induction j using Nat.strongRecOn with
 |_ j d=>
  intro a;refine ru λf=>?_;have b:j∈CQ .any AU L:=by
   refine mem_ready.2 ⟨?_,AU[j],By a,λe g hb=>?_⟩
   .have:L.getD j Ah=false:=Jq
    rw[Bh,By G] at this⊢;simpa using this
   .have i:=c.lt j AU[j] e (By a) g hb
    exact d e.on i G
  rw[h] at b;cases b
def J6 (T:BM P τ) (d:C8 P τ call):MR P τ call:=by
 intro ar AU K fr h a w ρ U ro' af st hu;have ab:=NK af;obtain⟨F,H,E,rfl,rfl,ag,_,ah,hk⟩:=Aao (aI AU) 0 B [] fr h U hu;let⟨R,r0,r⟩:=ACp T d st (λj o V=>ag j o (Al _) V) (λx y A hy d=>ah x y (Al _) A hy d);have Cw:∀(C:Nat) L c a1 f,PK P AU F H E R ρ a w L c a1 f->left AU.size L<=C->wpAnyIn (Fw ro') 0 P .any AU (QK P τ ρ w (H 0) K U) C L a1 f:=by
  have Da:∀(L:Array Bool) c a1 (f:AM),PK P AU F H E R ρ a w L c a1 f->CQ .any AU L=[]->QK P τ ρ w (H 0) K U .normal a1 f:=by
   intro L c a1 f J k;have ai:=Aua ab J.size k;have ad:∀id,fR AU H E L AU.size id:=λid j b _=>Jq;have s:∀id pl,c id=I pl->id<(H AU.size).a:=by
    intro id pl e;rcases J.made id pl e with h|⟨j,j1,j2,j3,j4⟩
    .exact AC h (r.O (Al _) (Ae _))
    .exact AC j4 (r.O j1 (Ae _))
   have aj:ρ.le c:=by
    intro id pl e;have:=BB λu=>by rw[st.hk.1.fresh id u] at e;cases e
    rw[J.C id this];exact e
   have W:=r.O (Al _) (Ae AU.size);refine⟨c,F AU.size,H AU.size,U,⟨⟨⟨λid D=>?_,λid pl hb e eH=>J.mem id pl hb _ Jq e (s id pl e) (ad id) eH,J.b,λx y Y X M N ey ak A hb=>J.ord x y Y X M _ Jq N ey A hb (s x Y N) (ad x) ak,λg p=>?_⟩,Ao r.a W⟩,⟨?_,λt v Q=>?_⟩,?_⟩,
    ⟨⟨J.C,J.d,J.O,J.new,W,J.os,J.out,J.tape,J.drawn⟩,W,r.lo_le Jq Jq,λid D al=>?_⟩,λ_ M=>M,hk⟩
   .cases am:c id with
    |none=>rfl
    |some pl=>have:=s id pl am;omega
   .rw[J.C g (AC p r.a)];exact st.hk.1.a g p
   .show(F AU.size).sz=_
    rw[(r.sz (Ae _)).1];exact J.sz
   .exact J.M t AU.size v Jq (λj b=>⟨λ_=>let⟨o,V,_⟩:=b;(dM.1 V).1,λu=>ai j u⟩) Q
   .show DR c (F AU.size).ds a1.defers
    rw[(r.sz (Ae _)).2,J.ds];exact st.ds.mono aj
   .refine r.same Jq Jq D λj _ b an=>?_
    let⟨_,lo,hE,ao⟩:=an;exact al (r.lo_le b (Ae _) _ ((r.aE j b).wr lo hE _ ao))
  intro C
  induction C with
  |zero=>
   intro L c a1 f J hl;have k:CQ .any AU L=[]:=by
    cases ap:CQ .any AU L with
    |nil=>rfl
    |cons i l=>
     have k:i∈CQ .any AU L:=Jq
     let⟨O,S,_⟩:=Ie k;have:=V1 (J.size▸O) O S;omega
   exact⟨k,Da L c a1 f J k⟩
  |succ C ih=>
   intro L c a1 f J hl;refine⟨Da L c a1 f J,λi k=>?_⟩;let⟨O,S,_⟩:=Ie k;have s:=V1 (n:=AU.size) Jq O S;refine wpOpIn_mono (λa2 w2 u=>?_) (Amg T d ab r st.hk.1.a J k);obtain⟨FS,aq⟩:=u;exact ih _ FS a2 w2 aq G
 refine wpIn_region_any T.mixed (Cw _ _ ρ a _ ?_ ?_)
 .have aa:∀j,¬On (Cz AU.size Ah) j:=by
   intro j b;unfold On at b;rw[Bh] at b;by_cases s:j<AU.size
   .rw[By Jq] at b;simp at b
   .rw[Dr (by simpa using s)] at b;simp at b
  have z:∀id pl,ρ id=I pl->id<(H 0).a:=λid pl e=>BB λu=>by rw[st.hk.1.fresh id u] at e;cases e
  have ae:∀{m id},m<=AU.size->fR AU H E (Cz AU.size Ah) m id->∀j,0<=j->j<m->¬Wr H E j id:=λq d j _ b Z=>aa j ((d j G Z).2 b);refine⟨Jq,λj o e _ _ _ b=>Cf b (aa j),st.b.1,λt m v q d Q=>?_,B,st.hk.1.b,λid pl e=>.inl (z id pl e),λ_ _=>B,λid pl e=>?_,λid pl hb m q e D d p=>?_,λx y Y X M m q N ey A hb D d p=>?_,λid au pl pl' j b O S _ e _ _=>?_,Ae _,λ_ _ _=>B,λid pl D e=>?_,B,B,B,Yr _⟩
  .rw[r.M (Al m) q λj _ b Z=>aa j ((d j Z).2 b)] at Q
   exact st.b.2 t v Q
  .refine⟨pl,?_⟩
   rw[r.cX (Al _) (Ae _) (z id pl e),r0];exact e
  .rw[r.same (Al m) q (z id pl e) (ae q d)] at p
   exact(st.hk.1.hr id pl hb e p).mono (Ren.le_refl ρ) B
  .rw[r.same (Al m) q (z x Y N) (ae q d)] at p
   exact st.hk.1.ord x y Y X M N ey p A hb
  .have:=z id pl e
   have:=r.O (Al j) (Bf b);omega
  .have:=z id pl e;omega
 .unfold left
  exact Ao List.countP_le_length Jq
end
def S3 {c:AH->AH->Option Int} {x:AH}:∀{l l':List AH},Xk c x l=I l'->l'.Perm (x::l)
 |[],l',h=>by simp only[Xk,I.injEq] at h;subst h;exact .refl _
 |y::l,l',h=>by
  simp only[Xk] at h;split at h
  case h_2=>cases h
  rcases XD h with h|h
  .cases h;exact .refl _
  .split at h
   case h_2=>cases h
   rename_i b a;cases h;exact((S3 a).cons y).trans (.swap x y l)
def Rc {c:AH->AH->Option Int}:∀{l l':List AH},Pc c l=I l'->l'.Perm l
 |[],l',h=>by simp only[Pc,I.injEq] at h;subst h;exact .refl _
 |x::l,l',h=>by
  simp only[Pc] at h;split at h
  case h_2=>cases h
  rename_i b a;exact(S3 h).trans ((Rc a).cons x)
def Ry {w:AH->AH->Option Int}:∀{l:List AH},MQ w l=Ag->∀(i j:Nat) (x y:AH),l[i]?=I x->l[j]?=I y->∃c,w x y=I c/\(c<0↔i<j)
 |[],_,i,j,x,y,U,_=>Jq
 |z::l,h,i,j,x,y,U,f=>by
  simp only[MQ,An] at h;let⟨⟨h0,o⟩,q⟩:=h;have p:∀{m:List AH},Ot w z m=Ag->∀(k:Nat) u,m[k]?=I u->(∃c,w z u=I c/\c<0)/\∃c,w u z=I c/\¬c<0:=by
   intro m
   induction m with
   |nil=>intro _ k u g;simp at g
   |cons v m r=>
    intro b k u g;simp only[Ot] at b;split at b
    case h_2=>cases b
    rename_i c d a s;simp only[An] at b;cases k with
    |zero=>
     cases g;refine⟨⟨c,a,GJ.1 b.1.1⟩,d,s,λe=>?_⟩;have:=GJ.2 e;rw[this] at b;simp at b
    |succ k=>exact r b.2 k u Jq
  cases i with
  |zero=>
   cases U;cases j with
   |zero=>
    cases f;split at h0
    case h_2=>cases h0
    rename_i c a;refine⟨c,a,λe=>?_,λe=>G⟩;have:=GJ.2 e;rw[this] at h0;cases h0
   |succ j=>
    let⟨⟨c,a,n⟩,_⟩:=p o j y Jq;exact⟨c,a,λ_=>G,λ_=>n⟩
  |succ i=>
   cases j with
   |zero=>
    cases f;let⟨_,c,a,n⟩:=p o i x Jq;exact⟨c,a,λe=>Cf e n,λe=>G⟩
   |succ j=>
    let⟨c,a,t⟩:=Ry q i j x y Jq Jq;exact⟨c,a,G⟩
section
variable{P:AN} {τ:Bb} {ρ:Ren} {h:Y} {w:AM}
def XU (T:BM P τ) (m:C8 P τ call) {g:Au} (hb:EV τ g=Ag) {a b:AH} {c:Int} (d:Nd call g nx a b=I c) (n:a.all aJ=Ag) (hb':b.all aJ=Ag)
 (W:AM) (j:C5 P τ ρ ⟨.nil,nx,.no⟩ W):Calls P g #[.agg ⟨a⟩,.agg ⟨b⟩] W λe w'=>e=.returned (.int .i64 c)/\∃q o,w'=Go.Sort.grow (W.drewN q) o:=by
 unfold Nd at d;split at d
 case h_2=>cases d
 rename_i O J p;let⟨r,d⟩:=C1 d;cases d;have s:LR ρ [.agg ⟨a⟩,.agg ⟨b⟩] [.agg ⟨a⟩,.agg ⟨b⟩]:=.cons (.agg (LR.ak n)) (.cons (.agg (LR.ak hb')) .nil);have h:=m (.func g) (.func g) _ _ _ _ _ _ ρ W j (.func g) s p;unfold EV at hb;split at hb
 case h_2=>cases hb
 rename_i fn k;let⟨cd,t⟩:=fP.1 hb;have u:=MuLone.run_callFunc_enter (T.fn _ _ k).1 ((T.fn _ _ k).2 hb) t ⟨[.agg ⟨a⟩,.agg ⟨b⟩]⟩ W;unfold Hk at h;simp only[LW] at h;rw[u] at h;refine(callsIn_wide.1 h).mono λe w' i=>?_;cases e with
 |outgrown=>exact i.elim
 |panicked Q=>let⟨_,_,_,_,_,_,_,_,_,hb,_⟩:=i;cases hb
 |returned v'=>
  let⟨C2,v,R,S,w,V,x,y,z⟩:=i;cases y;have:=z (bQ.2 B);have:=bQ.1 this;cases this;cases w;refine⟨B,w'.drawn-W.drawn,w'.heap.extract W.heap.size w'.heap.size,?_⟩;have f:=x.a;have A:∀b,b<W.heap.size->w'.heap[b]?=W.heap[b]?:=λb hb=>f.O b hb λid pl C e=>by
   have D:=BB λE=>by rw[j.1.fresh id E] at e;cases e
   exact Cf C (GO r D)
  have F:w'.heap=W.heap++w'.heap.extract W.heap.size w'.heap.size:=by
   apply JN;intro b;rcases A8 b W.heap.size with l|H
   .rw[KP l,A b l]
   .rw[Array.getElem?_append_right H,Array.getElem?_extract]
    have X:=f.size;by_cases hb:b<w'.heap.size
    .rw[Bi G];congr 1;omega
    .rw[Bm G,Dr G]
  have K:=f.os;have L:=f.out;have M:=f.tape;have N:=f.drawn;cases w' with
  |mk i tp dr os aa=>
   simp only at F K L M N;simp only[Go.Sort.grow,World.drewN];congr 1;omega
end
def IL {c:Type}:∀(l:List (List c)),(∀g∈l,LT g=k)->∀j,j<LT l*k->l.flatten[j]?=(l[j/k]?).bind λg=>g[j%k]?
 |[],_,j,h=>Jq
 |g::l,a,j,h=>by
  have d:=a g Av;have e:0<k:=by
   rcases KQ k with h0|h0
   .subst h0;simp at h
   .exact h0
  rw[JR];by_cases b:j<k
  .rw[AB G,Nat.div_eq_of_lt b,JQ b];rfl
  .rw[Bq G,d]
   have J:j-k<LT l*k:=by
    simp only[AO,Dw,Nat.one_mul] at h;omega
   rw[IL l (λf i=>a f (Az _ i)) (j-k) J];have m:j/k=(j-k)/k+1:=Nat.div_eq_sub_div e G;have n:j%k=(j-k)%k:=by rw[Nat.mod_eq_sub_mod G]
   rw[m,n,B5]
def IU {b:Type}:∀(l:List (List b)),(∀g∈l,LT g=k)->LT l.flatten=LT l*k
 |[],_=>Jq
 |g::l,a=>by
  rw[JR,Aj,IU l λc d=>a c (Az _ d),a g Av,AO,Dw,Nat.one_mul];omega
def SC {a:Type} [Inhabited a] (Cr:a->AH) (d:Array a) (h:j<d.size*k):(Go.Sort.flatK Cr k d)[j]! =(Cr d[j/k]!)[j%k]!:=by
 unfold Go.Sort.flatK;rw[getElem!_pos (ZA _ _) j Jq];simp
def Sa (h:aJ v=Ag):v.oneCell'=true:=by
 unfold aJ at h;split at h<;>first
  |rfl
  |cases h
def LK {c:Ev.T Aa}:∀{n off:Nat} {b:List AH},HF k c off n=I b->LT b=n/\(∀g∈b,LT g=k)/\∀(j:Nat) v,b.flatten[j]?=I v->c.get (off+j)=I v
 |0,off,b,h=>by cases h;exact⟨B,(λg d=>by cases d),λj v a=>by simp at a⟩
 |
  n+1,off,b,h=>by
  rw[HF] at h;split at h
  .rename_i g l d f
   cases h;let⟨i,m,o⟩:=LK f;let⟨p,q⟩:=FN _ _ _ _ d;refine⟨by rw[AO,i],λx e=>?_,λj v a=>?_⟩
   .rcases bZ.1 e with rfl|e
    .exact p
    .exact m x e
   .rw[JR] at a
    rcases A8 j (LT g) with r|s
    .rw[AB r] at a
     exact q j v a
    .rw[Bq s] at a
     have:=o _ v a;rw[show off+k+(j-LT g)=off+j by omega] at this;exact this
  .cases h
section
variable{P:AN} {τ:Bb}
open Go.Sort Go.Proofs Go.Shelf
def Ami (T:BM P τ) {D:Go.Shelf.Ren} (L:SlLaysF0.n6 P D) (he:D.t 24=e) (aE:∀w,(isAgg e).run P w=.ok Ag w) (aa:EV τ (D.f 6)=Ag) (hc:C8 P τ call) {ρ:Go.Ev.Ren} (H:C5 P τ ρ h w) (E:LR ρ args AP) (d:IA τ e call args h=I (v,J)) (k kp:Aa->Y->RR) (outs:List EO) (ap:k v J=I outs):
 Hk P (callFunc (D.f 6) ⟨AP⟩) w (Ho P τ ρ w h k kp outs):=by
 have aq:∀x y w,(callFunc (D.f 6) ⟨[x,y]⟩).run P w=.ok (.enter (D.f 6) ⟨[x,y]⟩) w:=λx y w=>by
  unfold EV at aa;split at aa
  case h_2=>cases aa
  rename_i fn R;obtain⟨cd,ai⟩:=fP.1 aa;exact MuLone.run_callFunc_enter (T.fn _ _ R).1 ((T.fn _ _ R).2 aa) ai _ w
 unfold IA at d;split at d
 case h_3=>cases d
 case h_1=>
  rename_i p cap fv;cases d;cases E with|cons s E=>
  cases E with|cons hy E=>
  cases E;have Da:∀p' aj ak,Hk P (callFunc (D.f 6) ⟨[.slice p' 0 aj,ak]⟩) w (Ho P τ ρ w h k kp outs):=λp' aj ak=>by
   unfold Hk;rw[aq];refine callsIn_wide.2 (Calls.mono (AnyF.slices_SortFunc_none L p' aj ak w) λen w' hp=>?_);obtain⟨rfl,rfl⟩:=hp;exact⟨ρ,_,_,outs,.tuple .nil,H,RF.refl H,ap,λ_ s=>s⟩
  cases s with
  |az l c=>exact Da _ _ _
  |slice e1 e2=>exact Da _ _ _
 rename_i id len cap g _;split at d
 case h_2=>cases d
 rename_i c N e' x i eH U;split at d
 case h_2=>cases d
 rename_i W hg;obtain⟨K,d⟩:=C1 d;obtain⟨K,X⟩:=Dh K;obtain⟨K,q4⟩:=Dh K;obtain⟨K,q3⟩:=Dh K;obtain⟨K,q1⟩:=Dh K;obtain⟨g0,q0⟩:=Dh K;have q0:=Ac q0;have q1:=Af q1;have q3:0<len:=by simpa[AK] using q3
 have q4:=Ac q4;subst q1;obtain⟨q2,al,s3⟩:=LK hg;split at d
 case h_2=>cases d
 rename_i r a8;obtain⟨a9,d⟩:=C1 d;cases d;cases E with|cons s E=>
 cases E with|cons hy E=>
 cases E;cases s with|@slice _ _ _ _ _ pl o' e1 e2=>
 cases hy with|func R ba bb=>
 cases R;cases ba;cases bb;have ho:o'=pl.o:=by have:=e2 G;omega
 subst ho;have bc:=T.b _ _ U;obtain⟨C,fz,g1,b2,b3,b4,b5,b6⟩:=H.1.hr _ _ _ e1 eH;have b9:LT W.flatten=len*i.size:=by rw[IU W al,q2]
 have ar:fz.1=fz.2:=by
  rcases b5 with h|⟨h,_⟩|⟨F,S,h3⟩
  .exact h
  .cases h
  .omega
 have bd:∀j v,W.flatten[j]?=I v->C[pl.o+j]?=I v:=λj v hv=>by
  have:=s3 j v hv;rw[Ba] at this;obtain⟨_,v',d1,d2⟩:=b4 j v this;obtain⟨y,be,bf⟩:=qI.1 (AZ hv);rw[d2.O (Jf.1 (Jf.1 g0 y be) v bf)] at d1;exact d1
 have ae:=Rc a8;have am:LT r=len:=by rw[ae.length_eq,q2]
 have af:∀x∈r,LT x=i.size:=λx s=>al x (ae.subset s);have ag:∀x∈r,x.all aJ=true:=λx s=>Jf.1 g0 x (ae.subset s);have bg:=Ry a9
 let Cr:Fin len->AH:=λj=>r.getD j.1 []
 haveI:Inhabited (Fin len):=⟨⟨0,q3⟩⟩
 have ab:∀j:Fin len,r[j.1]?=I (Cr j):=λj=>by
  show r[j.1]?=I (r.getD j.1 []);have:j.1<LT r:=by rw[am];exact j.2
  rw[Ak,Ab this];rfl
 have ad:∀j:Fin len,Cr j∈r:=λj=>AZ (ab j);have bh:r=(KC len).map Cr:=by
  apply List.ext_getElem?;intro j;rw[AX];by_cases o:j<len
  .rw[Ab (l:=KC len) (by simpa using o)]
   have:=ab ⟨j,o⟩;simp only at this;rw[this];simp
  .rw[CD G,CD (by simp;omega)];rfl
 obtain⟨m',au,av⟩:=HH Cr (l:=W) (m:=KC len) (by rw[←bh];exact ae.symm);have aw:LT m'=len:=by rw[av.length_eq];simp
 let V:Fin len->Fin len->Int:=λx y=>(Nd call g h.a (Cr x) (Cr y)).getD 0
 have ax:∀x y,Nd call g h.a (Cr x) (Cr y)=I (V x y)/\(V x y<0↔x<y):=λx y=>by
  obtain⟨c,ay,bi⟩:=bg x.1 y.1 _ _ (ab x) (ab y);have:V x y=c:=by show(Nd call g h.a (Cr x) (Cr y)).getD 0=c;rw[ay];rfl
  rw[this];exact⟨ay,bi⟩
 have ah:∀x y,ltOf V x y=decide (x<y):=λx y=>by
  unfold ltOf;exact decide_eq_decide.2 (ax x y).2
 have hO:SWO (ltOf V):=⟨λx=>by rw[ah];simp,λx y z F S=>by rw[ah] at*;simp at*;omega,λx y z F S=>by rw[ah] at*;simp at*;omega⟩;have eg:∀args w,(callFunc g args).run P w=.ok (.enter g args) w:=by
  intro args w;unfold EV at X;split at X
  case h_2=>cases X
  rename_i fn R;obtain⟨cd,ai⟩:=fP.1 X;exact MuLone.run_callFunc_enter (T.fn _ _ R).1 ((T.fn _ _ R).2 X) ai args w
 have bj:∀m dk os,(sortWorldK Cr i.size w pl.b pl.o m dk os).heap.size=w.heap.size+os.size:=λm dk os=>by
  unfold sortWorldK;rw[size_grow];unfold putRowK;rw[Go.Sort.size_putRow];rfl
 have bk:=H.1.b id pl e1;have bl:CmpLays P g #[] Cr i.size V pl.b pl.o m'.toArray.size w:=by
  intro m os dk ca x y;have bm:C5 P τ ρ ⟨.nil,h.a,.no⟩ (sortWorldK Cr i.size w pl.b pl.o m dk os):=
   ⟨⟨H.1.fresh,λid pl hb e eH=>(by cases eH),λid pl e=>by rw[bj];have:=H.1.b id pl e;omega,λx y px py s ex ey bn=>(by cases bn),H.1.a⟩,H.2⟩
  have:=XU T hc X (ax x y).1 (ag _ (ad x)) (ag _ (ad y)) _ bm;simpa using this
 have hH:HoldsK Cr i.size w pl.b pl.o m'.toArray:=by
  intro j o;rw[size_flatK] at o;simp only[List.size_toArray] at o;have az:0<i.size:=by
   rcases KQ i.size with h0|h0
   .rw[h0] at o;simp at o
   .exact h0
  have M:j/i.size<LT m':=qO (by rw[UI];exact o);have hf:W.flatten[j]?=I ((flatK Cr i.size m'.toArray)[j]!):=by
   rw[IL W al j (by rw[au,A4];exact o),au,AX,Ab M];have a0:j%i.size<(Cr m'[j/i.size]).length:=by rw[af _ (ad _)];exact Je _ az
   simp only[Ek,CC];rw[Ab a0];rw[SC Cr _ (by simpa using o),getElem!_pos m'.toArray (j/i.size) (by simpa using M)];simp only[List.getElem_toArray];rw[getElem!_pos (Cr m'[j/i.size]) (j%i.size) a0]
  refine⟨?_,?_⟩
  .unfold WX
   simp only[g1];rw[bd j _ hf];rfl
  .unfold World.frozen?
   simp only[g1];have:=ar;simp only[Bool.and_eq_false_imp,decide_eq_true_eq,decide_eq_false_iff_not];omega
 subst he;have a1:=AnyQ.slices_SortFunc L i.size aE (λw=>aV bc w) Cr (λx=>af _ (ad x)) (λx u d=>Sa (Jf.1 (ag _ (ad x)) u d)) V hO g #[] pl.b pl.o (cap+Hl Z pl) m'.toArray w eg bl hH bk (by simp;omega);unfold Hk;rw[aq];have an:m'.toArray.size=len:=by simp[aw]
 rw[an] at a1;refine callsIn_wide.2 (Calls.mono a1 λen w' hp=>?_);obtain⟨rfl,q,n,os,a2,bo,rfl⟩:=hp;have Q:q.size=len:=by rw[a2.1,an]
 have bp:q.toList.Perm m':=by
  have:=a2.2.2;simp only[Array.toList_extract,List.extract_eq_take_drop,DL,dQ] at this
  rwa [Bj (by simp[Q]),Bj (by simp[aw])] at this
 have bq:aI q=KC len:=by
  refine List.Perm.eq_of_pairwise (le:=λa b:Fin len=>a<=b) (λa b _ _ F S=>Fin.le_antisymm F S) ?_ ?_ (bp.trans av)
  .rw[F8]
   intro a b ha hb a3;have br:a<q.size:=by simpa using ha
   have hb':b<q.size:=by simpa using hb
   have:=bo a b (Al _) a3 G;rw[ah,getElem!_pos q a br,getElem!_pos q b hb'] at this;simp only[decide_eq_false_iff_not] at this;have:=Fin.not_lt.1 this;simpa using this
  .rw[F8]
   intro a b ha hb a3;simp[Fin.le_def];omega
 have bs:=holdsK_putRowK Cr i.size (Go.Sort.ahead w n) pl.b pl.o m'.toArray q (holdsK_ahead Cr i.size w n pl.b pl.o _ hH) (by rw[Q,an]);have bt:LT r.flatten=len*i.size:=by rw[IU r af,am]
 have bu:∀j u,r.flatten[j]?=I u->(putCells (_root_.id:Aa->Aa) pl.o (flatK Cr i.size q) C)[pl.o+j]?=I u:=by
  intro j u d;have o:j<len*i.size:=by
   have:=(cG.1 d).1;omega
  have az:0<i.size:=by
   rcases KQ i.size with h0|h0
   .rw[h0] at o;simp at o
   .exact h0
  have M:j/i.size<len:=qO (by rw[UI];exact o);have F:=(bs j (by rw[size_flatK,Q];exact o)).1;have bv:(flatK Cr i.size q)[j]! =u:=by
   rw[IL r af j (by rw[am];exact o),ab ⟨j/i.size,M⟩] at d;simp only[CC] at d;rw[SC Cr _ (by rw[Q];exact o),getElem!_pos q (j/i.size) (by rw[Q];exact M)];have:q[j/i.size]'(by rw[Q];exact M)=⟨j/i.size,M⟩:=by
    have S:q.toList[j/i.size]?=(KC len)[j/i.size]?:=by rw[bq]
    rw[Is,By (by rw[Q];exact M),Ab (by simpa using M)] at S;simpa using S
   rw[this];rw[UJ,d];rfl
  rw[bv] at F;unfold WX putRowK putRow mapBlock at F;simp only[B3,if_true] at F;have bw:(Go.Sort.ahead w n).heap[pl.b]?=I (Obj.cells C (D.t 24) fz):=g1;rw[bw] at F;simpa[onCells] using F
 let A:World:=putRowK Cr i.size (Go.Sort.ahead w n) pl.b pl.o q
 have a4:sortWorldK Cr i.size w pl.b pl.o n q os=grow A os:=B;have a5:A.heap.size=w.heap.size:=by
  show(putRow _ _ _ _ _).heap.size=_;rw[Go.Sort.size_putRow];rfl
 have bx:∀b,b≠pl.b->A.heap[b]?=w.heap[b]?:=λb hb=>by
  show(w.heap.modify pl.b _)[b]?=_;rw[B3,Bm (Ne.symm hb)]
 have bz:A.heap[pl.b]?=I (.cells (putCells (_root_.id:Aa->Aa) pl.o (flatK Cr i.size q) C) (D.t 24) fz):=by
  show(w.heap.modify pl.b _)[pl.b]?=_;rw[B3,Bi B,g1];rfl
 have ao:(putCells (_root_.id:Aa->Aa) pl.o (flatK Cr i.size q) C).size=C.size:=by simp[putCells]
 have b0:BR P ρ pl A (.cells (Ev.T.laid r.flatten 0 c) N (D.t 24) 0 0 x):=by
  refine⟨_,fz,bz,by rw[ao];exact b2,λi' b1=>by rw[ao];exact b3 i' b1,λj u d=>?_,.inl ar,λs=>by rw[ao];exact b6 s⟩;rw[Ev.T.O] at d;by_cases o:0<=j/\j<0+LT r.flatten
  .rw[Bi o] at d
   simp only[DL] at d;obtain⟨x,b7,b8⟩:=qI.1 (AZ d);exact⟨G,u,bu j u d,VR.C (Jf.1 (ag x b7) _ b8)⟩
  .rw[Bm o] at d
   rw[bt] at o;have:(putCells (_root_.id:Aa->Aa) pl.o (flatK Cr i.size q) C)[pl.o+j]?=C[pl.o+j]?:=by
    unfold putCells;rw[ix,size_flatK,Q];cases hC:C[pl.o+j]? with
    |none=>rfl
    |some x=>rw[Ek,Bm G]
   rw[this];exact b4 j u d
 obtain⟨k1,O⟩:=H.write (w':=A) (hdr:=GW _ _) e1 eH B a5 bx b0 B B B;have a6:∀b,b<A.heap.size->(grow A os).heap[b]?=A.heap[b]?:=λb hb=>by
  show(A.heap++os)[b]?=_;rw[KP hb]
 have a7:A.heap.size<=(grow A os).heap.size:=by rw[size_grow];omega
 refine⟨ρ,_,_,outs,.tuple .nil,?_,⟨?_,AF.put _ _ _⟩,ap,λ_ s=>s⟩
 .rw[a4];exact k1.grow a7 a6
 .rw[a4]
  exact⟨O.C,Ao O.size a7,λb hb hh=>by rw[a6 b (by rw[a5];exact hb)];exact O.O b hb hh,O.new,O.a,O.os,O.out,O.tape,O.drawn⟩
end
section
variable{P:AN} {τ:Bb} {call:Be} {L:Nat} {ro:Option Nat}
def dV (o:C0):Option Tmp×Op:=(o.dst,o.op)
def Jv (τ:Bb) (call:Be) (kp:Aa->Fr->Y->RR) (k:Fr->Y->RR):List (Option Tmp×Op)->Fr->Y->RR
 |[],fr,h=>k fr h
 |(d,op)::l,fr,h=>F9 τ call fr h op (λv J=>match fr.set d v with|I Ec=>Jv τ call kp k l Ec J|Z=>Z) (λv J=>kp v fr J)
def Ny:Op->Bool
 |.defer _=>Ah
 |_=>Ag
def Te {AU:List C0} {kp:Aa->Fr->Y->RR} {k:Fr->Y->RR}:∀(l:List C0),(l.all λo=>o.guard.isNone&&Ny o.op)=Ag->∀(fr:Fr) (h:Y),EX τ call ro AU kp k l fr h=Jv τ call kp k (l.map dV) fr h
 |[],_,fr,h=>rfl
 |
  o::l,a,fr,h=>by
  simp only[Jh,An] at a;have c:o.guard=none:=by simpa using a.1.1
  have d:=Te (kp:=kp) (k:=k) (AU:=AU) l a.2;simp only[EX,Bp,dV,Jv,c,E5];have e:IB τ call ro fr h o (λEc J=>EX τ call ro AU kp k l Ec J) (λv J=>kp v fr J)=
   F9 τ call fr h o.op (λv J=>match fr.set o.dst v with|some Ec=>EX τ call ro AU kp k l Ec J|none=>Z) (λv J=>kp v fr J):=by
   unfold IB;have b:=a.1.2;cases f:o.op<;>first
    |rfl
    |(rw[f] at b;cases b)
  rw[e];congr 1;funext v J;cases fr.set o.dst v with
  |none=>rfl
  |some Ec=>exact d Ec J
def Kx (a:(AU.toList.all λo=>o.guard.isNone&&Ny o.op)=Ag) (K:Kt) (fr:Fr) (h:Y):
 B7 τ call L ro (.region id AU Ah) K fr h=Jv τ call K.p K.n (AU.toList.map dV) fr h:=Te (aI AU) a fr h
def Fr.lay (fr:Fr) (t:Tmp) (v:Aa):Fr:=⟨fr.M.ins t v,fr.sz,fr.ds⟩
def Fr.O {t:Tmp} (h:t<fr.sz):fr.set (I t) v=I (fr.lay t v):=by
 unfold Fr.set;have:AD t fr.sz=Ag:=Jq
 simp only[this];rfl
def Fr.C (fr:Fr) (t:Tmp) (v:Aa) (j:Tmp):(fr.lay t v).M.get j=if j=t then I v else fr.M.get j:=T.M _ _ _ _
abbrev Vj:Kt:={n:=λfr h=>I [.aE fr h],x:=λ_ _ _=>Z,r:=λ_ _=>Z,p:=λ_ _ _=>Z}
def uf:Op->Bool
 |.call _|.next ..|.panic _=>Ah
 |_=>Ag
def Aaq (a:uf o=Ag) {k:Aa->Y->RR}:F9 τ call fr h o k kp=(match Ch τ fr h o with|some (v,J)=>k v J|none=>Z):=
 Gk (λc e=>by subst e;cases a) (λi s e=>by subst e;cases a) (λx e=>by subst e;cases a)
def GI {kp:Aa->Fr->Y->RR} {k:Fr->Y->RR} {t:Tmp} {op:Op} {l:List (Option Tmp×Op)} (a:uf op=Ag) (b:Ch τ fr h op=I (v,J)) (c:t<fr.sz):
 Jv τ call kp k ((I t,op)::l) fr h=Jv τ call kp k l (fr.lay t v) J:=by
 simp only[Jv];rw[Aaq a,b];simp only[];rw[Fr.O c]
def R7 {kp:Aa->Fr->Y->RR} {k:Fr->Y->RR} {t:Tmp} {b:Builtin} {xs:Array BU} {a:Array Ai} {l:List (Option Tmp×Op)}
 (c:O8 τ fr (aI xs)=I vs) (d:Bx τ b (aI a) vs h=I (v,J)) (e:t<fr.sz):
 Jv τ call kp k ((I t,.call ⟨.builtin b,xs,a⟩)::l) fr h=Jv τ call kp k l (fr.lay t v) J:=by
 simp only[Jv,F9,Ju,c,d];rw[Fr.O e]
def Pv {x:BU} (a:ev τ fr x=I v):Ch τ fr h (.assign x)=I (v,h):=by simp only[Ch,iH,a,CN]
def F1 {t:Tmp}:ev τ (fr.lay t v) (.tmp t)=I v:=by show(fr.lay t v).M.get t=_;rw[Fr.C,Bi B]
end
def S0:A9:=⟨λ_=>Z,λ_=>Z,λ_=>Z,λ_=>Z,λ_=>Z⟩
section
variable{P:AN} {τ:Bb}
structure YB (τ:Bb) (fc:Au) (fn:BC) (A0 A1:Array C0) (ts tsl t3:Ai) (o:Nat):Prop where
 get:τ.fn.get fc=I fn
 body:∃i0 i1,fn.body=I (.seq (.region i0 A0 Ah) (.seq (.region i1 A1 Ah) .ret))
 nt:fn.ntmps=8
 rs:aI fn.results=[.tmp 2]
 a0:A0.toList.map dV=[(I 2,.assign (.const (.int .i64 0)))]
 g0:(A0.toList.all λo=>o.guard.isNone&&Ny o.op)=Ag
 a1:A1.toList.map dV=[(I 3,.move (.tmp 0)),(I 4,.nilCheck (.tmp 3)),(I 5,.fieldAddr ts (.tmp 4) 1),(I 6,.load tsl (.tmp 5)),(I 7,.call ⟨.builtin .cap,#[.tmp 6],#[tsl]⟩),(I 2,.assign (.tmp 7))]
 g1:(A1.toList.all λo=>o.guard.isNone&&Ny o.op)=Ag
 fl:∃fs fl i2,τ.ds.get ts=I (.struct fs)/\fs.toList[1]?=I fl/\τ.b.get fl.type=I i2/\i2.size≠0/\fl.offset=o
 sl:∃e,τ.ds.get tsl=I (.slice e)
def Ahv {l:Au} {D w:Array C0} {K s:Ai} {o:Nat} (a:YB τ l fn D w K s t3 o) {lo:Nat} {c:T Aa} {x:Bool}
 (hb:h.t.get id=I (.cells c n e lo U x)) (M:c.get o=I v) (N:v=.slice Z 0 g\/∃b f len,v=.slice (I ⟨b,f,I 0⟩) len g) (L m:Nat) (k kp:Aa->Y->RR):
 B8 τ S0 L (m+1) (.func l) [AG id 0] h k kp=k (.int .i64 (AQ g)) h:=by
 let⟨O,E,P⟩:=a.body;let⟨fs,u,Q,f1,f2,f3,f4,f5⟩:=a.fl;obtain⟨G,y⟩:=a.sl;have R:GA [AG id 0] fn.ntmps=I ⟨T.laid [AG id 0] 0 .nil,8,[]⟩:=by rw[a.nt];rfl
 have h0:B8 τ S0 L (m+1) (.func l) [AG id 0] h k kp=DY τ S0 (B8 τ S0 L m) L l [AG id 0] h k kp:=B;rw[h0];unfold DY;simp only[a.get,P,R]
 let f0:Fr:=⟨T.laid [AG id 0] 0 .nil,8,[]⟩
 have S:ev τ f0 (.tmp 0)=I (AG id 0):=by
  show(T.laid [AG id 0] 0 .nil).get 0=_;rw[T.O];rfl
 generalize V:(Kt.mk _ _ _ _)=d;have W:d.r=λfr h=>Iw τ S0.b (aI fn.results) fr k fr.ds h:=Jq
 show B7 τ (B8 τ S0 L m) L Z (.region O D Ah) {n:=λfr h=>B7 τ (B8 τ S0 L m) L Z (.seq (.region E w Ah) .ret) d fr h,x:=d.x,r:=d.r,p:=d.p} f0 h=_;rw[Kx a.g0,a.a0];refine(GI B Jq (show 2<8 by decide)).trans ?_
 let F:Fr:=f0.lay 2 (.int .i64 0)
 show B7 τ (B8 τ S0 L m) L Z (.region E w Ah) {n:=λfr h=>B7 τ (B8 τ S0 L m) L Z .ret d fr h,x:=d.x,r:=d.r,p:=d.p} F h=_;rw[Kx a.g1,a.a1];refine(GI B Jq (show 3<8 by decide)).trans ?_
 let z:Fr:=F.lay 3 (AG id 0)
 refine(GI (v:=AG id 0) (J:=h) B (by
  have q:ev τ z (.tmp 3)=I (AG id 0):=F1;show Ch τ z h _=_;simp only[Ch,iH,q,AG]) (show 4<8 by decide)).trans ?_
 let A:Fr:=z.lay 4 (AG id 0)
 refine(GI (v:=AG id (0+u.offset)) (J:=h) B (by
  have i:ev τ A (.tmp 4)=I (AG id 0):=F1;have j:Am Q.size 0=false:=MK.2 λX=>f4 (Af X);show Ch τ A h _=_;simp only[Ch,iH,i,AG,GM,f1,f2,f3,j,I0,CN]) (show 5<8 by decide)).trans ?_
 let C:Fr:=A.lay 5 (AG id (0+u.offset))
 refine(GI (v:=v) (J:=h) B (by
  have i:ev τ C (.tmp 5)=I (AG id (0+u.offset)):=F1;have j:Bw τ s h id (0+u.offset)=I v:=by
   simp only[Bw,hb,y,J5,I0];rw[Ba,f5];exact M
  show Ch τ C h _=_;simp only[Ch,iH,i,AG,j,CN]) (show 6<8 by decide)).trans ?_
 let H:Fr:=C.lay 6 v
 refine(R7 (vs:=[v]) (v:=.int .i64 (AQ g)) (J:=h) (by
  have i:ev τ H (.tmp 6)=I v:=F1;show O8 τ H [.tmp 6]=_;simp only[O8,i]) (by
  have j:ZM τ [s] [v]=I (.int .i64 (AQ g)):=by
   rcases N with rfl|⟨b,f,len,rfl⟩<;>simp only[ZM,y]
  show Bx τ .cap [s] [v] h=_;simp only[Bx,j]) (show 7<8 by decide)).trans ?_
 refine(GI B (by exact Pv F1) (show 2<8 by decide)).trans ?_;show d.r _ h=_;rw[W];show Iw τ S0.b (aI fn.results) _ k [] h=_;rw[a.rs];have q:∀fr:Fr,(fr.lay 2 (.int .i64 (AQ g))).M.get 2=I (.int .i64 (AQ g)):=λfr=>by rw[Fr.C,Bi B]
 simp only[Iw,Ng,q,Ff]
structure vd (τ:Bb) (A:Array C0) (fc:Au) (tb tc td:Tmp) (t3:Ai):Prop where
 a:∃tys,A.toList.map dV=[(I tc,.call ⟨.value (.func fc),#[.tmp tb],tys⟩),(I td,.binOp .eql t3 (.tmp tc) (.const (.int .i64 0)) t3)]
 g:(A.toList.all λo=>o.guard.isNone&&Ny o.op)=Ag
 ne:tc≠td
def XX (T:BM P τ) (aq:JX P τ S0) {W:Au} {A0 A1 A:Array C0} {ts ar:Ai} {o:Nat} {L r y:Tmp} (hf:YB τ W fn A0 A1 ts ar t3 o) (hr:vd τ A W L r y t3'):
 J1 P τ (HG L r y o) (.region j A Ah):=by
 intro ρ h Ec h0 J a w st m K G X;unfold HG at m;split at m
 case h_2=>cases m
 rename_i id ai;split at m
 case h_2=>cases m
 rename_i c n e lo U x hb;let⟨au,ha⟩:=hr.a;have aj:∀(b:Bool) v D (O:Ev.T Aa),r<h.sz->y<h.sz->O.get o=I v->(v=.slice Z 0 D\/∃b f len,v=.slice (I ⟨b,f,I 0⟩) len D)->Am D 0=b->
  (∀pl,ρ id=I pl->BR P ρ pl w (.cells O n e lo U x))->K.n ⟨(UT h.M r).ins y (.bool b),h.sz,h.ds⟩ h0=I G->(Code.region j A Ah).wpIn (Fw Z) 0 P (QK P τ ρ w h0 K G) a w:=by
  intro b v D O Q R k hc av aw X
  let s:Y:=⟨h0.t.ins id (.cells O n e lo U x),h0.a,.no⟩
  have ax:s.t.get id=I (.cells O n e lo U x):=Ev.T.ao _ _ _;have ay:C5 P τ ρ s w:=by
   refine⟨⟨st.hk.1.fresh,λi pl hb' E M=>?_,st.hk.1.b,λi j pi pj aa E ej N ak al=>?_,st.hk.1.a⟩,st.hk.2⟩
   .have M:=M
    rw[Ev.T.M] at M;by_cases d:i=id
    .rw[Bi d] at M;cases M;subst d;exact aw pl E
    .rw[Bm d] at M;exact st.hk.1.hr i pl hb' E M
   .have N:=N
    rw[Ev.T.M] at N;by_cases d:i=id
    .rw[Bi d] at N;cases N;subst d
     have:=st.hk.1.ord i j pi pj _ E ej hb ak al;cases this
    .rw[Bm d] at N;exact st.hk.1.ord i j pi pj aa E ej N ak al
  have am:=JL T aq (Va T S0) (λc hc=>J6 T hc) 5 3
  let f1:Fr:=h.lay r (.int .i64 (AQ D))
  let f2:Fr:=f1.lay y (.bool b)
  have az:B7 τ (B8 τ S0 5 3) 5 Z (.region j A Ah) Vj h s=I [.aE f2 s]:=by
   rw[Kx hr.g,ha];have g1:ev τ h (.tmp L)=I (AG id 0):=ai;have a0:Jv τ (B8 τ S0 5 3) Vj.p Vj.n [(I r,.call ⟨.value (.func W),#[.tmp L],au⟩),(I y,.binOp .eql t3' (.tmp r) (.const (.int .i64 0)) t3')] h s=
    Jv τ (B8 τ S0 5 3) Vj.p Vj.n [(I y,.binOp .eql t3' (.tmp r) (.const (.int .i64 0)) t3')] f1 s:=by
    have a2:O8 τ h (#[Operand.tmp L]:Array BU).toList=I [AG id 0]:=by
     show O8 τ h [.tmp L]=_;simp only[O8,g1]
    rw[Jv];simp only[F9,Ju,a2];show B8 τ S0 5 (2+1) (.func W) ([]++[AG id 0]++[]) s _ _=_;have:([]:AH)++[AG id 0]++[]=[AG id 0]:=B;rw[this,Ahv hf ax k hc];rw[Fr.O Q]
   rw[a0];refine(GI (v:=.bool b) (J:=s) B (by
    have q:ev τ f1 (.tmp r)=I (.int .i64 (AQ D)):=F1;have q':Jo τ .eql t3' (.tmp r) (.const (.int .i64 0)) (.int .i64 (AQ D)) (.int .i64 0)=I (.bool (Am D 0)):=B;have a3:ev τ f1 (.const (.int .i64 0))=I (.int .i64 0):=B;show Ch τ f1 s _=_;simp only[Ch,iH,q,a3,q',CN,av]) Jq).trans ?_
   rfl
  refine wpIn_mono (GP T am (J6 T am) 5 (.region j A Ah) (by intro d;cases d) (ro:=Z) (ro':=Z) (⟨ay,st.b,st.ds⟩:St P τ ρ h s a w) trivial az) λen a1 w1 hq=>?_;let⟨ae,fr1,h1,o1,k1,k2,k3,F⟩:=hq;cases en with
  |normal=>
   cases F;have:=bQ.1 (k3 (bQ.2 B));cases this;have H:=k2.a;have a4:ae=ρ:=by
    funext i;rcases A8 i h0.a with a5|an
    .exact H.C i a5
    .rw[k1.hk.1.fresh i an,st.hk.1.fresh i an]
   subst a4;have ao:=λb hb=>H.O b hb λ_ _ d=>d.elim;have a6:=st.hk.grow H.size ao;refine⟨ae,⟨(UT h.M r).ins y (.bool b),h.sz,h.ds⟩,h0,G,⟨a6,⟨k1.b.1,λt v k=>?_⟩,k1.ds⟩,⟨⟨λ_ _=>B,H.size,λb hb _=>ao b hb,λi pl aa E=>(by rw[st.hk.1.fresh i aa] at E;cases E),Ae _,H.os,H.out,H.tape,H.drawn⟩,AF.refl _⟩,λ_ hx=>hx,X⟩;have k:=k;refine k1.b.2 t v ?_;show(f1.lay y (.bool b)).M.get t=I v;rw[Ev.T.M] at k;rw[Fr.C];by_cases ht:t=y
   .rw[Bi ht] at k⊢;exact k
   .rw[Bm ht] at k⊢
    rw[V8] at k;split at k
    .cases k
    .rename_i d
     rw[Fr.C,Bm d];exact k
  |exit id=>cases F
  |ret=>cases F
  |panic ch=>let⟨_,_,_,_,F⟩:=F;cases F
  |goto l=>exact F.elim
  |outgrown=>exact F.elim
 split at m
 .rename_i k
  let⟨S,m⟩:=C1 m;let⟨Q,R⟩:=Dh S;cases m;exact aj Ag _ 0 c Jq Jq k (.inl B) B (λpl e=>st.hk.1.hr id pl _ e hb) X
 .rename_i a7 len cap k
  let⟨S,m⟩:=C1 m;let⟨S,R⟩:=Dh S;let⟨q0,Q⟩:=Dh S;have q0:=Ac q0;cases m;have a8:∃pl,ρ id=I pl:=by
   let⟨v',_,s⟩:=st.b.2 L _ ai;cases s with|ptr e=>exact⟨_,e⟩
  let⟨pl,ap⟩:=a8;let⟨C,fz,r1,r2,r3,r4,r5,r6⟩:=st.hk.1.hr id pl _ ap hb;let⟨ro,v',rv,rr⟩:=r4 o _ k;let⟨af,ag,ab⟩:=a7;generalize a9:v'=z at rr;cases rr with|@slice _ _ _ _ _ ad o' e1 e2=>
  refine aj Ah (.slice (I ⟨af,ag,I 0⟩) len (cap+Hl ab ad)) (cap+Hl ab ad) (c.ins o (.slice (I ⟨af,ag,I 0⟩) len (cap+Hl ab ad))) Jq (by rwa [AK] at R) (Ev.T.ao _ _ _) (.inr ⟨_,_,_,B⟩) (MK.2 λd=>by have:=Af d;omega) (λpl' e=>?_) X;rw[ap] at e;cases e;refine⟨C,fz,r1,r2,r3,λi u V=>?_,r5,r6⟩;rw[Ev.T.M] at V;by_cases ah:i=o
  .rw[Bi ah] at V;cases V;subst ah
   refine⟨ro,_,rv,?_⟩;rw[a9];have:=VR.slice (sp:=I 0) (len:=len) (cap:=cap+Hl ab ad) (o':=o') e1 (λd=>e2 (by simp[Hl] at d⊢;omega));simpa[Hl] using this
  .rw[Bm ah] at V;exact r4 i u V
 .cases m
end
def Agn {a b:Int} (h:oA a b=Ag):a=b:=by
 unfold oA at h;split at h
 .rw[Af h]
 .rw[Af h]
 .cases h
def Ahf {a b:Option Nat} (h:oc a b=Ag):a=b:=by
 unfold oc at h;split at h
 .rfl
 .rw[Af h]
 .cases h
def Xw {a:Option Nat} (h:jw a b=Ag):a=I b:=by
 cases a with
 |none=>cases h
 |some x=>rw[Af h]
def Ain {a b:Bd} (h:Gp (aI a.data) (aI b.data)=Ag):a=b:=by
 rw[J0] at h;have:=eq_of_beq h;let⟨⟨a⟩⟩:=a;let⟨⟨b⟩⟩:=b;simp at this;rw[this]
def F0 {f:Aa->Aa->Bool} (d:∀a b e,f a b=Ag->VR ρ b e->VR FS a e):∀{c l l':AH},Ln f c l=Ag->LR ρ l l'->LR FS c l'
 |[],[],_,_,.nil=>.nil
 |a::c,b::l,_,h,.cons hb g=>by
  simp only[Ln,An] at h;exact .cons (d a b _ h.1 hb) (F0 d h.2 g)
 |[],_::_,_,h,_=>Jq
 |_::_,[],_,h,_=>Jq
def Ks {m:Nat->Option Nat} (f:∀i j pl,m i=I j->ρ j=I pl->FS i=I pl):∀(n:Nat) (e v r:Aa),K9 m n e v=Ag->VR ρ v r->VR FS e r:=by
 intro n
 induction n with
 |zero=>intro e v r h;cases h
 |succ n d=>
  intro e v r h g;unfold K9 at h;split at h<;>(try simp only[An] at h)<;>first|(cases h;done)|(
   cases g
   first
    |(constructor;done)
    |exact .agg (F0 (λa b c=>d a b c) h Gs)
    |exact .tuple (F0 (λa b c=>d a b c) h Gs)
    |exact .map (f _ _ _ (Xw h) Gs)
    |(cases eq_of_beq h;exact .bool _)
    |(rw[Ain h];exact .string _)
    |(rw[Ly h.1,Agn h.2];exact .int _ _)
    |(rw[Af h.1,Af h.2];exact .az _ _)
    |(cases Af h.2;exact .ptr (f _ _ _ (Xw h.1) Gs))
    |(cases Af h.1;exact .iface (d _ _ _ h.2 Gs))
    |(cases ‹Yw _ _ _›;cases Af h.1.1;exact .func (.func _) (F0 (λa b c=>d a b c) h.1.2 Gs) (F0 (λa b c=>d a b c) h.2 Gs))
    |(
     let⟨⟨⟨⟨k,l⟩,o⟩,p⟩,q⟩:=h;cases Af l;cases Ahf o;cases Af p;cases Af q;exact .slice (f _ _ _ (Xw k) Gs) Gs))
def JI {f:Aa->Option Aa} (d:∀a b e,f a=I b->VR FS a e->VR ρ b e):∀{c l l':AH},PI f c=I l->LR FS c l'->LR ρ l l'
 |[],l,_,h,.nil=>by simp only[PI,I.injEq] at h;subst h;exact .nil
 |a::c,l,_,h,.cons hb g=>by
  simp only[PI] at h;split at h
  case h_2=>cases h
  rename_i u r i j;cases h;exact .cons (d a u _ i hb) (JI d j g)
def L8 {m:Nat->Option Nat} (f:∀i j pl,m i=I j->FS i=I pl->ρ j=I pl):∀(n:Nat) (e v k:Aa),Qs m n e=I v->VR FS e k->VR ρ v k:=by
 intro n
 induction n with
 |zero=>intro e v k h;cases h
 |succ n d=>
  intro e v k h g;unfold Qs at h;split at h<;>first|(cases h;cases g;constructor;done)|(
   split at h<;>first|(cases h;done)|(
    cases h;cases g
    first
     |exact .ptr (f _ _ _ Gs Gs)
     |exact .slice (f _ _ _ Gs Gs) Gs
     |exact .map (f _ _ _ Gs Gs)
     |exact .iface (d _ _ _ Gs Gs)
     |exact .agg (JI (λa b c=>d a b c) Gs Gs)
     |exact .tuple (JI (λa b c=>d a b c) Gs Gs)
     |(cases ‹Yw _ _ _›;exact .func (.func _) (JI (λa b c=>d a b c) Gs Gs) (JI (λa b c=>d a b c) Gs Gs))))|cases h
def LQ {f:Aa->Aa->Bool} {c:T Aa}:∀{l:AH} {i:Nat},Kh f c l i=Ag->∀(j:Nat) b,l[j]?=I b->∃v,c.get (i+j)=I v/\f b v=Ag
 |[],_,_,j,b,e=>Jq
 |a::l,i,h,j,b,e=>by
  simp only[Kh,An] at h;cases j with
  |zero=>
   cases e;let⟨d,_⟩:=h;split at d
   case h_2=>cases d
   rename_i v g;exact⟨v,g,d⟩
  |succ j=>
   let⟨v,d,k⟩:=LQ h.2 j b Jq;refine⟨v,?_,k⟩;rw[←d];congr 1;omega
def Pr {f:Aa->Aa->Bool} (c:∀a b e,f a b=Ag->VR ρ b e->VR FS a e):∀{d l l':List Ap},TL f d l=Ag->ER ρ l l'->ER FS d l'
 |[],[],_,_,.nil=>.nil
 |a::d,b::l,_,h,.cons g i j k=>by
  simp only[TL,An] at h;let⟨⟨⟨m,n⟩,o⟩,p⟩:=h;exact .cons (c _ _ _ m g) (c _ _ _ n i) ((Af o).trans j) (Pr c p k)
 |[],_::_,_,h,_=>Jq
 |_::_,[],_,h,_=>Jq
def Tn {m:Nat->Option Nat} (b:∀i j pl,m i=I j->FS i=I pl->ρ j=I pl):∀{c l l':List Ap},jp m c=I l->ER FS c l'->ER ρ l l'
 |[],l,_,h,.nil=>by simp only[jp,I.injEq] at h;subst h;exact .nil
 |a::c,l,_,h,.cons d e f g=>by
  simp only[jp] at h;split at h
  case h_2=>cases h
  rename_i k v r n o p;cases h;exact .cons (L8 b 6 _ _ _ n d) (L8 b 6 _ _ _ o e) f (Tn b p g)
def We {f:Aa->Option Aa}:∀{b l:AH},PI f b=I l->LT l=LT b/\∀(i:Nat) v,l[i]?=I v->∃c,b[i]?=I c/\f c=I v
 |[],l,h=>by simp only[PI,I.injEq] at h;subst h;exact⟨B,λi v d=>by simp at d⟩
 |a::b,l,h=>by
  simp only[PI] at h;split at h
  case h_2=>cases h
  rename_i u r e g;cases h;let⟨j,k⟩:=We g;refine⟨Jq,λi v d=>?_⟩;cases i with
  |zero=>cases d;exact⟨a,B,e⟩
  |succ i=>let⟨c,m,n⟩:=k i v Jq;exact⟨c,Jq,n⟩
section
variable{P:AN} {τ:Bb} {w:AM}
def Rh {m:Nat->Option Nat} (r:∀i j pl,m i=I j->ρ j=I pl->FS i=I pl) {b:CB} (h:Hv m b (I hb)=Ag) (s:BR P ρ pl w hb):BR P FS pl w b.oB:=by
 cases b with
 |cells l e lo U x=>
  cases hb<;>simp only[Hv] at h<;>first
   |(cases h;done)
   |skip
  rename_i c n Q R S B;simp only[An] at h;let⟨⟨⟨⟨⟨f,g⟩,k⟩,o⟩,t⟩,y⟩:=h;have f:=Af f;have g:=Af g;have k:=Af k;have o:=Af o;subst f;subst g;subst k;subst o;let⟨C,z,p,q,A,D,E,F⟩:=s;refine⟨C,z,p,q,A,λi v d=>?_,E,λH=>F ?_⟩
  .rw[T.O] at d
   by_cases U:0<=i/\i<0+LT l
   .rw[Bi U] at d
    simp only[DL] at d;let⟨u,K,L⟩:=LQ y i v d;let⟨_,v',M,N⟩:=D i u Jq;exact⟨G,v',M,Ks r 6 v u v' L N⟩
   .rw[Bm U,T.C] at d;cases d
  .subst H;simpa using t
 |map es V=>
  cases hb<;>simp only[Hv] at h<;>first
   |(cases h;done)
   |skip
  rename_i J W;simp only[An] at h;have f:=Af h.1;subst f;let⟨es2,p,q⟩:=s;exact⟨es2,p,Pr (λa b O=>Ks r 6 a b O) h.2 q⟩
def Z4 {m:Nat->Option Nat} (k:∀i j pl,m i=I j->FS i=I pl->ρ j=I pl) {b c:CB} (h:jk m b=I c) (n:BR P FS pl w b.oB):BR P ρ pl w c.oB:=by
 cases b with
 |cells l e lo U x=>
  simp only[jk] at h;split at h
  case h_2=>cases h
  rename_i l' q;cases h;let⟨d,r⟩:=We q;let⟨C,s,f,g,t,u,y,z⟩:=n;refine⟨C,s,f,Jq,λi U=>Jq,λi v a=>?_,y,λA=>Jq⟩;rw[T.O] at a;by_cases o:0<=i/\i<0+LT l'
  .rw[Bi o] at a
   simp only[DL] at a;let⟨p,D,E⟩:=r i v a;let⟨L,v',F,H⟩:=u i p (by rw[T.O,Bi G];simpa using D);exact⟨G,v',F,L8 k 6 p v v' E H⟩
  .rw[Bm o,T.C] at a;cases a
 |map es M=>
  simp only[jk] at h;split at h
  case h_2=>cases h
  rename_i B K;cases h;let⟨es2,f,g⟩:=n;exact⟨es2,f,Tn k K g⟩
def CB.live (b:CB):b.oB.live=true:=by cases b<;>rfl
def Jz:∀(l:List CB) (i:Nat) (t:T HB) (j:Nat),(Nj l i t).get j=if i<=j/\j<i+LT l then(l[j-i]?).map CB.oB else t.get j
 |[],i,t,j=>by rw[Bm wl];rfl
 |
  b::l,i,t,j=>by
  show(Nj l (i+1) (t.ins i b.oB)).get j=_;rw[Jz l (i+1)];by_cases h:i<=j/\j<i+(b::l).length
  .rw[Bi h]
   simp only[AO] at h;by_cases e:j=i
   .subst e
    rw[Bm G,T.ao];simp
   .rw[Bi G]
    obtain⟨d,rfl⟩:∃d,j=i+1+d:=⟨j-i-1,G⟩;rw[show i+1+d-(i+1)=d by omega,show i+1+d-i=d+1 by omega];rfl
  .rw[Bm h]
   simp only[AO] at h;rw[Bm G,T.aP _ _ G]
def M6 {m:Nat->Option Nat} {t:T HB}:∀{l:List CB} {i:Nat},Om m t l i=Ag->∀(j:Nat) b,l[j]?=I b->∃k,m (i+j)=I k/\Hv m b (t.get k)=Ag
 |[],_,_,j,b,d=>Jq
 |a::l,i,h,j,b,d=>by
  simp only[Om,An] at h;cases j with
  |zero=>
   cases d;let⟨c,_⟩:=h;split at c
   case h_2=>cases c
   rename_i k e;exact⟨k,e,c⟩
  |succ j=>
   let⟨k,c,f⟩:=M6 h.2 j b Jq;exact⟨k,Jq,f⟩
def M0 {lo:Nat}:∀{l:Bo},LX lo U l=Ag->(∀x∈l,lo<=x/\x<U)/\l.Nodup
 |[],_=>⟨λx b=>Jq,Jg⟩
 |a::l,h=>by
  simp only[LX,An] at h;let⟨⟨⟨c,d⟩,e⟩,f⟩:=h;let⟨g,i⟩:=M0 f;refine⟨λx b=>?_,List.nodup_cons.2 ⟨λj=>?_,i⟩⟩
  .rcases bZ.1 b with rfl|b
   .exact⟨Ac c,Jq⟩
   .exact g x b
  .have:=Jf.1 e a j
   simp at this
end
section
variable{P:AN} {τ:Bb}
def nQ (τ:Bb) (M:E2):Y:=⟨Nj M.outs (τ.a+LT M.ins) (Ia τ M).t,τ.a+LT M.ins+LT M.outs,.no⟩
structure JZ (P:AN) (τ:Bb) (f:Au) (M:E2):Prop where
 go:∀(ρ:Ren) (w:AM) (AP:AH),C5 P τ ρ (Ia τ M) w->LR ρ M.args AP->
 Hk P (callFunc f ⟨AP⟩) w λe w'=>∃C2 v',e=.returned v'/\VR C2 M.res v'/\C5 P τ C2 (nQ τ M) w'/\Mj ρ w (τ.a+LT M.ins) C2 w' (τ.a+LT M.ins+LT M.outs) .no
def Wg:∀(l:List (Nat×CB)) (g:Nat) (hb:HB),(ZV l).get g=I hb->∃b,(g,b)∈l/\hb=b.oB
 |[],g,hb,h=>Jq
 |(a,b)::l,g,hb,h=>by
  have h:((ZV l).ins a b.oB).get g=I hb:=h;rw[T.M] at h;by_cases e:g=a
  .rw[Bi e] at h;cases h;subst e;exact⟨b,Av,B⟩
  .rw[Bm e] at h
   let⟨c,d,f⟩:=Wg l g hb h;exact⟨c,Az _ d,f⟩
def Re {c:Nat} {m:Nat->Option Nat} {t:T HB}:∀{l:List (Nat×CB)},QL c m t l=Ag->∀g b,(g,b)∈l->g<c/\Hv m b (t.get g)=Ag
 |[],_,g,b,h=>Jq
 |(d,e)::l,h,g,b,a=>by
  simp only[QL,An] at h;rcases bZ.1 a with a|a
  .cases a;exact⟨Jq,h.1.2⟩
  .exact Re h.2 g b a
def GF {a:Nat} {pl:Bo} (h:i<a):De a pl i=I i:=by
 unfold De;have:AD i a=Ag:=Jq
 rw[this];rfl
def HU {a:Nat} {pl:Bo} (h:¬i<a):De a pl i=pl[i-a]?:=by
 unfold De;have:=MK.2 λb=>by rw[AK] at b;exact h b
 rw[this];rfl
def Abn (o:C5 P τ ρ h w) {pl:Bo} (ag:LT pl=LT M.ins) (N:LX τ.a h.a pl=Ag) (hb:Om (De τ.a pl) h.t M.ins τ.a=Ag) (O:QL τ.a (De τ.a pl) h.t M.gs=Ag):
 C5 P τ (λi=>(De τ.a pl i).bind ρ) (Ia τ M) w:=by
 obtain⟨f1,Y⟩:=M0 N;have Q:∀i j pl',De τ.a pl i=I j->ρ j=I pl'->(λi=>(De τ.a pl i).bind ρ) i=I pl':=λi j pl' d l=>by simp only[d,CC,l]
 have s:∀i hb',(Ia τ M).t.get i=I hb'->∃b j,hb'=b.oB/\De τ.a pl i=I j/\Hv (De τ.a pl) b (h.t.get j)=Ag:=by
  intro i hb' e;have e:(Nj M.ins τ.a (ZV M.gs)).get i=I hb':=e;rw[Jz] at e;by_cases U:τ.a<=i/\i<τ.a+LT M.ins
  .rw[Bi U] at e
   obtain⟨b,R,rfl⟩:=mp.1 e;let⟨k,p,u⟩:=M6 hb (i-τ.a) b R;exact⟨b,k,B,Jq,u⟩
  .rw[Bm U] at e
   obtain⟨b,b1,rfl⟩:=Wg _ _ _ e;let⟨S,T⟩:=Re O i b b1;exact⟨b,i,B,GF S,T⟩
 have v:∀b j,Hv (De τ.a pl) b (h.t.get j)=Ag->∃hb',h.t.get j=I hb'/\hb'.live=Ag:=by
  intro b j q;cases C:h.t.get j with
  |none=>rw[C] at q;cases b<;>cases q
  |some hb'=>
   refine⟨hb',B,?_⟩;rw[C] at q;cases hb'<;>first
    |rfl
    |(cases b<;>cases q)
 refine⟨⟨λi U=>?_,λi pl' hb' e V=>?_,λi pl' e=>?_,λi j x y U n z W ah D=>?_,λg E=>?_⟩,GW _ _⟩
 .have U:τ.a+LT M.ins<=i:=U
  show(De τ.a pl i).bind ρ=Z;rw[HU G,CD G];rfl
 .obtain⟨b,j,rfl,d,l⟩:=s i hb' V
  have e:=e;rw[d] at e;simp only[CC] at e;let⟨A,r,_⟩:=v b j l;rw[r] at l;exact Rh Q l (o.1.hr j pl' A e r)
 .have e:=e
  let⟨j,_,l⟩:=jS.1 e;exact o.1.b j pl' l
 .exfalso
  obtain⟨b,a,rfl,d,l⟩:=s i U W;let⟨A,r,F⟩:=v b a l;have n:=n;have z:=z;rw[d] at n;simp only[CC] at n;let⟨c,f,H⟩:=jS.1 z;rcases FD a c with X|aa|ab
  .have:=o.1.ord a c x y A n H r X D
   rw[this] at F;cases F
  .subst aa
   by_cases K:i<τ.a
   .rw[GF K] at d;cases d
    by_cases m:j<τ.a
    .rw[GF m] at f;cases f;omega
    .rw[HU m] at f
     have:=(f1 i (AZ f)).1;omega
   .have m:¬j<τ.a:=G
    rw[HU K] at d;rw[HU m] at f;have J:=(cG.1 d).1;have:=(uM J Y).1 (d.trans f.symm);omega
  .by_cases m:j<τ.a
   .rw[GF m] at f;cases f
    rw[GF (show i<τ.a by omega)] at d;cases d;omega
   ·
    have ad:j-τ.a<LT M.ins:=by
     rw[HU m] at f;have:=(cG.1 f).1;omega
    have ae:(Ia τ M).t.get j=I (M.ins[j-τ.a]).oB:=by
     show(Nj M.ins τ.a (ZV M.gs)).get j=_;rw[Jz,Bi G,Ab ad];rfl
    let⟨b',c',_,p,u⟩:=s j _ ae;rw[f] at p;cases p;let⟨af,k3,L⟩:=v b' c u;have:=o.1.ord c a y x af H n k3 ab D.symm;rw[this] at L;cases L
 .show(De τ.a pl g).bind ρ=_
  rw[GF E];exact o.1.a g E
def To {m:Nat->Option Nat}:∀{l l':List CB},U7 m l=I l'->LT l'=LT l/\∀(i:Nat) c,l'[i]?=I c->∃b,l[i]?=I b/\jk m b=I c
 |[],l',h=>by simp only[U7,I.injEq] at h;subst h;exact⟨B,λi c a=>by simp at a⟩
 |b::l,l',h=>by
  simp only[U7] at h;split at h
  case h_2=>cases h
  rename_i c r d e;cases h;let⟨f,g⟩:=To e;refine⟨Jq,λi j a=>?_⟩;cases i with
  |zero=>cases a;exact⟨b,B,d⟩
  |succ i=>let⟨k,n,o⟩:=g i j Jq;exact⟨k,Jq,o⟩
def Pm {st:List (Nat×Nat)}:∀(n i:Nat) {l:Bo},L0 st i n=I l->LT l=n
 |0,i,l,h=>by simp only[L0,I.injEq] at h;subst h;rfl
 |n+1,i,l,h=>by
  simp only[L0] at h;split at h
  case h_2=>cases h
  rename_i a r c b;cases h;simp[Pm n (i+1) b]
def uS (hM:JZ P τ f M) (o:C5 P τ ρ h w) (hl:LR ρ args AP) (n:QG τ M args h=I (v,J)) (k kp:Aa->Y->RR) (B:List EO) (ab:k v J=I B):
 Hk P (callFunc f ⟨AP⟩) w (Ho P τ ρ w h k kp B):=by
 unfold QG at n;split at n
 case h_2=>cases n
 rename_i pl ad;simp only[] at n;let⟨x,n⟩:=C1 n;let⟨x,q4⟩:=Dh x;let⟨x,q3⟩:=Dh x;let⟨q1,q2⟩:=Dh x;split at n
 case h_2=>cases n
 rename_i v0 bs hv ae;simp only[I.injEq,Prod.mk.injEq] at n;obtain⟨rfl,rfl⟩:=n;have af:=Pm _ _ ad;have ag:=Abn o af q1 q3 q4;have ah:LR (λi=>(De τ.a pl i).bind ρ) M.args AP:=F0 (λa b E=>Ks (λi j pl' d l=>by simp only[d,CC,l]) 6 a b E) q2 hl;refine(hM.go _ w AP ag ah).mono λe w' he=>?_;obtain⟨C2,v',rfl,g1,F,p⟩:=he;let⟨b1,b2⟩:=To ae;have R:=λb hb=>p.O b hb λ_ _ m=>m.elim;have S:∀i pl',τ.a+LT M.ins<=i->C2 i=I pl'->w.heap.size<=pl'.b:=λi pl' U e=>by
  rcases p.new i pl' U e with h|⟨_,_,m,_⟩
  .exact h
  .exact m.elim
 let y:Ren:=λi=>if i<h.a then ρ i else if i<h.a+LT M.outs then C2 (τ.a+LT M.ins+(i-h.a)) else Z
 have H:ρ.le y:=λi pl' e=>by
  have:i<h.a:=BB λm=>by rw[o.1.fresh i m] at e;cases e
  show(if i<h.a then ρ i else _)=_
  rw[Bi this];exact e
 have T:∀i j pl',XC (τ.a+LT M.ins) (LT M.outs) (De τ.a pl) h.a i=I j->C2 i=I pl'->y j=I pl':=by
  intro i j pl' d l;unfold XC at d;by_cases U:i<τ.a+LT M.ins
  .have K:AD i (τ.a+LT M.ins)=true:=Jq
   rw[K] at d;simp only[D1] at d;have s:=p.C i U;rw[l] at s;have s:=s;rw[d] at s;simp only[CC] at s;exact H j pl' s.symm
  .have K:=MK.2 λm=>by rw[AK] at m;exact U m
   rw[K] at d;simp only[I0] at d;by_cases V:i<τ.a+LT M.ins+LT M.outs
   .have L:AD i (τ.a+LT M.ins+LT M.outs)=true:=Jq
    rw[L] at d;simp only[D1,I.injEq] at d;subst d;show(if h.a+(i-(τ.a+LT M.ins))<h.a then _ else if h.a+(i-(τ.a+LT M.ins))<h.a+LT M.outs then C2 (τ.a+LT M.ins+(h.a+(i-(τ.a+LT M.ins))-h.a)) else Z)=_
    rw[Bm G,Bi G];rw[show τ.a+LT M.ins+(h.a+(i-(τ.a+LT M.ins))-h.a)=i by omega];exact l
   .have L:=MK.2 λm=>by rw[AK] at m;exact V m
    rw[L] at d;cases d
 have N:=λj=>Jz bs h.a h.t j
 have u:∀i pl',y i=I pl'->(i<h.a/\ρ i=I pl')\/(h.a<=i/\i<h.a+LT M.outs/\C2 (τ.a+LT M.ins+(i-h.a))=I pl'):=by
  intro i pl' e;have e:(if i<h.a then ρ i else if i<h.a+LT M.outs then C2 (τ.a+LT M.ins+(i-h.a)) else Z)=I pl':=e
  by_cases d:i<h.a
  .rw[Bi d] at e;exact .inl ⟨d,e⟩
  .rw[Bm d] at e
   by_cases l:i<h.a+LT M.outs
   .rw[Bi l] at e;exact .inr ⟨G,l,e⟩
   .rw[Bm l] at e;cases e
 have W:∀i,i<LT M.outs->∃b,M.outs[i]?=I b/\(nQ τ M).t.get (τ.a+LT M.ins+i)=I b.oB:=λi U=>by
  refine⟨M.outs[i],Ab U,?_⟩;show(Nj M.outs (τ.a+LT M.ins) (Ia τ M).t).get _=_;rw[Jz,Bi G,Ds,Ab U];rfl
 have ai:C5 P τ y ⟨Nj bs h.a h.t,h.a+LT M.outs,h.lo⟩ w':=by
  refine⟨⟨λi U=>?_,λi pl' hb e q=>?_,λi pl' e=>?_,λi j C z U ei X A aj aa=>?_,λg hg=>?_⟩,Ao o.2 (GW _ _)⟩
  .have U:h.a+LT M.outs<=i:=U
   show(if i<h.a then _ else if i<h.a+LT M.outs then _ else Z)=Z
   rw[Bm G,Bm G]
  .have q:=q
   rw[N] at q;rcases u i pl' e with⟨d,l⟩|⟨d,l,r⟩
   .rw[Bm G] at q
    exact(o.1.hr i pl' hb l q).mono H (R _ (o.1.b i pl' l))
   .rw[Bi Jq] at q
    obtain⟨c,c1,rfl⟩:=mp.1 q;let⟨b,d1,d2⟩:=b2 _ c c1;let⟨E,d3,d4⟩:=W (i-h.a) G;rw[d1] at d3;cases d3;exact Z4 T d2 (F.1.hr _ pl' _ r d4)
  .rcases u i pl' e with⟨d,l⟩|⟨d,l,r⟩
   .exact AC (o.1.b i pl' l) p.size
   .exact F.1.b _ pl' r
  .have A:=A
   rw[N] at A;rcases u i C ei with⟨d,l⟩|⟨d,l,r⟩
   .rw[Bm G] at A
    rcases u j z X with⟨O,D⟩|⟨O,D,Q⟩
    .exact o.1.ord i j C z U l D A aj aa
    .have:=S _ z G Q
     have:=o.1.b i C l;omega
   .rcases u j z X with⟨O,D⟩|⟨O,D,Q⟩
    .omega
    .let⟨E,d3,d4⟩:=W (i-h.a) G
     have:=F.1.ord _ _ C z _ r Q d4 G aa;rw[CB.live] at this;cases this
  .exact H _ _ (o.1.a g hg)
 refine⟨y,v0,_,B,L8 T 6 _ _ _ hv g1,ai,⟨⟨λi U=>?_,p.size,λb hb _=>R b hb,λi pl' U e=>?_,GW _ _,p.os,p.out,p.tape,p.drawn⟩,?_⟩,ab,λ_ hx=>hx⟩
 .show(if i<h.a then ρ i else _)=_
  rw[Bi U]
 .rcases u i pl' e with⟨d,_⟩|⟨d,l,r⟩
  .omega
  .exact .inl (S _ pl' G r)
 .refine⟨GW _ _,WS.le_refl _,λi U _=>?_⟩
  show(Nj bs h.a h.t).get i=_;rw[N,Bm G]
def Tm (q:C8 P τ call) {o:List EO} (ai:call (.func f) M.args (Ia τ M) (λv h=>I [.val v h]) (λ_ _=>Z)=I o) (k:∀v h,.val v h∈o->∃pl,Ub τ M pl v h=Ag):JZ P τ f M:=by
 refine⟨λρ w AP n hl=>?_⟩;have aj:=q (.func f) (.func f) _ _ _ _ _ _ ρ w n (.func f) hl ai;refine(aj).mono λe w' H=>?_;cases e with
 |outgrown=>exact H.elim
 |panicked ch=>let⟨_,_,_,_,_,_,_,_,_,hb,_⟩:=H;cases hb
 |returned v'=>
  let⟨d,v,h,o1,k1,K,k3,k4,k5⟩:=H;cases k4;let⟨pl,k⟩:=k v h (k5 (bQ.2 B));unfold Ub at k;simp only[] at k;let⟨k,q5⟩:=Dh k;let⟨k,q4⟩:=Dh k;let⟨k,q3⟩:=Dh k;obtain⟨q1,Y⟩:=Dh k;have Y:=Af Y;obtain⟨f1,f2⟩:=M0 q3;have l:=k3.a;have aa:∀id,id<τ.a+LT M.ins->¬h.lo.has id:=λid u=>GO q1 u;have ab:∀b,b<w.heap.size->w'.heap[b]?=w.heap[b]?:=λb hb=>l.O b hb λid pl' L e=>by
   have u:id<τ.a+LT M.ins:=BB λJ=>by rw[n.1.fresh id J] at e;cases e
   exact Cf L (aa id u)
  have ad:∀i pl',τ.a+LT M.ins<=i->d i=I pl'->w.heap.size<=pl'.b:=λi pl' U e=>by
   rcases l.new i pl' U e with J|⟨j,r,L,p,_⟩
   .exact J
   .have u:j<τ.a+LT M.ins:=BB λJ=>by rw[n.1.fresh j J] at p;cases p
    exact Cf L (aa j u)
  let m:=De (τ.a+LT M.ins) pl
  let x:Ren:=λi=>(m i).bind d
  have N:∀i j pl',m i=I j->d j=I pl'->x i=I pl':=λi j pl' h1 O=>by show(m i).bind d=_;rw[h1];exact O
  have Q:∀i,i<τ.a+LT M.ins->m i=I i:=λi U=>GF U;have y:∀i,¬i<τ.a+LT M.ins->m i=pl[i-(τ.a+LT M.ins)]?:=λi U=>HU U;have R:∀i b,M.outs[i]?=I b->∃j hb,m (τ.a+LT M.ins+i)=I j/\h.t.get j=I hb/\Hv m b (I hb)=Ag/\hb.live=true:=by
   intro i b hb;let⟨j,E,s⟩:=M6 q5 i b hb;cases z:h.t.get j with
   |none=>rw[z] at s;cases b<;>cases s
   |
    some hb'=>
    rw[z] at s;refine⟨j,hb',E,z,s,?_⟩;cases hb'<;>first
     |rfl
     |(cases b<;>cases s)
  have ae:∀i,(nQ τ M).t.get i=if τ.a+LT M.ins<=i/\i<τ.a+LT M.ins+LT M.outs then(M.outs[i-(τ.a+LT M.ins)]?).map CB.oB else(Ia τ M).t.get i:=λi=>Jz _ _ _ _
  have S:=λi pl' U e=>by
   have e:(m i).bind d=I pl':=e;rw[Q i U] at e;simp only[CC] at e;rw[l.C i U] at e;exact e
  have af:ρ.le x:=λi pl' e=>by
   have U:i<τ.a+LT M.ins:=BB λJ=>by rw[n.1.fresh i J] at e;cases e
   refine N i i pl' (Q i U) ?_;rw[l.C i U];exact e
  have F:=λi pl' U e=>by
   have e:(m i).bind d=I pl':=e;rw[y i U] at e;exact jS.1 e
  refine⟨x,v',B,Ks N 6 _ _ _ q4 k1,⟨⟨λi U=>?_,λi pl' hb e A=>?_,λi pl' e=>?_,λi j C r U ei p T ak ag=>?_,λg hg=>af _ _ (n.1.a g hg)⟩,by show τ.a<=τ.a+LT M.ins+LT M.outs;omega⟩,
   ⟨λi U=>?_,l.size,λb hb _=>ab b hb,λi pl' U e=>?_,GW _ _,l.os,l.out,l.tape,l.drawn⟩⟩
  .have U:τ.a+LT M.ins+LT M.outs<=i:=U
   show(m i).bind d=Z;rw[y i G,CD G];rfl
  .rw[ae] at A
   by_cases U:τ.a+LT M.ins<=i/\i<τ.a+LT M.ins+LT M.outs
   .rw[Bi U] at A
    obtain⟨b,b1,rfl⟩:=mp.1 A;let⟨j,hb',E,s,j3,_⟩:=R _ b b1;have e:(m i).bind d=I pl':=e;rw[show τ.a+LT M.ins+(i-(τ.a+LT M.ins))=i by omega] at E;rw[E] at e;exact Rh N j3 (K.1.hr j pl' hb' e s)
   .rw[Bm U] at A
    have al:i<τ.a+LT M.ins:=by
     refine BB λJ=>?_;have e:(m i).bind d=I pl':=e;rw[y i G,CD G] at e;cases e
    have e':=S i pl' al e;exact(n.1.hr i pl' hb e' A).mono af (ab _ (n.1.b i pl' e'))
  .have e:=e
   let⟨j,_,O⟩:=jS.1 e;exact K.1.b j pl' O
  .rw[ae] at T
   by_cases V:i<τ.a+LT M.ins
   .rw[Bm G] at T
    have ah:=S i C V ei;by_cases D:j<τ.a+LT M.ins
    .exact n.1.ord i j C r U ah (S j r D p) T ak ag
    .let⟨c,q,W⟩:=F j r D p
     have:=ad c r (f1 c (AZ q)).1 W;have:=n.1.b i C ah;omega
   .exfalso
    have D:¬j<τ.a+LT M.ins:=G;let⟨a,X,ea⟩:=F i C V ei;let⟨c,q,W⟩:=F j r D p;have li:=(cG.1 X).1;have lj:=(cG.1 q).1;let⟨a',am,a1,a2,_,a4⟩:=R (i-(τ.a+LT M.ins)) _ (Ab G);let⟨c',an,c1,c2,_,c4⟩:=R (j-(τ.a+LT M.ins)) _ (Ab G);rw[show τ.a+LT M.ins+(i-(τ.a+LT M.ins))=i by omega,y i V,X] at a1;rw[show τ.a+LT M.ins+(j-(τ.a+LT M.ins))=j by omega,y j D,q] at c1;cases a1;cases c1;have:=K.1.inj a c C r am an ea W a2 c2 a4 c4 ag;subst this;have:=(uM li f2).1 (X.trans q.symm);omega
  .show(m i).bind d=ρ i
   rw[Q i U];exact l.C i U
  .have U:=Nat.not_lt.2 U
   let⟨j,z,p⟩:=F i pl' U e;exact .inl (ad j pl' (f1 j (AZ z)).1 p)
def Ahy (b:C8 P τ call) (a:Ue τ call f M=Ag):JZ P τ f M:=by
 unfold Ue at a;split at a
 .rename_i c
  refine Tm b c λv h d=>?_;have:=Jf.1 a _ d;simp only[] at this;split at this
  .exact⟨_,this⟩
  .cases this
 .cases a
end
section
def Ej {x:Except String c} {f:c->Except String d} {b:d} (h:(x>>=f)=.ok b):∃a,x=.ok a/\f a=.ok b:=by
 cases x with
 |error e=>cases h
 |ok a=>exact⟨a,B,h⟩
def XV {b:Bool} {m:String} {u:Unit} (h:CheckCode.require b m=.ok u):b=true:=by
 unfold CheckCode.require at h;cases b with
 |true=>rfl
 |false=>cases h
def Abv {x:Except String c} {f:String->String} {a:c} (h:x.mapError f=.ok a):x=.ok a:=by
 cases x with
 |error e=>cases h
 |ok b=>cases h;rfl
def Zt {c:Type} {f:c->Except String Unit}:∀{l:List c},l.forM f=.ok ()->∀x∈l,f x=.ok ()
 |[],_,_,b=>Cf b (KX)
 |a::l,h,x,b=>by
  replace h:(f a>>=λ_=>l.forM f)=.ok ():=h;let⟨⟨⟩,d,e⟩:=Ej h;cases b with
  |head=>exact d
  |tail _ b=>exact Zt e x b
def XO {f:BC}:∀(c:DC) (b l:Bo),CheckCode.code P f b l c=.ok ()->CR P c:=by
 intro c
 induction c with
 |region id AU m=>
  intro b l h k;subst k;simp only[CheckCode.code,CheckCode.region] at h;let⟨_,_,h⟩:=Ej h;let⟨_,_,h⟩:=Ej h;exact XV h
 |seq x y a d=>
  intro b l h;simp only[CheckCode.code] at h;let⟨⟨⟩,e,i⟩:=Ej h;exact⟨a _ _ e,d _ _ i⟩
 |cond n x y a d=>
  intro b l h;simp only[CheckCode.code] at h;let⟨_,_,h⟩:=Ej h;let⟨⟨⟩,e,i⟩:=Ej h;exact⟨a _ _ e,d _ _ i⟩
 |block id c j=>intro b l h;simp only[CheckCode.code] at h;exact j _ _ h
 |loop c j=>intro b l h;simp only[CheckCode.code] at h;exact j _ _ h
 |scope c j=>intro b l h;simp only[CheckCode.code] at h;exact j _ _ h
 |rangeFunc g ps x y a d=>
  intro b l h;simp only[CheckCode.code] at h;let⟨_,_,h⟩:=Ej h;let⟨_,_,h⟩:=Ej h;let⟨_,_,h⟩:=Ej h;let⟨⟨⟩,e,i⟩:=Ej h;exact⟨a _ _ e,d _ _ i⟩
 |_=>intro b l h;exact trivial
def IT (h:P.check=.ok ()) {c:DC} (b:P.funcs[f]?=I fn) (hb:fn.body=I c):CR P c:=by
 unfold Program.check at h;let⟨⟨⟩,d,_⟩:=Ej h;have e:f<P.funcs.size:=by
  rcases A8 f P.funcs.size with h|h
  .exact h
  .rw[Dr h] at b;cases b
 have a:=Zt d f (dX.2 e);unfold CheckCode.funcAt at a;rw[b] at a;replace a:=Abv a;unfold CheckCode.func at a;let⟨_,_,a⟩:=Ej a;let⟨_,_,a⟩:=Ej a;let⟨_,_,a⟩:=Ej a;rw[hb] at a;simp only at a;let⟨_,_,a⟩:=Ej a;let⟨⟨⟩,g,_⟩:=Ej a;exact XO c _ _ g
end
section
variable{P:AN} {τ:Bb}
def Ve (P:AN) (f:Au) (e:Array Aa->Sem Aa):Prop:=
 ∃fn,P.funcs[f]?=I fn/\(fn.name== "runtime.NumGoroutine")=Ah/\fn.body.isNone=Ag/\Extern.findNext fn=Z/\Extern.find fn=I e
def J8 (P:AN) (f:Au):KS->Prop
 |.aU=>Ve P f Extern.AbiNoEscape.same
 |.indexByte=>Ve P f Extern.BytealgIndexByte.indexByte
 |.count=>Ve P f Extern.BytealgCount.count
 |.makeNoZero e=>∃ps t,Ve P f (Extern.BytealgMakeNoZero.makeNoZero ps #[t])/\P.underlying t=I (.slice e)/\∃i,P.info? e=I i/\i.size=1
 |_=>False
def Nx {e:Array Aa->Sem Aa} (h:Ve P f e) {args:Array Aa} (a:(e args).run P w=.ok v w'):
 (callFunc f args).run P w=.ok (.value v) w':=by
 let⟨fn,b,c,d,g,i⟩:=h;rw[run_callFunc_extern b c d g i,a];rfl
def Aio (s:Bd) (c:UInt8):firstIdx s c=(match s.data.toList.findIdx? (·==c) with|some i=>(i:Int)|none=>-1):=by
 have b:∀i,i<aL s->s[i]! =s.data.toList[i]?.getD default:=by
  intro i U;have d:i<LT s.data.toList:=Jq
  rw[getElem!_pos s i U,Ab d];rfl
 have m:(BG s.size).find? (λi=>s[i]! ==c)=s.data.toList.findIdx? (·==c):=by
  have l:aL s=LT s.data.toList:=Jq
  cases a:s.data.toList.findIdx? (·==c) with
  |none=>
   rw[List.findIdx?_eq_none_iff] at a;rw[List.find?_eq_none];intro i U;have U:=dX.1 U;rw[b i U,Ab G];have:=a s.data.toList[i] (Bu _);simpa using this
  |some k=>
   rw[List.findIdx?_eq_some_iff_getElem] at a;let⟨e,f,g⟩:=a;rw[List.find?_range_eq_some];refine⟨?_,dX.2 G,?_⟩
   .rw[b k G,Ab e];exact f
   .intro j h
    rw[b j G,Ab G];have:=g j h;simpa using this
 unfold firstIdx;rw[m];cases s.data.toList.findIdx? (·==c)<;>rfl
def S5 (c:UInt8):∀(l:Bl) (n:Nat),l.foldl (λn x=>if x==c then n+1 else n) n=n+Lib.countByte l c
 |[],n=>Jq
 |b::l,n=>by
  rw[F7,S5 c l];unfold Lib.countByte;rw[List.count_cons];split<;>simp_all<;>omega
def nZ (T:BM P τ) {e:KS} (k:J8 P f e) (j:C5 P τ ρ h w) (a:LR ρ args AP) (b:R6 τ e args h=I (v,J)):
 B6 P τ ρ h w (callFunc f ⟨AP⟩) v J:=by
 unfold R6 at b;split at b
 .cases b
  cases a with|cons g a=>cases a with|nil=>
  exact B6.pure j (Nx k B) g
 .rename_i s c
  cases a with|cons g a=>cases a with|cons l a=>cases a with|nil=>
  cases g;cases l;have d:=run_indexByte_string (P:=P) s c w;rw[Aio] at d;have m:c.toNat.toUInt8=dR c.toNat:=B;rw[m] at d;split at b
  .rename_i i U
   rw[U] at d;cases b;exact B6.pure j (Nx k d) (.int _ _)
  .rename_i U
   rw[U] at d;cases b;exact B6.pure j (Nx k d) (.int _ _)
 .rename_i s c
  cases a with|cons g a=>cases a with|cons l a=>cases a with|nil=>
  cases g;cases l;cases b;have d:=Lib.run_countString (P:=P) s c w;have m:Lib.countByte (aI s.data) c.toNat.toUInt8=s.data.toList.foldl (λn x=>if x==dR c.toNat then n+1 else n) 0:=(by rw[S5,Ba])
  rw[m] at d;exact B6.pure j (Nx k d) (.int _ _)
 .rename_i e n
  replace b:=C1 b;let⟨hb,b⟩:=b;have hb:=Hb hb;cases b;cases a with|cons g a=>cases a with|nil=>
  cases g;let⟨ps,t,q,r,i,u,y⟩:=k;let⟨cs,d,C,_⟩:=Lib.run_makeNoZero w ps t e r n G;have D:=Ren.M (j.1.fresh h.a (Ae _)) ⟨w.heap.size,0,cs.size-n⟩;let⟨z,A⟩:=j.drew.drew.alloc (.cells cs e) (.cells .nil n e 0 0 Ah) (cs.size-n) (by
   refine⟨cs,(0,0),Ca w.drew.drew _,by simp;omega,λE o=>?_,λi v p=>?_,.inl B,λh=>(by cases h)⟩
   .rw[u] at o;cases o;rw[y];simp;omega
   .rw[Ev.T.C] at p;cases p)
  refine B6.made (Nx q d) (GD (Ren.C _ _) B n cs.size Jq) z ?_ (WS.le_refl _);exact A.M.M
 .cases b
end
section
variable{P:AN} {τ:Bb}
def IP (P:AN) (f:Au):Prop:=
 ∃(fn:BC) (t u s:Tmp) (T:Ai) (b:DC) (a c d e g h i j:Nat) (k l m:String) (n o p:Array Edge) (q:Array Ai),
  P.funcs[f]?=I fn/\(fn.name== "runtime.NumGoroutine")=Ah/\fn.results=#[]/\t<fn.ntmps/\u<fn.ntmps/\P.underlying T=I (.interface #[])/\
  fn.body=I (.seq (.region a #[⟨I t,.call ⟨.builtin .recover,#[],q⟩,g,k,n,Z⟩] Ah)
   (.block c (.seq (.region d #[⟨I u,.binOp .eql T (.tmp t) (.const .nilIface) j,h,l,o,Z⟩] Ah)
    (.cond (.tmp u) (.region e #[⟨I s,.assign (.tmp t),i,m,p,Z⟩] Ah) b))))
def Pw (T:BM P τ) (d:IP P f) (G:Array Aa) (w:AM):
 (callFunc f G).run P w=.ok (.enter f G) w/\
 CallsDIn Fence.wide 0 P f G .returning w λe g w'=>(∃v,e=.returned v)/\settle g=.returning/\w'=w:=by
 obtain⟨fn,t,u,s,h,b,y,z,A,C,D,E,F,H,K,L,M,N,O,Q,R,a,i,j,k,l,m,hb⟩:=d;have n:fn.name≠ "runtime.NumGoroutine":=by simpa using i
 refine⟨by simp[callFunc,a,n,hb,gN],?_⟩;refine callsDIn_of_wpSIn a hb (by simp[Fence.wide]) λo cs p=>?_;apply wpSIn_seq;apply wpSIn_region;have c:fn.ntmps<=(G++Cz (fn.ntmps-G.size) undef).size:=by rw[uO,ZB];omega
 have q:t<(G++Cz (fn.ntmps-G.size) undef).size:=AC k c;have r:u<(G++Cz (fn.ntmps-G.size) undef).size:=AC l c;generalize(G++Cz (fn.ntmps-G.size) undef)=S at*;simp[wpOpsSIn,go_sem,recoverD,p,Exit.thenS];refine wpSIn_of_wpIn B (wpIn_block (wpIn_seq (wpIn_region ?_)));simp[wpOpsIn,go_sem,Exit.then,q]
 have x:(binOp .eql h .nilIface .nilIface).run P w=.ok (.bool Ag) w:=by
  have:=LI (w:=w) m;simp only[binOp,Op.equal,AI];simp[Op.equal,this]
 rw[x];simp only[Aw,Oper.uponIn_value];refine wpIn_cond_true (by simp[Act.eval,Act.put,r]) (wpIn_region ?_);simp[wpOpsIn,go_sem,Exit.inBlock,bodyPostS,results,j];exact⟨.returning,by cases o;simp_all,B⟩
def uK (T:BM P τ) {dv:Au->Option (AH->Y->Option Y)} (h:∀f g,dv f=I g->IP P f/\g=λ_ h=>I h):mW P τ dv:=by
 intro f g b args o h0 J ρ w a m c;obtain⟨d,rfl⟩:=h f g b;cases c;let⟨i,j⟩:=Pw T d ⟨o⟩ w;refine⟨i,j.mono λe n w' ⟨k,l,rfl⟩=>?_⟩;exact⟨k,l,ρ,a,RF.refl a⟩
end
section
variable{P:AN}
def Aiu {b:Type} (f:b->Option c):∀(t:T b) (i:Nat),(jb f t).get i=(t.get i).bind f:=by
 intro t
 induction t with
 |nil=>intro i;rfl
 |node l v r d e=>
  intro i;show(T.node (jb f l) (v.bind f) (jb f r)).get i=_;cases i with
  |zero=>rw[T.aB,T.aB]
  |succ j=>
   rw[T.au,T.au];by_cases a:j%2=0
   .rw[Bi a,Bi a];exact d _
   .rw[Bm a,Bm a];exact e _
def Ud {i:KR} (h:P.types.toList[t]?=I i):P.info? t=I i:=by
 have a:P.types[t]?=I i:=by simpa using h
 have b:¬P.types.size<=t:=λc=>by rw[Dr c] at a;cases a
 have:P.info? t=P.types[t]?:=by simp[Tables.info?,b]
 rw[this,a]
def Ary {j:T KS} {e:Bo} (l:P.funcs.toList.all (λx=>!x.body.isSome||!(x.name== "runtime.NumGoroutine"))=Ag)
 (m:e.all (λt=>!P.stoodInHeld t&&!P.eqGuardType P.depth t)=Ag) (n:P.follows .mixedOrders=Ag):BM P (ug P j e k):={
 fn:=λf x q=>by
  replace q:(T.table 14 (aI P.funcs)).get f=I x:=q;have b:=T.a2 _ _ _ _ q;refine⟨Jq,λhb=>?_⟩;have c:=Jf.1 l x (AZ b);rw[hb] at c;simpa using c
 ds:=λt d a=>by
  replace a:(jb _ (T.table 14 (aI P.types))).get t=I d:=a;rw[Aiu] at a;cases U:(T.table 14 (aI P.types)).get t with
  |none=>rw[U] at a;cases a
  |some i=>
   rw[U] at a;have b:=T.a2 _ _ _ _ U;have c:=Ud b;unfold Program.underlying;rw[c];simp only[CC] at a;obtain⟨o⟩:=i;cases o with
   |named p u=>
    simp only at a⊢;cases g:(T.table 14 (aI P.types)).get u with
    |none=>rw[g] at a;cases a
    |some i=>
     rw[g] at a;have b:=T.a2 _ _ _ _ g;have c:=Ud b;rw[c];exact a
   |_=>exact a
 b:=λt i U=>by
  replace U:(T.table 14 (aI P.types)).get t=I i:=U;have b:=T.a2 _ _ _ _ U;exact Ud b
 eq:=λt h=>by
  replace h:e.any (Am t)=true:=h;let⟨x,q,b⟩:=List.any_eq_true.1 h;have:=Af b;subst this;have:=Jf.1 m _ q;simpa using this
 mixed:=n}
end
def Mv {b:Type} (f:Nat):List (Nat×b)->Option b
 |[]=>Z
 |(g,a)::l=>bif Am g f then I a else Mv f l
def iJ (fn:BC) (i:Nat):Code:=match fn.body with
 |I c=>(IC c).getD i .skip
 |Z=>.skip
section
variable{P:AN} {τ:Bb}
def JH {c:Type} {f:Nat} {a:c}:∀{l:List (Nat×c)},Mv f l=I a->(f,a)∈l
 |(g,b)::l,h=>by
  simp only[Mv] at h;cases hb:Am g f with
  |true=>
   rw[hb] at h;have:=Af hb;subst this;cases h;exact Av
  |false=>rw[hb] at h;exact Az _ (JH h)
def zZ (T:BM P τ) {f:Nat} {x:Lc} {b:BC} (e:P.funcs[f]?=I b) (h:J1 P τ x (iJ b i)) (fn:BC) (c a:DC) (g:τ.fn.get f=I fn) (hb:fn.body=I c) (j:(IC c)[i]?=I a):
 J1 P τ x a:=by
 have d:=(T.fn _ _ g).1;rw[e] at d;cases d;unfold iJ at h;rw[hb] at h;have:(IC c).getD i .skip=a:=Jq
 simp only[this] at h;exact h
def Kf {a:Type} {f:Nat}:∀{l:List (Nat×a)},(∀p∈l,p.1≠f)->Mv f l=Z
 |[],_=>rfl
 |p::l,h=>by
  rw[Mv,MK.2 λe=>h p Av (Af e),Kf λq b=>h q (Az _ b)];rfl
structure MO (P:AN) (τ:Bb) (f:Au) (g:Be->AH->Y->Jl):Prop where
 go:∀(call:Be),C8 P τ call->∀(args AP:AH) (h J:Y) (v:Aa) (ρ:Ren) (w:AM),C5 P τ ρ h w->LR ρ args AP->g call args h=I (v,J)->
 ∀(k kp:Aa->Y->RR) (outs:List EO),k v J=I outs->Hk P (callFunc f ⟨AP⟩) w (Ho P τ ρ w h k kp outs)
def QY:∀{l:List E2},(∀M∈l,JZ P τ f M)->MO P τ f (Vh τ l)
 |[],_=>⟨λ_ _ _ _ _ _ _ _ _ _ _ a=>Jq⟩
 |M::l,c=>⟨λcall g args j h J v ρ w d e a=>by
  simp only[Vh] at a;cases b:QG τ M args h with
  |some r=>rw[b] at a;cases a;exact uS (c M Av) d e b
  |none=>rw[b] at a;exact (QY λM i=>c M (Az _ i)).go call g _ _ _ _ _ _ _ d e a⟩
def TJ (P:AN) (τ:Bb) (f e:Nat):Prop:=∃a:Go.Shelf.Ren,Go.Proofs.SlLaysF0.n6 P a/\a.f 6=f/\a.t 24=e/\(∀w,(isAgg e).run P w=.ok Ag w)/\EV τ f=Ag
def uL (T:BM P τ) {S:A9} (a:JX P τ S) (L n:Nat):C8 P τ (QJ τ S L n):=by
 rw[Aig];exact JL T a (Va T S) (λc b=>J6 T b) L n
end
def TD:DC->List (Nat×Array C0)
 |.region i AU _=>[(i,AU)]
 |.seq a b=>TD a++TD b
 |.cond _ a b=>TD a++TD b
 |.block _ c=>TD c
 |.loop c=>TD c
 |.scope c=>TD c
 |_=>[]
def AAj (c:DC) (i:Nat):Nat:=((TD c).getD i (0,#[])).1
def kA (c:DC) (i:Nat):Array Oper:=((TD c).getD i (0,#[])).2
def VL (τ:Bb) (t:Ai) (i o:Nat):Bool:=match τ.ds.get t with
 |I (.struct b)=>(match b.toList[i]? with
  |I a=>(match τ.b.get a.type with
   |I c=>!(Am c.size 0)&&Am a.offset o
   |Z=>Ah)
  |Z=>Ah)
 |_=>Ah
def bs (l:Bo):AH:=l.map λn=>.int .u8 (.ofNat n)
section
variable{P:AN} {τ:Bb}
def Ahq {o:Nat} (h:VL τ t i o=Ag):∃b a c,τ.ds.get t=I (.struct b)/\b.toList[i]?=I a/\τ.b.get a.type=I c/\c.size≠0/\a.offset=o:=by
 unfold VL at h;split at h
 case h_2=>cases h
 rename_i b e;split at h
 case h_2=>cases h
 rename_i a f;split at h
 case h_2=>cases h
 rename_i c g;let⟨d,j⟩:=Dh h;refine⟨b,a,c,e,f,g,λk=>?_,Af j⟩;rw[k] at d;cases d
def Ok (T:BM P τ) (b:∀f e,τ.ex.get f=I e->J8 P f e) (d:P.check=.ok ()):JX P τ S0:={
 a:=λf g a=>Jq
 b:=λf g a=>Jq
 ex:=λf e i args m h J v ρ w hk j k=>nZ T (b f e i) hk j k
 cr:=λf fn c l hb=>IT d (T.fn _ _ l).1 hb
 c:=λf g a=>Jq
 hk:=λf g a=>by cases a}
def Aue (T:BM P τ) (f:JX P τ S0) {c:DC} {a:Au} {g h:Ai} {o:Nat} {b d e:Tmp} {i j:Array C0} (k:c=.region (AAj c 0) (kA c 0) Ah)
 (l:YB τ a fn i j g h t3 o) (m:vd τ (kA c 0) a b d e t3'):J1 P τ (HG b d e o) c:=
 (Cs (J1 P τ _) k).mpr (XX T f l m)
def Ht:∀M∈([]:List E2),JZ P τ f M:=λM a=>Cf a (KX)
def ES {l:List E2} (h:JZ P τ f M) (b:∀M∈l,JZ P τ f M):∀N∈M::l,JZ P τ f N:=λN a=>by
 cases a with
 |head=>exact h
 |tail _ a=>exact b N a
def Arc {t:Nat} (h:(match P.info? t with|some i=>Am i.size 1|none=>Ah)=Ag):∃a,P.info? t=I a/\a.size=1:=by
 split at h
 .rename_i i U;exact⟨i,U,Af h⟩
 .cases h
def XH {t:Nat} (h:(match P.underlying t with|some (.struct _)=>Ag|_=>Ah)=Ag) (w:AM):(isAgg t).run P w=.ok Ag w:=by
 split at h
 .rename_i b a;simp[isAgg,aA a]
 .cases h
end
def YA (f:JO Unit->Option AH):List (JO Unit)->Option (List AH)
 |[]=>I []
 |d::l=>match f d,YA f l with
  |I a,I r=>I (a::r)
  |_,_=>Z
def YK (P:AN) (f:Ai->JO Unit->Option AH):Nat->List Field->List (JO Unit)->Option AH
 |_,[],[]=>I []
 |off,b::c,d::ds=>match f b.type d with
  |I a=>bif Am b.offset off&&Am (LT a) (P.cellsOf b.type) then(match YK P f (off+P.cellsOf b.type) c ds with
   |I r=>I (a++r)
   |Z=>Z) else Z
  |Z=>Z
 |_,_,_=>Z
def Vd (P:AN):Nat->Ai->JO Unit->Option AH
 |0,_,_=>Z
 |n+1,t,d=>match P.underlying t with
  |I (.int _)=>(match d with|.lit (.int k m)=>I [.int k m]|_=>Z)
  |some .bool=>(match d with|.lit (.bool b)=>I [.bool b]|_=>Z)
  |some .string=>(match d with|.lit (.string l)=>I [.string ⟨⟨l⟩⟩]|_=>Z)
  |I (.array m e)=>(match d with
   |.agg ds=>(match YA (Vd P n e) ds with
    |I a=>bif Am (P.cellsOf t) (m*P.cellsOf e)&&a.all (λl=>Am (LT l) (P.cellsOf e)) then I a.flatten else Z
    |Z=>Z)
   |_=>Z)
  |I (.struct c)=>(match d with
   |.agg ds=>(match YK P (Vd P n) 0 (aI c) ds with
    |I l=>bif Am (P.cellsOf t) (LT l) then I l else Z
    |Z=>Z)
   |_=>Z)
  |_=>Z
section
variable{P:AN}
def S8 {f:JO Unit->Option AH}:∀{ds:List (JO Unit)} {b:List AH},YA f ds=I b->LT b=LT ds/\∀(i:Nat) (d:JO Unit),ds[i]?=I d->∃l,b[i]?=I l/\f d=I l
 |[],b,h=>by cases h;exact⟨B,λi d c=>by simp at c⟩
 |d::ds,b,h=>by
  simp only[YA] at h;split at h
  case h_2=>cases h
  rename_i a r e g;cases h;let⟨j,k⟩:=S8 g;refine⟨Jq,λi m c=>?_⟩;cases i with
  |zero=>cases c;exact⟨a,B,e⟩
  |succ i=>rw[B5] at c⊢;exact k i m c
def vE {d:Type} {c:Nat}:∀{a:List (List d)} {cs:List d},LT cs=LT a*c->(∀i l,a[i]?=I l->(cs.drop (i*c)).take c=l)->cs=a.flatten
 |[],cs,b,_=>Jq
 |l::a,cs,b,h=>by
  have h0:=h 0 l B;simp at h0;have e:cs.drop c=a.flatten:=vE (c:=c) (by simp[b,Dw]) (λi x f=>by
   have:=h (i+1) x (by simpa using f);rw[GR,UK c,←Nat.succ_mul];exact this)
  rw[JR,←h0,←e,FO]
def DU {base:Nat} {k:Nat->Bool} {n:Bool} {f:Ai->JO Unit->Option AH}
 (o:∀(t:Ai) (cs l:AH) (x:JO Unit×List IY),jQ (λ_=>()) P w base k n m t cs=I x->f t x.1=I l->cs=l) (cs:AH):
 ∀(c:List Field) (xs:List (JO Unit×List IY)) (off:Nat) (l:AH),LT xs=LT c->
  (∀(i:Nat) (b:Field),c[i]?=I b->jQ (λ_=>()) P w base k n m b.type ((cs.drop b.offset).take (P.cellsOf b.type))=xs[i]?)->
  YK P f off c (xs.map (·.1))=I l->(cs.drop off).take (LT l)=l
 |[],[],off,l,_,_,h=>by cases h;simp
 |b::c,x::xs,off,l,d,p,h=>by
  simp only[Bp,YK] at h;split at h
  case h_2=>cases h
  rename_i a s;let⟨u,h⟩:=C1 h;let⟨e,g⟩:=Dh u;have e:=Af e;have g:=Af g;split at h
  case h_2=>cases h
  rename_i r v;cases h;have y:=p 0 b B;have j:=o _ _ _ _ y s;have q:=DU o cs c xs _ r Jq (λi z A=>by have:=p (i+1) z (by simpa using A);simpa using this) v;rw[←g] at j q;rw[e] at j;rw[Aj,qM,j,GR,q]
 |[],_::_,_,_,d,_,_=>Jq
 |_::_,[],_,_,d,_,_=>Jq
def Aij {L:Nat->Bool} {M:Bool}:∀(n p:Nat) (t:Ai) (cs l:AH) (x:JO Unit×List IY),jQ (λ_=>()) P w base L M p t cs=I x->Vd P n t x.1=I l->cs=l:=by
 intro n
 induction n with
 |zero=>intro p t cs l x _ h;cases h
 |succ n A=>
  intro p t cs l x o h;simp only[Vd] at h;split at h
  .rename_i k g
   obtain⟨m,rfl,rfl,_⟩:=DataW.trod_int g o;cases h;rfl
  .rename_i g
   obtain⟨b,rfl,rfl⟩:=DataW.trod_bool g o;cases h;rfl
  .rename_i g
   obtain⟨s,rfl,rfl,_⟩:=DataW.trod_string g o;cases h;rfl
  .rename_i m e g
   obtain⟨xs,q,rfl,rfl,u,v,U⟩:=DataW.trod_array g o;simp only at h;split at h
   case h_2=>cases h
   rename_i C N;let⟨y,h⟩:=C1 h;cases h;let⟨j,D⟩:=Dh y;have j:=Af j;let⟨E,O⟩:=S8 N;simp only[A4] at E;refine vE (by rw[u,j,E,v]) λi a z=>?_;have Q:i<m:=by
    have:i<LT C:=by
     rcases A8 i (LT C) with h|h
     .exact h
     .rw[CD h] at z;cases z
    omega
   have F:=U i Q;obtain⟨d,H⟩:∃d,xs[i]?=I d:=⟨xs[i]'G,Ab G⟩;let⟨a',K,R⟩:=O i d.1 Jq;rw[z] at K;cases K;rw[H] at F;exact A _ _ _ _ _ F R
  .rename_i S g
   obtain⟨xs,q,rfl,rfl,u,v,U⟩:=DataW.trod_struct g o;simp only at h;split at h
   case h_2=>cases h
   rename_i r T;let⟨y,h⟩:=C1 h;cases h;have j:=Af y;have:=DU (λt cs l x j D=>A _ t cs l x j D) cs (aI S) xs 0 l Jq (λi f V=>U i f Jq) T;rw[dQ,←j,←u,CS] at this;exact this
  .cases h
end
section
variable{P:AN} {w:AM}
def LC {a:Array Obj} {x:Obj} (h:i<a.size):(a.push x)[i]?=a[i]?:=by
 rw[kN,Bm G]
def Abe {b:Global} (a:P.globals[g]?=I b):∃zero,((begin P (λ_ _=>0) default).world.heap[g]?).bind Obj.row?=I (zero,b.type):=by
 have c:g<P.globals.size:=by
  rcases A8 g P.globals.size with h|h
  .exact h
  .rw[Dr h] at a;cases a
 have d:P.globals[g]=b:=by
  rw[By c] at a;exact I.inj a
 unfold begin;simp only;rw[LC Jq,LC Jq,LC Jq,LC Jq,LC Jq,ix,a];simp only[Ek,CC];split<;>exact⟨_,B⟩
def NT (c:w.ShapedOpen P) {a:Global} (b:P.globals[g]?=I a):∃cs,w.heap[g]?=I (.cells cs a.type):=by
 let⟨zero,d⟩:=Abe b;have e:g<P.globals.size:=by
  rcases A8 g P.globals.size with h|h
  .exact h
  .rw[Dr h] at b;cases b
 let⟨cs,f,_⟩:=c.1 g zero a.type e d;exact⟨cs,f⟩
def SD:∀{e:List (String×JO Unit)} {ps:List IY},DataW.LaidVars P w e ps->∀{b:String} {d:JO Unit},(b,d)∈e->
 ∃g t cs c p,P.globalNamed b=I g/\(P.globals[g]?).map (·.type)=I t/\w.var? P b=I cs/\jQ (λ_=>()) P w 0 (λ_=>Ag) Ah c t (aI cs)=I (d,p)
 |[],_,_,_,_,a=>Cf a (KX)
 |(n,d0)::r,ps,h,b,d,a=>by
  let⟨g,t,cs,c,p,q,f,i,j,k,l,_⟩:=h;cases a with
  |head=>exact⟨g,t,cs,c,p,f,i,j,k⟩
  |tail _ a=>exact SD l a
def FK (m:w.ShapedOpen P) {c:List (String×JO Unit)} (o:laidMet P c w) {b:String} {d:JO Unit} (q:(b,d)∈c) {a:Global} (e:P.globalNamed b=I g) (f:P.globals[g]?=I a) (r:Vd P n a.type d=I l):w.heap[g]?=I (.cells ⟨l⟩ a.type):=by
 let⟨ps,s,_⟩:=o;let⟨z,t,cs,u,p,h,i,j,v⟩:=SD s q;rw[e] at h;cases h;rw[f] at i;cases i;let⟨x,k⟩:=NT m f;have y:w.var? P b=I x:=by simp only[World.var?,e,CC,k]
 rw[y] at j;cases j;have:=Aij n u a.type (aI cs) l _ v r;rw[k,←this]
def Jr (a:Nat):Ren:=λi=>if i<a then I ⟨i,0,0⟩ else Z
def H9 (P:AN) (w:AM):List (Nat×CB)->Prop
 |[]=>True
 |(g,b)::l=>(∃vs e,b=.cells vs e 0 0 Ag/\vs.all aJ=Ag/\w.heap[g]?=I (.cells ⟨vs⟩ e))/\H9 P w l
def Io:∀{l:List (Nat×CB)},H9 P w l->∀{g:Nat} {b:CB},(g,b)∈l->∃vs e,b=.cells vs e 0 0 Ag/\vs.all aJ=Ag/\w.heap[g]?=I (.cells ⟨vs⟩ e)
 |[],_,_,_,a=>Cf a (KX)
 |_::_,h,_,_,a=>by
  cases a with
  |head=>exact h.1
  |tail _ a=>exact Io h.2 a
end
section
variable{P:AN} {τ:Bb}
structure QR (w w':AM):Prop where
 size:w.heap.size<=w'.heap.size
 same:∀b,b<w.heap.size->w'.heap[b]?=w.heap[b]?
 os:w'.os=w.os
 out:w'.output=w.output
 tape:w'.tape=w.tape
def Alf (h:P.funcs.any Func.goes=Ah) (f:Au):P.goes f=false:=by
 have a:∀g:Au,(P.funcs[g]?).any Func.goes=false:=λg=>by
  cases b:P.funcs[g]? with
  |none=>rfl
  |some fn=>
   rw[Array.any_eq_false] at h;let⟨c,d⟩:=dM.1 b;have:=h g c;rw[d] at this;simpa using this
 unfold Program.goes;rw[h,Bool.and_false,Bool.or_false,List.any_eq_false];intro g _;simp[a g]
def Aby {c:OpenClaim} (h:P.funcs.any Func.goes=Ah) (a:c.start=.entering):Ah=c.goesBy P:=by
 unfold OpenClaim.goesBy Program.goesAt Program.goesFrom;rw[a];cases P.funcNamed c.func with
 |none=>rfl
 |some f=>simp[Alf h f]
end
def nX:Be:=λ_ _ _ _ _=>Z
def js (τ:Bb) (fn:BC) (c:DC) (t:Tmp):AH->Aa->Y->Option Y:=λb v h=>match GA b fn.ntmps with
 |I a=>(match B7 τ nX 1 Z c {n:=λfr h=>I [.aE fr h],x:=λ_ _ _=>Z,r:=λ_ _=>Z,p:=λ_ _ _=>Z} ⟨a.M.ins t v,a.sz,a.ds⟩ h with
  |I [.aE Ec J]=>bif Ec.ds.isEmpty then I J else Z
  |_=>Z)
 |Z=>Z
section
variable{P:AN} {τ:Bb}
def YU:C8 P τ nX:=λ_ _ _ _ _ _ _ _ _ _ _ _ _ a=>Jq
def vp (T:BM P τ) {c:DC} {t ty:Nat} {m:String} {n:Array Edge} {o:Array Ai} (g:τ.fn.get f=I fn)
 (hb:fn.body=I (.seq (.region k #[⟨I t,.call ⟨.builtin .recover,#[],o⟩,ty,m,n,Z⟩] Ah) c)) (p:fn.results=#[]) (q:t<fn.ntmps) (r:CR P c)
 (args G:AH) (v U:Aa) (h J:Y) (ρ:Ren) (w:AM) (s:C5 P τ ρ h w) (u:LR ρ args G) (x:VR ρ v U) (a:js τ fn c t args v h=I J):
 (callFunc f ⟨G⟩).run P w=.ok (.enter f ⟨G⟩) w/\
 CallsDIn Fence.wide 0 P f ⟨G⟩ (.panicking [{v:=U,recovered:=Ah}]) w λe y w'=>(∃v,e=.returned v)/\settle y=.returning/\∃C2,C5 P τ C2 J w'/\RF ρ w h C2 w' J:=by
 unfold js at a;split at a
 case h_2=>cases a
 rename_i d z;split at a
 case h_2=>cases a
 rename_i Ec O A;replace a:=C1 a;obtain⟨C,a⟩:=a;cases a;obtain⟨f1,f2⟩:=NW u z;have D:fn.body.isSome=true:=by rw[hb];rfl
 refine⟨MuLone.run_callFunc_enter (P:=P) (T.fn _ _ g).1 ((T.fn _ _ g).2 D) hb ⟨G⟩ w,?_⟩;refine callsDIn_of_wpSIn (T.fn _ _ g).1 hb (by simp[Fence.wide]) λQ cs E=>?_;apply wpSIn_seq;apply wpSIn_region;have F:fn.ntmps<=((⟨G⟩:Array Aa)++Cz (fn.ntmps-(⟨G⟩:Array Aa).size) undef).size:=by rw[uO,ZB];omega
 have st:St P τ ρ ⟨d.M.ins t v,d.sz,d.ds⟩ h {tmps:=((⟨G⟩:Array Aa)++Cz (fn.ntmps-(⟨G⟩:Array Aa).size) undef).setIfInBounds t U,defers:=[]} w:=
  ⟨s,TR.put f1 x (by rw[show d.sz=_ from f1.1];exact AC q F),by show DR ρ d.ds [];rw[f2];exact .nil⟩
 generalize((⟨G⟩:Array Aa)++Cz (fn.ntmps-(⟨G⟩:Array Aa).size) undef)=R at*;simp[wpOpsSIn,go_sem,recoverD,E,Exit.thenS];refine wpSIn_of_wpIn B ?_;refine wpIn_mono (GP T YU (J6 T YU) 1 c r (ro:=Z) (ro':=Z) st trivial A) λe a1 S H=>?_;let⟨K,fr1,V,W,j,L,M,b⟩:=H;cases e with
 |normal=>
  cases b;have:=M Av;cases bQ.1 this;have i:=j.ds;rw[List.isEmpty_iff.1 C] at i;have N:a1.defers=[]:=by generalize a1.defers=l at i;cases i;rfl
  refine⟨N,_,B,.tuple #[],?_,⟨_,B⟩,B,K,j.hk,L⟩;simp[results,p]
 |exit id=>cases b
 |goto l=>exact b.elim
 |ret=>cases b
 |panic X=>let⟨_,_,_,_,b⟩:=b;cases b
 |outgrown=>exact b.elim
end
section
variable{P:AN} {τ:Bb}
open Classical in
def sQ (h:Y) (v:Aa):Aa->Y->RR:=λv' J=>if v'=v/\J.lo.C h.a=Ag then I [] else Z
def Z8 (n:C8 P τ call) {o:List EO} (p:call (.func f) args h.ad (sQ h v) (λ_ _=>Z)=I o) (m:DG v=Ag) (i:C5 P τ ρ h w) (q:LR ρ args AP) {k:Aa->Y->RR} (r:k v h=I outs):Hk P (callFunc f ⟨AP⟩) w (Ho P τ ρ w h k kp outs):=by
 refine(n (.func f) (.func f) args AP h.ad _ _ _ ρ w i (.func f) q p).mono λs w' j=>?_;cases s with
 |outgrown=>exact j
 |panicked L=>let⟨_,_,_,_,_,_,_,_,_,hb,_⟩:=j;cases hb
 |returned v'=>
  let⟨M,N,t,O,u,Q,x,l,R⟩:=j;unfold sQ at l;split at l
  case isFalse=>cases l
  rename_i d;obtain⟨rfl,y⟩:=d;have a:=x.a;have z:∀c pl',t.lo.has c->ρ c=I pl'->False:=λc pl' A g=>by
   rcases A8 c h.a with d|d
   .exact GO y d A
   .rw[i.1.fresh c d] at g;cases g
  have hb:=λb hb=>a.O b hb λC D E F=>(z C D E F).elim;have e:=u.M m;subst e;exact⟨ρ,_,_,outs,.ak m,i.grow a.size hb,⟨⟨λ_ _=>B,a.size,λb hb' _=>hb b hb',λc pl' H g=>(by rw[i.1.fresh c H] at g;cases g),Ae _,a.os,a.out,a.tape,a.drawn⟩,AF.refl _⟩,r,λ_ K=>K⟩
end
end
end
end Go.Ev
namespace Go.Proofs
open Go.Shelf
def tf (P:AN) (i:Nat):String:=match P.funcs[i]? with|some f=>f.name|none=>""
theorem P6 {P:AN} {i:Nat} {a:BC} (b:(tf P i=="runtime.NumGoroutine")=Ah) (c:P.funcs[i]?=I {a with name:=tf P i}):Bears P i a:=⟨_,b,c⟩
def Tryz.bR:Go.Shelf.Ren:=⟨λ|6=>126|15=>207|14=>206|28=>296|29=>258|20=>288|21=>289|22=>290|23=>291|24=>292|25=>293|26=>294|27=>295|46=>349|47=>350|48=>351|49=>352|50=>353|57=>384|n=>n,λ|22=>72|24=>109|25=>228|3=>3|39=>234|0=>0|53=>324|55=>194|4=>4|46=>429|45=>428|50=>152|5=>5|9=>9|66=>468|70=>471|76=>496|77=>425|n=>n,λ|n=>n⟩
theorem Tryz.dg:Go.Proofs.SlLaysF0.n6 Tryz.prog Tryz.bR:=by
 constructor<;>first|exact P6 (by kernel_rfl) (by kernel_rfl)|(intro w;kernel_rfl)|kernel_rfl
def Tryz.bT:Go.Shelf.Ren:=⟨λ|6=>164|15=>207|14=>255|28=>296|29=>258|20=>325|21=>326|22=>327|23=>328|24=>329|25=>330|26=>331|27=>332|46=>374|47=>350|48=>351|49=>375|50=>376|57=>407|n=>n,λ|22=>24|24=>90|25=>293|3=>3|39=>234|0=>0|53=>324|55=>194|4=>4|46=>429|45=>428|50=>152|5=>5|9=>9|66=>468|70=>471|76=>496|77=>425|n=>n,λ|n=>n⟩
theorem Tryz.c9:Go.Proofs.SlLaysF0.n6 Tryz.prog Tryz.bT:=by
 constructor<;>first|exact P6 (by kernel_rfl) (by kernel_rfl)|(intro w;kernel_rfl)|kernel_rfl
def Tryz.bY:Go.Shelf.Ren:=⟨λ|6=>345|15=>207|14=>382|28=>296|29=>258|20=>409|21=>410|22=>411|23=>412|24=>413|25=>414|26=>415|27=>416|46=>428|47=>350|48=>351|49=>429|50=>430|57=>436|n=>n,λ|22=>315|24=>321|25=>411|3=>3|39=>234|0=>0|53=>324|55=>194|4=>4|46=>429|45=>428|50=>152|5=>5|9=>9|66=>468|70=>471|76=>496|77=>425|n=>n,λ|n=>n⟩
theorem Tryz.da:Go.Proofs.SlLaysF0.n6 Tryz.prog Tryz.bY:=by
 constructor<;>first|exact P6 (by kernel_rfl) (by kernel_rfl)|(intro w;kernel_rfl)|kernel_rfl
def Tryz.ca:Go.Shelf.Ren:=⟨λ|190=>170|125=>207|258=>260|128=>296|129=>258|302=>333|303=>334|304=>335|305=>336|306=>337|307=>338|308=>339|309=>340|310=>341|333=>377|329=>350|330=>351|334=>378|335=>379|336=>298|344=>408|n=>n,λ|31=>40|9=>9|3=>3|46=>234|0=>0|51=>324|53=>194|4=>4|183=>429|182=>428|131=>152|5=>5|218=>468|222=>471|228=>496|229=>425|n=>n,λ|n=>n⟩
theorem Tryz.b7:Go.Proofs.Lays.n190 Tryz.prog Tryz.ca:=by
 constructor<;>first|exact P6 (by kernel_rfl) (by kernel_rfl)|(intro w;kernel_rfl)|kernel_rfl
def Tryz.cI:Go.Shelf.Ren:=⟨λ|189=>300|125=>207|257=>355|128=>296|129=>258|294=>385|295=>386|296=>387|297=>388|298=>389|299=>390|216=>356|300=>391|301=>392|328=>417|329=>350|330=>351|331=>418|332=>419|215=>297|343=>431|n=>n,λ|28=>50|3=>3|46=>234|0=>0|51=>324|53=>194|4=>4|183=>429|182=>428|131=>152|5=>5|9=>9|218=>468|222=>471|228=>496|229=>425|n=>n,λ|n=>n⟩
theorem Tryz.sI:Go.Proofs.Lays.n189 Tryz.prog Tryz.cI:=by
 constructor<;>first|exact P6 (by kernel_rfl) (by kernel_rfl)|(intro w;kernel_rfl)|kernel_rfl
end Go.Proofs
namespace Go.Ev
open Go Go.Proofs Tryz
noncomputable section
section
abbrev As:=List (Nat×Aa)
def look (A:As):Nat->Option Value:=Hg (λ_=>Z) (λp _ a t=>match p with|(i,v)=>bif Am i t then I v else a t) A
def Gx (A:As) (fr:Fr):Prop:=∀t v,look A t=I v->fr.M.get t=I v
section
variable(τ:Bb) (A:As)
def Dn:BU->Option Aa
 |.tmp t=>look A t
 |.const v=>bif DG v then I v else Z
 |.global g=>bif AD g τ.a then I (AG g 0) else Z
 |.func f=>I (.func (.func f) #[] #[])
def RY (l:List BU):Option AH:=Hg (I []) (λo _ a=>match Dn τ A o,a with
 |I v,I vs=>I (v::vs)
 |_,_=>Z) l
def RQ:Option BU->Option (Option Aa)
 |Z=>I Z
 |I o=>(match Dn τ A o with|I v=>I (I v)|Z=>Z)
def QF (l:List (Nat×BU)):Option (List (Nat×Aa)):=Hg (I []) (λp _ a=>match p with
 |(i,o)=>(match Dn τ A o,a with
  |I v,I vs=>I ((i,v)::vs)
  |_,_=>Z)) l
def D9 (h:Y) (o:Op):Jl:=iH τ (Dn τ A) (QF τ A) (RY τ A) (RQ τ A) h o
end
variable{τ:Bb} {A:As} {fr:Fr}
def Bg (r:Gx A fr) {o:BU} {v:Aa} (h:Dn τ A o=I v):ev τ fr o=I v:=by
 cases o with
 |tmp t=>exact r t v h
 |_=>exact h
def FX (r:Gx A fr):∀{l vs},RY τ A l=I vs->O8 τ fr l=I vs
 |[],_,h=>h
 |o::l,vs,h=>by
  change (match Dn τ A o,RY τ A l with|I v,I vs=>I (v::vs)|_,_=>Z)=I vs at h
  rw[O8];cases a:Dn τ A o with
  |none=>simp[a] at h
  |some v=>
   cases b:RY τ A l with
   |none=>simp[a,b] at h
   |some w=>rw[Bg r a,FX r b];simpa[a,b] using h
def M5 (r:Gx A fr):∀{l vs},QF τ A l=I vs->Ql τ fr l=I vs
 |[],_,h=>h
 |(i,o)::l,vs,h=>by
  change (match Dn τ A o,QF τ A l with|I v,I vs=>I ((i,v)::vs)|_,_=>Z)=I vs at h
  rw[Ql];cases a:Dn τ A o with
  |none=>simp[a] at h
  |some v=>
   cases b:QF τ A l with
   |none=>simp[a,b] at h
   |some w=>rw[Bg r a,M5 r b];simpa[a,b] using h
def Me (r:Gx A fr) {o:Option BU} {v:Option Aa} (h:RQ τ A o=I v):ZK τ fr o=I v:=by
 cases o with
 |none=>exact h
 |some o=>
  rw[RQ] at h;rw[ZK];cases a:Dn τ A o with
  |none=>simp[a] at h
  |some v=>rw[Bg r a];simpa[a] using h
def IS (r:Gx A fr) {h:Y} {o:Op} {x:Aa×Y} (e:D9 τ A h o=I x):Ch τ fr h o=I x:=by
 unfold D9 iH at e;unfold Ch iH;cases o<;>simp only[] at e⊢
 case pick c a b=>
  cases g:Dn τ A c with
  |none=>simp[g] at e
  |some v=>
   rw[Bg r g];rw[g] at e;cases v<;>simp only[] at e⊢<;>first|(cases e;done)|skip
   rename_i t;cases j:Dn τ A (if t=Ag then a else b) with
   |none=>rw[j] at e;cases e
   |some v=>rw[Bg r j];rw[j] at e;exact e
 all_goals try unfold CN at e⊢
 all_goals first
  |exact e
  |(cases e;done)
  |(split at e<;>first
   |(cases e;done)
   |(rename_i g;first|rw[Bg r g]|rw[M5 r g]|rw[Me r g]
     exact e)
   |(rename_i g j;first|rw[Bg r g,Bg r j]|rw[FX r g,FX r j]
     exact e)
   |(rename_i g j k;rw[Bg r g,Bg r j,Bg r k];exact e)
   |(rename_i g j k l;rw[Bg r g,Me r j,Me r k,Me r l];exact e)
   |(rename_i g _;rw[Bg r g];simp_all))
end
section
variable {k k':Cq} {a b:Int} {op:CT} {t:Ai} {τ:Bb} {ox oy:BU} {x y:Aa}
def eK:Cq->Int->Prop
 |.i8,z=>-128<=z/\z<=127
 |.i16,z=>-32768<=z/\z<=32767
 |.i32,z=>-2147483648<=z/\z<=2147483647
 |.i64,z=>-9223372036854775808<=z/\z<=9223372036854775807
 |.u8,z=>0<=z/\z<=255
 |.u16,z=>0<=z/\z<=65535
 |.u32,z=>0<=z/\z<=4294967295
 |.u64,z=>0<=z/\z<=18446744073709551615
def FC {z:Int} (h:eK k z):k.wrap z=z:=by
 cases k<;>simp only[eK] at h<;>simp only[IntKind.wrap,IntKind.bits,IntKind.signed]<;>simp<;>omega
def D8 (k:Cq) (a b:Int):Int:=k.wrap (BitVec.ofInt k.bits a&&&BitVec.ofInt k.bits b).toNat
def JP (k:Cq) (a b:Int):Int:=k.wrap (BitVec.ofInt k.bits a|||BitVec.ofInt k.bits b).toNat
def Oe (k:Cq) (a b:Int):Int:=k.wrap (BitVec.ofInt k.bits a^^^BitVec.ofInt k.bits b).toNat
def Es (k:Cq) (a b:Int):Int:=k.wrap (a*2^min b.toNat k.bits)
def UX (a b:Int):Int:=IntKind.wrap .u64 (a-b)
def T0 (h:eK .u64 (a-b)):UX a b=a-b:=FC h
def DN (k:Cq) (a b:Int):Int:=a.fdiv (2^min b.toNat k.bits)
inductive Bv where
 |sure (v:Aa)
 |bg (p:Prop) (v:Aa)
 |other
def iu (op:CT) (x y:Aa):Bv:=
 match x,y with
 |.int k a,.int k' b=>(match op with
  |.shl=>.bg (0<=b) (.int k (Es k a b))
  |.shr=>.bg (0<=b) (.int k (DN k a b))
  |op=>bif Am (Ld k) (Ld k') then(match op with
   |.add=>.bg (eK k (a+b)) (.int k (a+b))
   |.sub=>(match k with
    |.u64=>.sure (.int .u64 (UX a b))
    |k=>.bg (eK k (a-b)) (.int k (a-b)))
   |.mul=>.bg (eK k (a*b)) (.int k (a*b))
   |.quo=>.bg (0<=a/\0<b/\eK k a) (.int k (a/b))
   |.rem=>.bg (0<=a/\0<b) (.int k (a%b))
   |.and=>.sure (.int k (D8 k a b))
   |.or=>.sure (.int k (JP k a b))
   |.xor=>.sure (.int k (Oe k a b))
   |.eql=>.sure (.bool (decide (a=b)))
   |.neq=>.sure (.bool (!decide (a=b)))
   |.lss=>.sure (.bool (decide (a<b)))
   |.leq=>.sure (.bool (decide (a<=b)))
   |.gtr=>.sure (.bool (decide (b<a)))
   |.geq=>.sure (.bool (decide (b<=a)))
   |_=>.other) else .other)
 |_,_=>.other
def Aaw (h:Am (Ld k) (Ld k')=Ag):k=k':=by
 cases k<;>cases k'<;>first|rfl|(exact Cf h Jq)
def NU {u:Aa} (h:Hn (binOp op t (.int k a) (.int k' b))=I u):kK op t k a k' b=I u:=by
 cases a with
 |negSucc x=>exact h
 |ofNat x=>
  cases b with
  |negSucc y=>exact h
  |ofNat y=>
   show IG (IG (gX op k x y) (B1 (motive:=λ_=>Option Aa) Z (Vl op k x y) (O9 k k'))) (Hn (binOp op t (.int k (AQ x)) (.int k' (AQ y))))=I u;have c:∀v,kK op t k (AQ x) k' (AQ y)=I v->v=u:=λv d=>by
    have:=Rm d;rw[h] at this;exact(I.inj this).symm
   cases e:IG (IG (gX op k x y) (B1 Z (Vl op k x y) (O9 k k'))) (Hn (binOp op t (.int k (AQ x)) (.int k' (AQ y)))) with
   |some v=>rw[c v e]
   |none=>
    rw[h] at e;generalize IG (gX op k x y) _=z at e;cases z<;>cases e
def CX (c:op≠.shl) (d:op≠.shr):binOp op t (.int k a) (.int k b)=
 match op with
 |.add|.sub|.mul=>Op.intArith op k a b
 |.quo|.rem=>Op.intDiv op k a b
 |.and|.or|.xor|.andNot=>Op.intBits op k a b
 |_=>Op.intCmp op a b:=by
 cases op<;>first|exact Cf B c|exact Cf B d|(simp[binOp])
def Bv.ok (b:Bv) (r:Option Aa):Prop:=match b with
 |.sure v=>r=I v
 |.bg p v=>p->r=I v
 |.other=>True
def MX:(iu op x y).ok (Jo τ op t ox oy x y):=by
 unfold iu;split
 case h_2=>trivial
 rename_i k a k' b;have hb:∀op u,Hn (binOp op t (.int k a) (.int k' b))=I u->Jo τ op t ox oy (.int k a) (.int k' b)=I u:=λop u h=>NU h;have d:∀(op:CT),Op.shift op k a k' b=(if b<0 then runtimePanic (.error "negative shift amount") else match op with
  |.shl=>pure (.int k (k.wrap (a*2^min b.toNat k.bits)))
  |.shr=>pure (.int k (a.fdiv (2^min b.toNat k.bits)))
  |_=>stuck "shift: << >> expected"):=λop=>B
 split
 .intro h
  apply hb;show Hn (Op.shift .shl k a k' b)=_;rw[d,Bm G];rfl
 .intro h
  apply hb;show Hn (Op.shift .shr k a k' b)=_;rw[d,Bm G];rfl
 .rename_i f g
  cases i:Am (Ld k) (Ld k') with
  |false=>trivial
  |
   true=>
   have:=Aaw i;subst this;cases op<;>simp only[D1]<;>try trivial
   all_goals try(exact Cf B f)
   all_goals try(exact Cf B g)
   case add=>intro h;apply hb;rw[CX wl wl];simp only[Op.intArith];rw[FC h];rfl
   case sub=>
    cases k<;>first|(intro h;apply hb;rw[CX wl wl];simp only[Op.intArith];rw[FC h];rfl)|(apply hb;rw[CX wl wl];rfl)
   case mul=>intro h;apply hb;rw[CX wl wl];simp only[Op.intArith];rw[FC h];rfl
   case quo=>
    rintro⟨c,j,l⟩;apply hb;rw[CX wl wl];simp only[Op.intDiv];rw[Bm G];have e:a.tdiv b=a/b:=Int.tdiv_eq_ediv_of_nonneg c;have m:eK k (a/b):=by
     have n:0<=a/b:=Int.ediv_nonneg c G;have o:a/b<=a:=Int.ediv_le_self _ c;cases k<;>simp only[eK] at l⊢<;>omega
    rw[e,FC m];rfl
   case rem=>
    rintro⟨c,j⟩;apply hb;rw[CX wl wl];simp only[Op.intDiv];rw[Bm G,Int.tmod_eq_emod_of_nonneg c];rfl
   case and=>apply hb;rw[CX wl wl];rfl
   case or=>apply hb;rw[CX wl wl];rfl
   case xor=>apply hb;rw[CX wl wl];rfl
   case eql=>apply hb;rw[CX wl wl];simp only[Op.intCmp];rw[show(a==b)=decide (a=b) from B];rfl
   case neq=>apply hb;rw[CX wl wl];simp only[Op.intCmp,bne];rw[show(a==b)=decide (a=b) from B];rfl
   case lss=>apply hb;rw[CX wl wl];rfl
   case leq=>apply hb;rw[CX wl wl];rfl
   case gtr=>apply hb;rw[CX wl wl];rfl
   case geq=>apply hb;rw[CX wl wl];rfl
def uE:BU->Bool
 |.const (.int _ (.ofNat n))=>Am n 2
 |_=>Ah
def mX (op:CT) (y:BU) (a b:Aa):Bv:=match op with
 |.quo=>bif uE y then .other else iu .quo a b
 |.rem=>(match y with|.tmp _=>.other|_=>iu .rem a b)
 |op=>iu op a b
def X7:(mX op oy x y).ok (Jo τ op t ox oy x y):=by
 unfold mX;split
 .cases uE oy
  .exact(MX:(iu .quo x y).ok _)
  .trivial
 .cases oy<;>first|exact MX|trivial
 .exact MX
def AwR (h:0<=a/\0<b):Jo τ .rem t ox oy (.int .i64 a) (.int .i64 b)=I (.int .i64 (a%b)):=
 (MX (τ:=τ) (op:=.rem) (t:=t) (ox:=ox) (oy:=oy) (x:=.int .i64 a) (y:=.int .i64 b)) h
def rZ (h:0<=a/\eK .i64 a):Jo τ .quo t ox oy (.int .i64 a) (.int .i64 2)=I (.int .i64 (a/2)):=
 (MX (τ:=τ) (op:=.quo) (t:=t) (ox:=ox) (oy:=oy) (x:=.int .i64 a) (y:=.int .i64 2)) ⟨h.1,by decide,h.2⟩
def Cd (call:Be) (f:Fn) (a:AH) (h:Y) (Q:Aa->Y->Prop):Prop:=∃v J,Q v J/\∀k kp,call f a h k kp=k v J
def Cd.mono {call:Be} {f:Fn} {a:AH} {h:Y} {Q Q':Aa->Y->Prop} (c:Cd call f a h Q) (b:∀v J,Q v J->Q' v J):Cd call f a h Q':=by
 let⟨v,J,d,e⟩:=c;exact⟨v,J,b _ _ d,e⟩
def gH (p:EO->Prop) (r:RR):Prop:=∃o,r=I o/\o≠[]/\∀x∈o,p x
def gH.join {p:EO->Prop} {a b:RR} (x:gH p a) (y:gH p b):gH p (Ns a b):=by
 obtain⟨o,rfl,d,e⟩:=x;obtain⟨o',rfl,g,f⟩:=y;refine⟨o++o',B,Jq,λx c=>?_⟩;rcases dF.1 c with c|c
 .exact e x c
 .exact f x c
def jX (call:Be) (f:Fn) (a:AH) (h:Y) (Q:Aa->Y->Prop):Prop:=∀k kp p,(∀v J,Q v J->gH p (k v J))->gH p (call f a h k kp)
def Cd.any {call:Be} {f:Fn} {a:AH} {h:Y} {Q:Aa->Y->Prop} (c:Cd call f a h Q):jX call f a h Q:=by
 let⟨v,J,b,d⟩:=c;exact λk kp p H=>Jq
def rG (m:Bool) (call:Be) (f:Fn) (a:AH) (h:Y) (Q:Aa->Y->Prop):Prop:=match m with
 |Ah=>Cd call f a h Q
 |Ag=>jX call f a h Q
def ZT (t:Bool) (p q:Prop):Prop:=match t with
 |Ag=>p
 |Ah=>q
def Ad {t:Bool} {p q:Prop} (a:t=Ag->p) (b:t=Ah->q):ZT t p q:=by
 cases t
 .exact b B
 .exact a B
def Cv (s:Bd) (n:Nat):UInt8:=s.data.toList.getD n 0
section
variable(m:Bool) (τ:Bb) (call:Be)
def JW (f:Fn) (a:AH) (h:Y) (k:Aa->Y->Prop):Prop:=∃Q,rG m call f a h Q/\∀v J,Q v J->k v J
def kl (b:Aa) (a:AH) (h:Y) (k:Aa->Y->Prop):Prop:=
 match b with
 |.func (.func f) first cap=>JW m call (.func f) (aI first++a++aI cap) h k
 |.func (.yield l) first _=>JW m call (.yield l) (aI first++a) h k
 |_=>False
def nD (a:List Ai):Bool:=match a with
 |t::_=>(match τ.ds.get t with|I (.slice _)=>Ag|_=>Ah)
 |_=>Ah
def nC (a:List Ai):Bool:=match a with
 |t::_=>(match τ.ds.get t with|some .string=>Ag|_=>Ah)
 |_=>Ah
def vF (A:As) (h:Y) (o:Op) (k:Aa->Y->Prop):Prop:=match D9 τ A h o with
 |I (v,J)=>k v J
 |Z=>False
def uV (A:As) (h:Y) (o:Op) (k:Aa->Y->Prop):Prop:=∃v J,D9 τ A h o=I (v,J)/\k v J
def PG (A:As) (h:Y) (o:Op) (k:Aa->Y->Prop):Prop:=
 match o with
 |.move x|.assign x=>(match Dn τ A x with|I v=>k v h|Z=>False)
 |.call c=>(match RY τ A (aI c.args) with
  |Z=>False
  |I vs=>match c.callee with
   |.builtin b=>(match b,vs with
    |.min,[.int q a,.int _ b]=>∀z,(z<=a/\z<=b/\(z=a\/z=b))->k (.int q z) h
    |.max,[.int q a,.int _ b]=>∀z,(a<=z/\b<=z/\(z=a\/z=b))->k (.int q z) h
    |.len,[.slice _ n _]=>bif nD τ (aI c.argTypes) then k (.int .i64 n) h else False
    |.len,[.string s]=>bif nC τ (aI c.argTypes) then k (.int .i64 (aL s)) h else False
    |b,vs=>∃v J,Bx τ b (aI c.argTypes) vs h=I (v,J)/\k v J)
   |.invoke r C=>(match Dn τ A r with
    |I (.iface t v)=>∃f w,No τ h t v C=I (f,w)/\JW m call (.func f) (w::vs) h k
    |_=>False)
   |.value f=>(match Dn τ A f with|I D=>kl m call D vs h k|Z=>False))
 |.next it s=>(match Dn τ A it with
  |I v=>(match m with
   |Ah=>∃g J,FT v s h=I [(g,J)]/\k g J
   |Ag=>∃x l,FT v s h=I (x::l)/\∀u J,(u,J)∈x::l->k u J)
  |Z=>False)
 |.panic _|.defer _=>False
 |.binOp op t x y _=>(match Dn τ A x,Dn τ A y with
  |I a,I b=>(match mX op y a b with
   |.sure v=>k v h
   |.bg p v=>p/\k v h
   |.other=>∃v,Jo τ op t x y a b=I v/\k v h)
  |_,_=>False)
 |.pick c a b=>(match Dn τ A c with
  |I (.bool t)=>ZT t (match Dn τ A a with|I v=>k v h|Z=>False) (match Dn τ A b with|I v=>k v h|Z=>False)
  |_=>False)
 |.load t a=>(match Dn τ A a with
  |I (.pointer (I ⟨id,off,Z⟩))=>∃v,Bw τ t h id off=I v/\k v h
  |_=>False)
 |.store t a x=>(match Dn τ A a,Dn τ A x with
  |I (.pointer (I ⟨id,off,Z⟩)),I v=>∃J,BA τ t h id off v=I J/\k (.tuple #[]) J
  |_,_=>False)
 |.convert s d x=>(match Dn τ A x with
  |I (.int q n)=>(match τ.ds.get s,τ.ds.get d with
   |I _,I (.int k')=>∃z,(eK k' n/\z=n\/z=k'.wrap n)/\k (.int k' z) h
   |_,_=>∃g,Ea τ s d (.int q n) h=I (g,h)/\k g h)
  |I (.string b)=>∃g J,Ea τ s d (.string b) h=I (g,J)/\k g J
  |I v=>∃g,Ea τ s d v h=I (g,h)/\k g h
  |Z=>False)
 |.indexAddr t x i=>(match Dn τ A x,Dn τ A i,τ.ds.get t with
  |I (.slice (I a) len _),I (.int _ z),I (.slice e)=>(match τ.b.get e with
   |I j=>(0<=z/\z<len)/\k (AG a.block (a.off+bH z*j.size)) h
   |Z=>False)
  |I (.pointer (I ⟨id,off,Z⟩)),I (.int _ z),I (.array len e)=>(match τ.b.get e with
   |I j=>(0<=z/\z<len)/\k (AG id (off+bH z*j.size)) h
   |Z=>False)
  |_,_,_=>False)
 |.index t x i=>(match Dn τ A x,Dn τ A i with
  |I (.string s),I (.int _ z)=>(match τ.ds.get t with
   |some .string=>(0<=z/\z<(aL s))/\k (.int .u8 (Cv s z.toNat).toNat) h
   |_=>False)
  |I a,I b=>∃v,I8 τ t a b=I v/\k v h
  |_,_=>False)
 |.makeInterface ..|.makeFunc ..|.extract ..|.nilCheck ..|.fieldAddr ..|.field ..|.build ..|.makeMap ..=>vF τ A h o k
 |o=>uV τ A h o k
def QD (A:As) (h:Y) (o:Op) (k:Aa->Y->Prop):Prop:=
 match o with
 |.convert s d x=>(match Dn τ A x,τ.ds.get d with
  |I (.slice _ _ _),I (.slice _)=>uV τ A h (.convert s d x) k
  |_,_=>PG m τ call A h (.convert s d x) k)
 |o=>PG m τ call A h o k
def MW (A:As) (AU:List C0) (a skip:As->Prop):Option (Nat×Bool)->Prop
 |Z=>a A
 |I (j,c)=>(match AU[j]? with
  |I o=>(match o.dst with
   |I t=>(match look A t with
    |I (.bool b)=>ZT b (bif c then a ((t,.bool Ag)::A) else skip ((t,.bool Ag)::A)) (bif c then skip ((t,.bool Ah)::A) else a ((t,.bool Ah)::A))
    |I (.tuple _)=>skip A
    |_=>False)
   |Z=>False)
  |Z=>False)
def HA (sz:Nat) (A:As) (d:Option Tmp) (v:Aa) (k:As->Prop):Prop:=match d with
 |Z=>k A
 |I t=>bif AD t sz then k ((t,v)::A) else False
def JV (sz:Nat) (AU:List C0) (k:As->Y->Prop) (l:List C0):As->Y->Prop:=
 Hg (λA h=>k A h) (λo _ a A h=>MW A AU (λA=>QD m τ call A h o.op λv J=>HA sz A o.dst v λA=>a A J)
  (λA=>HA sz A o.dst (.tuple #[]) λA=>a A h) o.guard) l
inductive Cl where
 |q|a|r|w
def RS:Op->Bool
 |.call c=>(match c.callee with|.builtin _=>Ah|_=>Ag)
 |_=>Ah
def K5 (b:Bool) (o:Op):Cl:=
 bif Dj o then .q else match o with
 |.alloc _|.box ..|.build ..|.buildSlice ..|.makeSlice ..|.makeMap ..=>.a
 |.load ..|.lookup ..|.convert ..|.range ..|.entry ..|.typeAssert ..=>.r
 |.call c=>(match c.callee with
  |.builtin .len|.builtin .cap|.builtin .min|.builtin .max|.builtin .unsafeSliceData=>.r
  |.builtin _=>.w
  |_=>bif b then .r else .w)
 |_=>.w
def mU:Cl->Cl->Bool
 |.r,.w|.w,.a|.w,.r|.w,.w=>Ag
 |_,_=>Ah
inductive DX where
 |w (i:Nat)
 |x (i j:Nat)
def fK (c:List DX) (i j:Nat):Bool:=c.any λd=>match d with
 |.x a b=>Am a i&&Am b j
 |_=>Ah
def hS (c:List DX) (i:Nat):Bool:=c.any λd=>match d with
 |.x a b=>Am a i||Am b i
 |_=>Ah
def Nt (a:List DX) (b:Bo) (i:Nat) (c:Cl):Nat->List Cl->Bool
 |_,[]=>Ag
 |j,d::l=>(!(mU c d)||Hy b i j||fK a i j)&&Nt a b i c (A3 j) l
def iD (a:List DX) (i:Nat):Bool:=!(a.any λd=>match d with
 |.w k=>Am i k
 |_=>Ah)
def L5 (a:List DX) (b:Bo):Nat->List Cl->List C0->Bool
 |_,_,[]=>Ag
 |i,cs,o::l=>Nt a b i (K5 (iD a i) o.op) 0 cs&&L5 a b (A3 i) (cs++[K5 (iD a i) o.op]) l
def vK (a:List DX) (AU:Array C0):Bool:=AU.toList.all (λo=>QI (aI AU) o.guard)&&L5 a (Df AU).toList 0 [] (aI AU)
inductive UO where
 |ld (id:Nat)
 |lk (id:Nat) (t:Ai)
 |wr (s:WS)
 |me (t:Ai) (r:Nat) (s:WS)
 |no
def ob:UO->UO->Prop
 |.wr s,.ld id|.ld id,.wr s|.me _ _ s,.ld id|.ld id,.me _ _ s=>s.hasB id=Ah
 |.me t r s,.lk _ a|.lk _ a,.me t r s=>s=.one r/\Am a t=Ag
 |.ld _,.ld _=>True
 |_,_=>False
def Qk (A:As) (o:Op) (J:Y):UO:=match o with
 |.load _ a=>(match Dn τ A a with|I (.pointer (I ⟨id,_,Z⟩))=>.ld id|_=>.no)
 |.lookup t m _ Ah=>(match Dn τ A m with|I (.map (I r))=>.lk r t|_=>.no)
 |.mapEntry t m _=>(match Dn τ A m with|I (.map (I r))=>.me t r J.lo|_=>.wr J.lo)
 |_=>.wr J.lo
def i7 (b:List DX) (i:Nat) (c:UO) (P:Prop) (d:List (Nat×UO)):Prop:=Hg P (λp _ a=>bif fK b i p.1 then ob c p.2/\a else a) d
def Tw (b:List DX) (i:Nat) (c:UO) (a:List (Nat×UO)):List (Nat×UO):=bif hS b i then(i,c)::a else a
def N5 (h:Y) (s:WS):Prop:=s.C h.a=Ag\/(match s with
 |.one b|.pair b _=>∃hb,h.t.get b=I hb/\hb.live=Ag
 |_=>True)
def Qy (o:Op):Bool:=Dj o||(match o with
 |.load ..|.lookup ..|.entry ..|.typeAssert ..=>Ag
 |.call c=>(match c.callee with|.builtin .len|.builtin .cap|.builtin .min|.builtin .max|.builtin .unsafeSliceData=>Ag|_=>Ah)
 |_=>Ah)
def Kb (a:List DX) (sz:Nat) (AU:List C0) (k:As->Y->Prop) (l:List C0):Nat->List (Nat×UO)->As->Y->Prop:=
 Hg (λ_ _ A h=>k A h) (λo _ d i b A h=>MW A AU (λA=>PG Ah τ call A h.ad o.op λv J=>i7 a i (Qk τ A o.op J) (
  bif RS o.op then(bif iD a i then J.lo.C h.a=Ag else N5 h J.lo)/\HA sz A o.dst v λc=>d (A3 i) (Tw a i (Qk τ A o.op J) b) c (h.M J)
  else bif Qy o.op then HA sz A o.dst v (λc=>d (A3 i) (Tw a i (Qk τ A o.op J) b) c h) else HA sz A o.dst v (λc=>d (A3 i) (Tw a i (Qk τ A o.op J) b) c (h.M J))) b)
  (λA=>HA sz A o.dst (.tuple #[]) λA=>d (A3 i) b A h) o.guard) l
def JA (sz:Nat) (AU:Array C0) (b:Bool) (k:As->Y->Prop) (A:As) (h:Y):Prop:=match b with
 |Ah=>JV m τ call sz (aI AU) k (aI AU) A h
 |Ag=>∃a,vK a AU=Ag/\Kb τ call a sz (aI AU) k (aI AU) 0 [] A h
def Sub (l A:As):Prop:=∀t v,look l t=I v->look A t=I v
end
structure KG (σ:Type) where
 n:As->σ->Y->Prop
 x:Nat->As->σ->Y->Prop
 r:As->σ->Y->Prop
 p:Aa->As->σ->Y->Prop
def KG.wn {a:Type} (K:KG a) (n:As->a->Y->Prop):KG a:=KG.rec (λ_ x r p=>⟨n,x,r,p⟩) K
def KG.M {b:Type} (id:Nat) (K:KG b):KG b:=KG.rec (λn x r p=>⟨n,λa A s h=>bif Am a id then n A s h else x a A s h,r,p⟩) K
structure Md (σ:Type) where
 c3:Bool
 a:Option (Nat->σ->σ)
 lp:Nat->(KG σ->As->σ->Y->Prop)->KG σ->As->σ->Y->Prop
def ku:List C0->Option (List C0×BU):=Hg Z λo l a=>match l with
 |[]=>(match o with
  |⟨Z,.panic x,_,_,_,Z⟩=>I ([],x)
  |_=>Z)
 |_=>(match a with|I (l',x)=>I (o::l',x)|Z=>Z)
section
variable(m:Bool) (τ:Bb) (call:Be) {σ:Type}
def vR (L:Nat) (c:KG σ->As->σ->Y->Prop) (K:KG σ) (A:As) (s:σ) (h:Y):Prop:=
 ∃b:Nat->As->σ->Y->Prop,(∃m a,Sub a A/\m<L/\b m a s h)/\
  ∀m A s h,b m A s h->m<L->c (K.wn λd e J=>∃m' a,Sub a d/\m'<m/\b m' a e J) A s h
def Akr (L:Nat) (c:KG Unit->As->Unit->Y->Prop) (K:KG Unit) (A:As) (_:Unit) (h:Y):Prop:=
 ∃b:Nat->As->Y->Prop,(∃m a,Sub a A/\m<L/\b m a h)/\
  ∀m A h,b m A h->m<L->c (K.wn λd _ J=>∃m' a,Sub a d/\m'<m/\b m' a J) A () h
def iA (b:Bool):Md Unit:=⟨b,Z,Akr⟩
def pg:Md Bo:=⟨Ah,I eV,vR⟩
def uk (l:Nat) (K:KG σ) (A:As) (s:σ) (h:Y):Prop:=
 ∃st a b sz ps c e d,h.t.get l=I (.loop st a b sz ps c e d)/\st≠.busy/\(match a with
  |Z=>K.n A s (h.put l (.loop .exhausted a b sz ps c e d))
  |some .ret=>K.r A s (h.put l (.loop .exhausted a b sz ps c e d))
  |I (.exit id)=>K.x id A s (h.put l (.loop .exhausted a b sz ps c e d))
  |_=>False)
def QU (g:Nat->σ->σ) (sz:Nat) (ps:Array Tmp) (b c:DC) (K:KG σ) (A:As) (s:σ) (h:Y):Option Aa->Prop
 |I (.func (.func f) first cap)=>(match τ.fn.get f with|I fn=>fn.body.isSome=Ag|Z=>False)/\∀a,Gx A ⟨a,sz,[]⟩->
  JW m call (.func f) (aI first++[.func (.yield (A3 h.a)) #[] #[]]++aI cap) ((h.new (.aq Ah)).new (.loop .ready Z a sz (aI ps) b c h.a)) (λ_ d=>uk (A3 h.a) K A (g h.a s) d)
 |_=>False
def IH (M:Md σ) (L:Nat) (sz:Nat) (c:DC):KG σ->As->σ->Y->Prop:=
 Code.rec
  (λK A s h=>K.n A s h)
  (λ_ AU d K A s h=>match M.c3 with
   |Ah=>JA m τ call sz AU d (λA h=>K.n A s h) A h
   |Ag=>match ku (aI AU) with
    |I (l,x)=>d=Ah/\JV m τ call sz (aI AU) (λA h=>match Dn τ A x with|I (.iface t v)=>K.p (.iface t v) A s h|_=>False) l A h
    |Z=>JA m τ call sz AU d (λA h=>K.n A s h) A h)
  (λ_ _ a b K A s h=>a (K.wn (b K)) A s h)
  (λc _ _ a b K A s h=>match Dn τ A c with
   |I (.bool t)=>ZT t (a K A s h) (b K A s h)
   |_=>False)
  (λid _ c K A s h=>c (K.M id) A s h)
  (λ_ c K A s h=>M.lp L c K A s h)
  (λf ps e i _ _ K A s h=>match M.a with|I g=>QU m τ call g sz ps e i K A s h (Dn τ A f)|Z=>False)
  (λid K A s h=>K.x id A s h)
  (λ_ c K A s h=>c K A s h)
  (λ_ K A s h=>K.n A s h)
  (λ_ _ _ _ _=>False)
  (λK A s h=>K.r A s h)
  (λ_ _ _ _ _=>False) c
abbrev kp (n:As->Y->Prop) (x:Nat->As->Y->Prop) (r:As->Y->Prop):KG Unit:=⟨λA _ h=>n A h,λi A _ h=>x i A h,λA _ h=>r A h,λ_ _ _ _=>False⟩
abbrev J2 (L sz:Nat) (c:DC) (K:KG Unit) (A:As) (h:Y):Prop:=IH Ah τ call (iA Ah) L sz c K A () h
def Ex (A:As) (h:Y) (l:List ResultVar):(AH->Prop)->Prop:=
 Hg (λk=>k []) (λr _ b k=>match r with
  |.tmp t=>(match look A t with|I v=>b (λvs=>k (v::vs))|Z=>False)
  |.cell a t=>(match look A a with
   |I (.pointer (I ⟨id,off,Z⟩))=>∃v,Bw τ t h id off=I v/\b (λvs=>k (v::vs))
   |_=>False)) l
def PJ (l:AH):Nat->As:=Hg (λ_=>[]) (λv _ a i=>(i,v)::a (A3 i)) l
def i4 (L:Nat) (fn:BC) (a:AH) (h:Y) (Q:Aa->Y->Prop):Prop:=
 match fn.body with
 |I c=>J2 τ call L fn.ntmps c
  (kp (λA h=>Ex τ A h (aI fn.results) (λvs=>Q (Ff vs) h)) (λ_ _ _=>False) (λA h=>Ex τ A h (aI fn.results) (λvs=>Q (Ff vs) h))) (PJ a 0) h
 |Z=>False
abbrev YR (L:Nat) (fn:BC) (a:AH) (h:Y) (Q:Aa->Y->Prop):Prop:=LT a<=fn.ntmps/\i4 τ call L fn a h Q
def Og:Bo->(Y->Prop)->Y->Prop
 |[],k,h=>k h
 |b::D,k,h=>h.t.get b=I (.aq Ah)/\Og D k (h.put b (.aq Ag))
def MT (L:Nat) (fn:BC) (a:AH) (h:Y) (Q:Aa->Y->Prop):Prop:=
 match fn.body with
 |I c=>(LT a<=fn.ntmps)/\IH m τ call pg L fn.ntmps c
  (KG.mk (λA D h=>Og D (λh=>Ex τ A h (aI fn.results) (λvs=>Q (Ff vs) h)) h) (λ_ _ _ _=>False) (λA D h=>Og D (λh=>Ex τ A h (aI fn.results) (λvs=>Q (Ff vs) h)) h) λ_ _ _ _=>False) (PJ a 0) [] h
 |Z=>False
end
section
variable{τ:Bb} {call:Be} {A:As} {fr:Fr}
variable {h:Y} {k:Cq} {s d t e:Ai} {z:Int}
def TY {f:Fn} {a:AH} {k:Aa->Y->Prop} (c:JW Ah call f a h k):∃v J,k v J/\∀kk kp,call f a h kk kp=kk v J:=by
 let⟨Q,⟨v,J,b,d⟩,e⟩:=c;exact⟨v,J,e _ _ b,d⟩
def X9 {a:Aa} {b:AH} {k:Aa->Y->Prop} (c:kl Ah call a b h k):∃v J,k v J/\∀kk kp,Vn call a b h kk kp=kk v J:=by
 unfold kl at c;split at c
 .exact TY c
 .exact TY c
 .cases c
def Aie {n:Int} {a:eT} (b:τ.ds.get s=I a) (c:τ.ds.get d=I (.int k')):Ea τ s d (.int k n) h=I (.int k' (k'.wrap n),h):=by
 unfold Ea;rw[b,c]
def Aan {a:BD} {len cap:Nat} {b:KR} (d:τ.ds.get t=I (.slice e)) (f:τ.b.get e=I b) (c:0<=z/\z<(len:Int)):
 EE τ t (.slice (I a) len cap) (.int k z)=I (AG a.block (a.off+bH z*b.size)):=by
 obtain⟨n,rfl⟩:∃n:Nat,z=AQ n:=⟨bH z,(UQ c.1).symm⟩;unfold EE;simp only[d,Fs,f];have:AD n len=Ag:=Jq
 rw[this];rfl
def Abm {id off len:Nat} {a:KR} (c:τ.ds.get t=I (.array len e)) (d:τ.b.get e=I a) (b:0<=z/\z<(len:Int)):
 EE τ t (.pointer (I ⟨id,off,Z⟩)) (.int k z)=I (AG id (off+bH z*a.size)):=by
 obtain⟨n,rfl⟩:∃n:Nat,z=AQ n:=⟨bH z,(UQ b.1).symm⟩;unfold EE;simp only[c,Fs,d];have:AD n len=Ag:=Jq
 rw[this];rfl
def Akl {s:Bd} (c:τ.ds.get t=I .string) (a:0<=z/\z<(aL s:Int)):
 I8 τ t (.string s) (.int k z)=I (.int .u8 (Cv s z.toNat).toNat):=by
 obtain⟨n,rfl⟩:∃n:Nat,z=AQ n:=⟨bH z,(UQ a.1).symm⟩;unfold I8;simp only[c,Fs];have b:n<LT s.data.toList:=by
  have:=a.2;simp only[M9] at this;have:LT s.data.toList=aL s:=Jq
  omega
 rw[Ab b];simp[Cv,List.getD,Ab b]
def Uy {b:Bd} {J:Y} {v:Aa} (c:Ea τ s d (.string b) h=I (v,J)):J.lo=h.lo:=by
 unfold Ea at c;split at c
 case h_2=>cases c
 rename_i f g _ _;cases g with
 |string=>cases f<;>(cases c;rfl)
 |slice e=>
  have a:(bif Gv τ e then(match τ.ds.get e with
   |I (.int .u8)=>I (PA (I ⟨h.a,0,Z⟩) b.size b.size,h.new (.cells (T.laid (b.data.toList.map λb=>AL .u8 b.toNat) 0 .nil) b.size e 1 0 Ah))
   |I (.int .i32)=>I (PA (I ⟨h.a,0,Z⟩) (CA b.size (aI b.data)).length (CA b.size (aI b.data)).length,h.new (.cells (T.laid (CA b.size (aI b.data)) 0 .nil) (CA b.size (aI b.data)).length e 0 0 Ah))
   |_=>Z) else Z)=I (v,J):=Jq
  cases i:Gv τ e<;>rw[i] at a<;>simp only[D1,I0] at a
  .cases a
  .split at a
   .cases a;exact Lo _ _
   .cases a;exact Lo _ _
   .cases a
 |_=>cases f<;>cases c
def Kj (r:Gx A fr) {o:Op} {k:Aa->Y->Prop} (c:PG Ah τ call A h o k):
 ∃v J,k v J/\(∀kk kp,F9 τ call fr h o kk kp=kk v J)/\(RS o=Ag\/(∃b vs c,o=.call c/\c.callee=.builtin b/\Bx τ b (aI c.argTypes) vs h=I (v,J)/\O8 τ fr (aI c.args)=I vs)\/
  (∃it s K,o=.next it s/\FT K s h=I [(v,J)])\/Ch τ fr h o=I (v,J)/\(∀s d x,o=.convert s d x->J.lo=h.lo)):=by
 have R:∀{o:Op} {v:Aa} {J:Y},Ch τ fr h o=I (v,J)->(∀c,o≠.call c)->(∀i s,o≠.next i s)->(∀x,o≠.panic x)->∀kk kp,F9 τ call fr h o kk kp=kk v J:=by
  intro o v J E g l O kk kp;cases o<;>simp only[F9]<;>first|(rw[E];done)|exact Cf B (g _)|exact Cf B (l _ _)|exact Cf B (O _)|(rw[E])
 have G:∀{o:Op} {v:Aa} {J:Y},k v J->D9 τ A h o=I (v,J)->∀(_:∀c,o≠.call c:=by simp) (_:∀i s,o≠.next i s:=by simp) (_:∀x,o≠.panic x:=by simp) (_:∀s d x,o=.convert s d x->J.lo=h.lo:=by simp),
  ∃v J,k v J/\(∀kk kp,F9 τ call fr h o kk kp=kk v J)/\(RS o=Ag\/(∃b vs c,o=.call c/\c.callee=.builtin b/\Bx τ b (aI c.argTypes) vs h=I (v,J)/\O8 τ fr (aI c.args)=I vs)\/
  (∃it s K,o=.next it s/\FT K s h=I [(v,J)])\/Ch τ fr h o=I (v,J)/\(∀s d x,o=.convert s d x->J.lo=h.lo)):=
  λF E g l O S=>⟨_,_,F,R (IS r E) g l O,.inr (.inr (.inr ⟨IS r E,S⟩))⟩
 unfold PG at c;split at c
 .rename_i x
  split at c
  .rename_i v m;exact G (o:=.move x) c (by simp only[D9,iH,m,CN])
  .cases c
 .rename_i x
  split at c
  .rename_i v m;exact G (o:=.assign x) c (by simp only[D9,iH,m,CN])
  .cases c
 .rename_i Z
  split at c
  .cases c
  .rename_i vs T
   have N:=FX r T;split at c
   .rename_i b hb
    have L:∀{v J},Bx τ b (aI Z.argTypes) vs h=I (v,J)->k v J->∃v J,k v J/\(∀kk kp,F9 τ call fr h (.call Z) kk kp=kk v J)/\(RS (.call Z)=Ag\/(∃b vs c,Op.call Z=.call c/\c.callee=.builtin b/\Bx τ b (aI c.argTypes) vs h=I (v,J)/\O8 τ fr (aI c.args)=I vs)\/
     (∃it s K,Op.call Z=.next it s/\FT K s h=I [(v,J)])\/Ch τ fr h (.call Z)=I (v,J)/\(∀s d x,Op.call Z=.convert s d x->J.lo=h.lo)):=
     λC F=>⟨_,_,F,λkk kp=>by simp only[F9,Ju,N,hb,C],.inr (.inl ⟨b,vs,Z,B,hb,C,N⟩)⟩
    split at c
    .rename_i q a V M
     refine L (v:=.int q (if M<a then M else a)) (J:=h) B (c _ ?_)
     split<;>omega
    .rename_i q a V M
     refine L (v:=.int q (if M>a then M else a)) (J:=h) B (c _ ?_)
     split<;>omega
    .rename_i a n c0
     cases j:nD τ (aI Z.argTypes) with
     |false=>rw[j] at c;cases c
     |
      true=>
      rw[j] at c;refine L (v:=.int .i64 (n:Int)) (J:=h) ?_ c
      revert j
      unfold nD;cases aI Z.argTypes with
      |nil=>intro j;cases j
      |
       cons t W=>
       intro j;simp only[] at j;split at j
       .rename_i e' D
        simp only[Bx,I7,D];rfl
       .cases j
    .rename_i s
     cases j:nC τ (aI Z.argTypes) with
     |false=>rw[j] at c;cases c
     |
      true=>
      rw[j] at c;refine L (v:=.int .i64 (aL s:Int)) (J:=h) ?_ c
      revert j
      unfold nC;cases aI Z.argTypes with
      |nil=>intro j;cases j
      |
       cons t W=>
       intro j;simp only[] at j;split at j
       .rename_i D
        simp only[Bx,I7,D];rfl
       .cases j
    .obtain⟨v,J,C,F⟩:=c
     exact L C F
   .rename_i rr ab hb
    split at c
    .rename_i t v m
     obtain⟨f,r',X,hc⟩:=c;obtain⟨H,J,g,l⟩:=TY hc;exact⟨H,J,g,λkk kp=>by simp only[F9,Ju,N,hb,Bg r m,Hd,X,l],.inl (by simp[RS,hb])⟩
    .cases c
   .rename_i f hb
    split at c
    .rename_i fv m
     obtain⟨H,J,g,l⟩:=X9 c;exact⟨H,J,g,λkk kp=>by simp only[F9,Ju,N,hb,Bg r m,l],.inl (by simp[RS,hb])⟩
    .cases c
 .rename_i it s
  split at c
  .rename_i v m
   obtain⟨H,J,g,l⟩:=c;exact⟨H,J,l,λkk kp=>by simp only[F9,Bg r m,g],.inr (.inr (.inl ⟨it,s,v,B,g⟩))⟩
  .cases c
 .cases c
 .cases c
 .rename_i op t x y u
  split at c
  .rename_i a b w hb
   have j:=X7 (τ:=τ) (op:=op) (t:=t) (ox:=x) (oy:=y) (x:=a) (y:=b);split at c
   .rename_i v m
    rw[m] at j;exact G (o:=.binOp op t x y u) c (by simp only[D9,iH,w,hb,show Jo τ op t x y a b=I v from j,CN])
   .rename_i p v m
    rw[m] at j;exact G (o:=.binOp op t x y u) c.2 (by simp only[D9,iH,w,hb,show Jo τ op t x y a b=I v from j c.1,CN])
   .obtain⟨v,g,l⟩:=c
    exact G (o:=.binOp op t x y u) l (by simp only[D9,iH,w,hb,g,CN])
  .cases c
 .rename_i Q a b
  split at c
  .rename_i t D
   cases t with
   |
    true=>
    change (match Dn τ A a with|some v=>k v h|none=>False) at c
    split at c
    .rename_i v m;exact G (o:=.pick Q a b) c (by simp only[D9,iH,D,if_true,m,CN])
    .cases c
   |
    false=>
    change (match Dn τ A b with|some v=>k v h|none=>False) at c
    split at c
    .rename_i v m;exact G (o:=.pick Q a b) c (by simp[D9,iH,D,m,CN])
    .cases c
  .cases c
 .rename_i t a
  split at c
  .rename_i id off w
   obtain⟨v,g,l⟩:=c;exact G (o:=.load t a) l (by simp only[D9,iH,w,g,CN])
  .cases c
 .rename_i t a x
  split at c
  .rename_i id off v w C
   obtain⟨J,g,l⟩:=c;exact G (o:=.store t a x) l (by simp only[D9,iH,w,C,g,Nb])
  .cases c
 .rename_i s d x
  split at c
  .rename_i q n C
   split at c
   .rename_i sd k' j hd
    obtain⟨z,hz,F⟩:=c;have:k'.wrap n=z:=by
     rcases hz with⟨g,rfl⟩|rfl
     .exact FC g
     .rfl
    exact G (o:=.convert s d x) F (by simp only[D9,iH,C,Aie j hd,this]) wl wl wl (λ_ _ _ _=>rfl)
   .obtain⟨H,g,l⟩:=c
    exact G (o:=.convert s d x) l (by simp only[D9,iH,C,g]) wl wl wl (λ_ _ _ _=>rfl)
  .rename_i b C
   obtain⟨H,J,g,l⟩:=c;refine G (o:=.convert s d x) l (by simp only[D9,iH,C,g]) wl wl wl (λ_ _ _ _=>Uy g)
  .rename_i v _ _ C
   obtain⟨H,g,l⟩:=c;exact G (o:=.convert s d x) l (by simp only[D9,iH,C,g]) wl wl wl (λ_ _ _ _=>rfl)
  .cases c
 .rename_i t x i
  split at c
  .rename_i a len cap q z e w U D
   split at c
   .rename_i aa P
    exact G (o:=.indexAddr t x i) c.2 (by simp only[D9,iH,w,U,Aan D P c.1,CN])
   .cases c
  .rename_i id off q z len e w U D
   split at c
   .rename_i aa P
    exact G (o:=.indexAddr t x i) c.2 (by simp only[D9,iH,w,U,Abm D P c.1,CN])
   .cases c
  .cases c
 .rename_i t x i
  split at c
  .rename_i s q z w U
   split at c
   .rename_i D
    exact G (o:=.index t x i) c.2 (by simp only[D9,iH,w,U,Akl D c.1,CN])
   .cases c
  .rename_i a b _ w U
   obtain⟨v,g,l⟩:=c;exact G (o:=.index t x i) l (by simp only[D9,iH,w,U,g,CN])
  .cases c
 all_goals try(
  unfold vF at c;split at c
  .rename_i v J E
   exact G c E
  .cases c)
 obtain⟨v,J,E,F⟩:=c;exact G F E (λc e=>‹∀c,o=Op.call c->False› c e) (λi s e=>‹∀i s,o=Op.next i s->False› i s e) (λx e=>‹∀x,o=Op.panic x->False› x e) (λs d x e=>(‹∀s d x,o=Op.convert s d x->False› s d x e).elim)
end
section
variable{τ:Bb} {call:Be} {A:As} {fr:Fr}
def GC (i t:Nat) (v:Aa) (A:As):look ((i,v)::A) t=if i=t then I v else look A t:=by
 show(bif Am i t then I v else look A t)=_
 by_cases h:i=t
 .subst h;simp
 .rw[Bm h,MK.2 λe=>h (Af e)];rfl
def Ahw {t:Nat} {v:Aa} (r:Gx A fr) (b:look A t=I v):Gx ((t,v)::A) fr:=by
 intro s u a;rw[GC] at a;split at a
 .rename_i e;subst e;cases a;exact r _ _ b
 .exact r _ _ a
def FY {sz:Nat} {d:Option Tmp} {v:Aa} {k:As->Prop} (c:HA sz A d v k) (r:Gx A fr) (f:fr.sz=sz):
 ∃g a,fr.set d v=I a/\Gx g a/\a.sz=sz/\a.ds=fr.ds/\k g:=by
 cases d with
 |none=>exact⟨A,fr,B,r,f,B,c⟩
 |some t=>
  change (bif AD t sz then k ((t,v)::A) else False) at c
  cases hb:AD t sz with
  |false=>rw[hb] at c;cases c
  |true=>
   rw[hb] at c;cases fr with
   |mk i s ds=>
    simp only at f;subst f;refine⟨_,⟨i.ins t v,s,ds⟩,?_,?_,B,B,c⟩
    .show(bif AD t s then _ else Z)=_
     rw[hb];rfl
    .intro x u b
     show(i.ins t v).get x=I u;rw[GC] at b;rw[T.M];split at b
     .rename_i e;subst e;rw[Bi B];exact b
     .rename_i e;rw[Bm (λh=>e h.symm)];exact r _ _ b
def Kw {AU:List C0} {e skip:As->Prop} {g:Option (Nat×Bool)} (c:MW A AU e skip g) (r:Gx A fr):
 (∃a,Gx a fr/\E5 fr AU g=I Ag/\e a)\/(∃a,Gx a fr/\E5 fr AU g=I Ah/\skip a):=by
 cases g with
 |none=>exact .inl ⟨A,r,B,c⟩
 |some k=>
  let⟨j,d⟩:=k;simp only[MW] at c;split at c
  case h_2=>cases c
  rename_i o f;split at c
  case h_2=>cases c
  rename_i t h;split at c
  case h_3=>cases c
  case h_2=>
   rename_i vs hb;exact .inr ⟨A,r,by unfold E5;simp only[f,h,r _ _ hb],c⟩
  rename_i b hb;have l:E5 fr AU (I (j,d))=I (b==d):=by
   unfold E5;simp only[f,h,r _ _ hb]
  have i:=Ahw r hb;rw[l];cases b<;>cases d<;>first
   |exact .inl ⟨_,i,rfl,c⟩
   |exact .inr ⟨_,i,rfl,c⟩
def WJ (r:Gx A fr) {h:Y} {o:Op} {k:Aa->Y->Prop} (c:QD Ah τ call A h o k):∃v J,k v J/\(∀kk kp,F9 τ call fr h o kk kp=kk v J)/\∀g,o≠.defer g:=by
 unfold QD at c;split at c
 .rename_i s d x
  split at c
  .let⟨v,J,e,i⟩:=c
   exact⟨v,J,i,λkk kp=>by simp only[F9,IS r e],Jq⟩
  .let⟨v,a,b,f,_⟩:=Kj r c
   exact⟨v,a,b,f,Jq⟩
 .let⟨v,a,b,f,_⟩:=Kj r c
  exact⟨v,a,b,f,λg e=>by rw[e] at c;exact c⟩
def Ku {sz:Nat} {AU:List C0} {ro:Option Nat} {k:As->Y->Prop}:∀(l:List C0) {A:As} {fr:Fr} {h:Y},JV Ah τ call sz AU k l A h->Gx A fr->fr.sz=sz->
 ∃b a J,Gx b a/\a.sz=sz/\a.ds=fr.ds/\k b J/\∀kp kk,EX τ call ro AU kp kk l fr h=kk a J
 |[],A,fr,h,c,r,d=>⟨A,fr,h,r,d,B,c,λ_ _=>B⟩
 |o::l,A,fr,h,c,r,d=>by
  change MW A AU (λA=>QD Ah τ call A h o.op λv J=>HA sz A o.dst v λA=>JV Ah τ call sz AU k l A J)
   (λA=>HA sz A o.dst (.tuple #[]) λA=>JV Ah τ call sz AU k l A h) o.guard at c
  rcases Kw c r with⟨u,f,g,c1⟩|⟨u,f,g,c1⟩
  .let⟨v,E,w,x,y⟩:=WJ f c1
   let⟨z,C,i,j,m,d2,c3⟩:=FY w f d;obtain⟨b,a,J,n,p,q,s,t⟩:=Ku l c3 j m;refine⟨b,a,J,n,p,q.trans d2,s,λkp kk=>?_⟩;rw[EX,g];simp only[];unfold IB;split
   .rename_i D e;exact Cf e (y D)
   .rw[x,i]
    exact t kp kk
  .let⟨z,C,i,j,m,d2,c3⟩:=FY c1 f d
   obtain⟨b,a,J,n,p,q,s,t⟩:=Ku l c3 j m;refine⟨b,a,J,n,p,q.trans d2,s,λkp kk=>?_⟩;rw[EX,g];simp only[i];exact t kp kk
def X8 (τ:Bb) (call:Be) (ro:Option Nat):Prop:=∀(sz:Nat) AU b k A fr h,JA Ah τ call sz AU b k A h->Gx A fr->fr.sz=sz->
 ∃c a J,Gx c a/\a.sz=sz/\a.ds=fr.ds/\k c J/\∀K,T4 τ call ro AU b K fr h=K.n a J
def Hf {A:As} {fr:Fr} (r:Gx A fr) {h:Y}:∀(f:List ResultVar) {k:AH->Prop},Ex τ A h f k->∃vs,Ng τ fr h f=I vs/\k vs
 |[],k,c=>⟨[],B,c⟩
 |.tmp t::l,k,c=>by
  change (match look A t with|I v=>Ex τ A h l λvs=>k (v::vs)|Z=>False) at c
  split at c
  .rename_i v b
   let⟨vs,d,e⟩:=Hf r l c;exact⟨v::vs,by simp only[Ng,r _ _ b,d],e⟩
  .cases c
 |.cell a t::l,k,c=>by
  change (match look A a with
   |I (.pointer (I ⟨id,off,Z⟩))=>∃v,Bw τ t h id off=I v/\Ex τ A h l λvs=>k (v::vs)
   |_=>False) at c
  split at c
  .rename_i id off b
   let⟨v,g,c⟩:=c;let⟨vs,d,e⟩:=Hf r l c;exact⟨v::vs,by simp only[Ng,r _ _ b,g,d],e⟩
  .cases c
def Sz:∀(l:AH) (i t:Nat) (v:Aa),look (PJ l i) t=I v->i<=t/\l[t-i]?=I v
 |[],i,t,v,h=>Jq
 |x::l,i,t,v,h=>by
  rw[show PJ (x::l) i=(i,x)::PJ l (i+1) from B,GC] at h;split at h
  .rename_i e;subst e;cases h;exact⟨Ae _,Jq⟩
  .rename_i e
   let⟨b,a⟩:=Sz l (i+1) t v h;refine⟨G,?_⟩;obtain⟨d,rfl⟩:∃d,t=i+1+d:=⟨t-(i+1),G⟩;rw[show i+1+d-(i+1)=d by omega] at a;rw[show i+1+d-i=d+1 by omega];exact a
end
def DZ (h:Y):h.ad.lo=.no:=Jq
def Ow (h:Y):h.ad.t=h.t:=Jq
def BF (h:Y):h.ad.a=h.a:=Jq
def XG {h J:Y} (w:qA h.ad J):N5 h J.lo:=by
 rcases w with e|⟨b,hb,a,c,e⟩
 .rw[e,DZ];exact .inl B
 .rw[e,DZ]
  refine .inr ?_;rw[Ow] at a;exact⟨hb,a,c⟩
def Hi.R:Hi->Prop
 |.aK|.rd _|.lk _ _|.aD=>True
 |_=>False
def R4:Cl->Hi->Prop
 |.q,e=>e=.aK
 |.a,e=>e=.aK
 |.r,e=>e.R
 |.w,_=>True
section
variable{τ:Bb} {call:Be} {A:As} {fr:Fr}
def Arb {h:Y} {s:WS} (a:s.C h.a=Ag):Fe h s=.aD:=by
 unfold Fe;rw[a];rfl
def Alz {o:Op} {h:Y} {s:WS} (b:s.C h.a=Ag):(CF τ fr o h s).R:=by
 unfold CF;rw[Arb b];cases Dj o with
 |true=>trivial
 |false=>
  show Hi.R (match o with
   |.alloc _|.box ..|.build ..|.buildSlice ..|.makeSlice ..|.makeMap ..=>.aK
   |.load _ a=>_
   |.lookup t m _ c=>_
   |.mapEntry t m _=>_
   |.convert _ _ x=>_
   |.call {callee:=.builtin .len,args,..}=>_
   |_=>.aD)
  split<;>first|trivial|(split<;>first|trivial|(cases‹Bool›<;>trivial))
def Alg {h:Y} {s:WS} (a:N5 h s):(Fe h s).ok=true:=by
 unfold Fe;cases e:s.C h.a with
 |true=>rfl
 |false=>
  rcases a with a|a
  .rw[e] at a;cases a
  .cases s with
   |one b=>let⟨hb,c,d⟩:=a;simp[c,d,Hi.ok]
   |pair b lo=>let⟨hb,c,d⟩:=a;simp[c,d,Hi.ok]
   |_=>rfl
def Arp {r:Nat} {e:Hi} (h:e.ok=Ag):(Xb t r e).ok=true:=by
 unfold Xb;split
 .cases Am _ r<;>rfl
 .exact h
def Agp {o:Op} {h:Y} {s:WS} (c:N5 h s):(CF τ fr o h s).ok=true:=by
 have b:=Alg c;unfold CF;cases Dj o with
 |true=>rfl
 |false=>
  show Hi.ok (match o with
   |.alloc _|.box ..|.build ..|.buildSlice ..|.makeSlice ..|.makeMap ..=>.aK
   |.load _ a=>_
   |.lookup t m _ d=>_
   |.mapEntry t m _=>_
   |.convert _ _ x=>_
   |.call {callee:=.builtin .len,args,..}=>_
   |_=>_)=Ag
  split<;>first|rfl|exact b|(split<;>first|rfl|exact b|exact Arp b|(cases‹Bool›<;>rfl))
def XW {c b:Cl} {e d:Hi} {nx nx':Nat} (g:R4 c e) (f:R4 b d) (i:b=.q->nx=nx') (a:MF e d nx nx'=Ag):mU c b=true:=by
 cases c<;>simp only[R4] at g
 .subst g;cases d<;>cases a
 .subst g;cases d<;>cases a
 .cases e<;>first|exact Cf g (λh=>h)|skip
  all_goals(cases d<;>first|(cases a;done)|skip)
  all_goals(cases b<;>simp only[R4] at f<;>first|(cases f;done)|rfl|exact Cf f (λh=>h))
 .cases b with
  |q=>
   simp only[R4] at f;subst f;have:=i B;subst this;cases e with
   |wr s j=>
    change s.M nx nx=Ag at a;cases s<;>simp[WS.M,AK] at a<;>omega
   |_=>cases a
  |_=>rfl
end
section
variable{τ:Bb} {call:Be} {A:As} {fr:Fr}
variable {e:Hi} {o:Op} {v:Aa} {h J b c:Y} {a f:Bool} {i nx nx' r:Nat} {s:WS}
def Hi.R.ok (h:e.R):e.ok=true:=by cases e<;>first|rfl|exact Cf h (λh=>h)
def Ra {o:Option Aa} (a:CN h o=I (v,J)):J=h:=by
 cases o with
 |none=>cases a
 |some x=>cases a;rfl
def Ru (b:Dj o=Ag) (a:Ch τ fr h o=I (v,J)):J=h:=by
 cases o<;>first|(cases b;done)|(simp only[Ch,iH] at a;repeat' first|(cases a;done)|exact Ra a|(cases a;rfl)|split at a)
def Vq (τ:Bb) (fr:Fr) (b:Bool) (o:Op) (h a:Y):Prop:=
 R4 (K5 b o) (CF τ fr o h a.lo)/\(CF τ fr o h a.lo).ok=Ag/\(K5 b o=.q->CF τ fr o h a.lo=.aK/\a.a=h.a)
def Qa (c:K5 a o=.r) (d:b.lo.C h.a=Ag):Vq τ fr a o h b:=by
 have:=Alz (τ:=τ) (fr:=fr) (o:=o) d;exact⟨by rw[c];exact this,this.ok,λh=>by rw[c] at h;cases h⟩
def P2 (c:K5 a o=.w) (d:N5 h b.lo):Vq τ fr a o h b:=
 ⟨by rw[c];trivial,Agp d,λh=>Jq⟩
def MZ {a:Y} (e:a.lo=h.ad.lo):a.lo.C h.a=true:=by rw[e,DZ];rfl
def Aih (a:Ch τ fr h.ad o=I (v,b)) (g:∀s d x,o=.convert s d x->b.lo=h.ad.lo):Vq τ fr f o h b:=by
 have i:=XG (Zr a).2;cases c:Dj o with
 |true=>
  have:=Ru c a;have e:CF τ fr o h b.lo=.aK:=by unfold CF;rw[c];rfl
  have j:K5 f o=.q:=by unfold K5;rw[c];rfl
  exact⟨by rw[j,e];rfl,by rw[e];rfl,λ_=>⟨e,by rw[this,BF]⟩⟩
 |false=>
  cases o<;>first
   |(cases c;done)
   |exact⟨rfl,rfl,λh=>Jq⟩
   |(refine Qa rfl (MZ ?_);first|exact g _ _ _ rfl|(simp only[Ch,iH,Gh] at a;repeat' first|(cases a;done)|(rw[Ra a];done)|(cases a;exact Lo _ _)|split at a))
   |(cases a;done)
   |exact P2 rfl i
def WO {c:Call} {b:Builtin} (hb:c.callee=.builtin b) {vs:AH} {d:Y} (a:Bx τ b (aI c.argTypes) vs h.ad=I (v,d)):Vq τ fr f (.call c) h d:=by
 have g:=XG (Pj a).2;have i:∀{o:Option Aa},(match o with|some v=>I (v,h.ad)|none=>Z)=I (v,d)->d.lo=h.ad.lo:=λ{o} e=>by
  cases o<;>cases e;rfl
 cases b
 case len|cap|unsafeSliceData=>exact Qa (by simp[K5,Dj,hb]) (MZ (i a))
 case min|max=>
  refine Qa (by simp[K5,Dj,hb]) (MZ ?_);simp only[Bx] at a;split at a<;>first|exact i a|cases a
 all_goals exact P2 (by simp[K5,Dj,hb]) g
def Ux {b:Builtin} {d:List Ai} {vs:AH} (f:(match Callee.builtin b with|.builtin .len|.builtin .cap|.builtin .min|.builtin .max|.builtin .unsafeSliceData=>Ag|_=>Ah)=Ag) (a:Bx τ b d vs h=I (v,c)):c=h:=by
 have g:∀{o:Option Aa},(match o with|some v=>I (v,h)|none=>Z)=I (v,c)->c=h:=λ{o} e=>by
  cases o<;>cases e;rfl
 cases b<;>first|(cases f;done)|exact g a|(simp only[Bx] at a;split at a<;>first|exact g a|cases a)
def Aag (a:Qy o=Ag) (b:Ch τ fr h o=I (v,c)):c=h:=by
 unfold Qy at a;rw[Dm] at a;rcases a with d|a
 .exact Ru d b
 .split at a<;>first|(cases a;done)|(simp only[Ch,iH] at b;repeat' first|(cases b;done)|exact Ra b|split at b)
def Vc:UO->Hi->Prop
 |.ld id,e=>e=.rd id
 |.lk id t,e=>e=.lk id t
 |.wr s,e=>∀a b,e=.wr a b->a=s
 |.me t r s,e=>∀a b,e=.wr a b->a=s/\(s=.one r->b=I t)
 |.no,_=>True
def Ais {i j:UO} {c:Hi} (h:ob i j) (d:Vc i e) (f:Vc j c):MF e c nx nx'=false:=by
 cases i<;>cases j<;>first|exact Cf h (λh=>h)|skip
 case ld.ld a b=>obtain rfl:e=.rd a:=d;obtain rfl:c=.rd b:=f;rfl
 case ld.wr a s=>
  obtain rfl:e=.rd a:=d;cases c<;>first|rfl|(obtain rfl:=f _ _ B;exact h)
 case ld.me a t r s=>
  obtain rfl:e=.rd a:=d;cases c<;>first|rfl|(obtain⟨rfl,_⟩:=f _ _ B;exact h)
 case wr.ld s a=>
  obtain rfl:c=.rd a:=f;cases e<;>first|rfl|(obtain rfl:=d _ _ B;exact h)
 case me.ld t r s a=>
  obtain rfl:c=.rd a:=f;cases e<;>first|rfl|(obtain⟨rfl,_⟩:=d _ _ B;exact h)
 case lk.me a g t r s=>
  obtain rfl:e=.lk a g:=d;cases c<;>first|rfl|skip
  obtain⟨rfl,k⟩:=f _ _ B;rw[k h.1];show(_&&!(Am g t))=Ah;rw[h.2];simp
 case me.lk t r s a g=>
  obtain rfl:c=.lk a g:=f;cases e<;>first|rfl|skip
  obtain⟨rfl,k⟩:=d _ _ B;rw[k h.1];show(_&&!(Am g t))=Ah;rw[h.2];simp
def Alr {a:WS} {b:Option Ai} (e:Fe h s=.wr a b):a=s:=by
 unfold Fe at e;cases c:s.C h.a<;>rw[c] at e<;>(try simp only[I0] at e)
 all_goals repeat' first|(cases e;done)|(cases e;rfl)|(cases d:HB.live _<;>rw[d] at e)|split at e
def Ars {x:Hi} {c:WS} {a:Option Ai} (d:∀f a,x=.wr f a->f=s) (e:Xb t r x=.wr c a):c=s:=by
 unfold Xb at e;split at e
 .rename_i b m
  have:=d _ _ B;cases hb:Am b r with
  |true=>rw[hb] at e;cases e;exact this
  |false=>rw[hb] at e;cases e;exact this
 .exact d _ _ e
def Q3 {a:WS} {b:Option Ai} (e:CF τ fr o h s=.wr a b):a=s:=by
 have c:∀{a b},Fe h s=.wr a b->a=s:=λe=>Alr e;unfold CF at e;cases d:Dj o with
 |true=>rw[d] at e;cases e
 |false=>
  rw[d] at e;simp only[I0] at e;split at e<;>first
   |(cases e;done)
   |exact c e
   |(split at e<;>first
    |(cases e;done)
    |exact c e
    |exact Ars (λf b h=>c h) e
    |(cases‹Bool›<;>cases e))
def Aub {c:WS} {a:Option Ai} (e:Xb t r (Fe h s)=.wr c a) (d:c=.one r):a=I t:=by
 unfold Xb at e;split at e
 .rename_i b m _
  cases hb:Am b r with
  |true=>rw[hb] at e;cases e;rfl
  |false=>rw[hb] at e;cases e;cases d;simp at hb
 .rename_i f
  rw[d] at e;exact Cf e (f r a)
def Amh (r:Gx A fr):Vc (Qk τ A o J) (CF τ fr o h J.lo):=by
 unfold Qk;split
 .rename_i t a
  split
  .rename_i id off g
   show CF τ fr (.load t a) h J.lo=.rd id;unfold CF;simp only[show Dj (.load t a)=Ah from B,I0,Bg r g]
  .trivial
 .rename_i t m k
  split
  .rename_i x b
   show CF τ fr (.lookup t m k Ah) h J.lo=.lk x t;unfold CF;simp only[show Dj (.lookup t m k Ah)=Ah from B,I0,Bg r b]
  .trivial
 .rename_i t m k
  split
  .rename_i x b
   intro c d e;have f:=Q3 e;refine⟨f,λi=>?_⟩;unfold CF at e;simp only[show Dj (.mapEntry t m k)=Ah from B,I0,Bg r b] at e;exact Aub e (f.trans i)
  .exact λc d e=>Q3 e
 .exact λc d e=>Q3 e
def Q2 {b:List DX} {i:Nat} {c:UO} {P:Prop}:∀{d:List (Nat×UO)},i7 b i c P d->P/\∀p∈d,fK b i p.1=Ag->ob c p.2
 |[],h=>⟨h,λp a=>Jq⟩
 |q::d,h=>by
  change (bif fK b i q.1 then ob c q.2/\i7 b i c P d else i7 b i c P d) at h
  cases f:fK b i q.1 with
  |true=>
   rw[f] at h;let⟨g,j⟩:=Q2 h.2;refine⟨g,λp a e=>?_⟩;rcases bZ.1 a with rfl|a
   .exact h.1
   .exact j p a e
  |false=>
   rw[f] at h;let⟨g,j⟩:=Q2 h;refine⟨g,λp a e=>?_⟩;rcases bZ.1 a with rfl|a
   .rw[f] at e;cases e
   .exact j p a e
def Alq {e:List DX} {j:Nat} (h:fK e i j=Ag):hS e j=true:=by
 unfold fK at h;unfold hS;rw[List.any_eq_true] at h⊢;let⟨d,f,c⟩:=h;refine⟨d,f,?_⟩;cases d with
 |w k=>cases c
 |x a b=>rw[An] at c;show(Am a j||Am b j)=Ag;rw[c.2,qJ]
def tK (b:List DX) (c:fw) (d:List (Nat×UO)):Prop:=∀x∈c,hS b x.1=Ag->∃a,(x.1,a)∈d/\Vc a x.2.1
def Alt {f:List DX} {b:Bo} {c:Cl} {g:fw} {cs:List Cl} {m:List (Nat×UO)} {n:UO} (s:R4 c e) (t:e.ok=Ag) (u:∀x∈g,∃a,cs[x.1]?=I a/\R4 a x.2.1/\a≠.q) (v:Nt f b i c 0 cs=Ag)
 (w:tK f g m) (y:∀p∈m,fK f i p.1=Ag->ob n p.2) (z:Vc n e):Lz b i e g=true:=by
 have B:∀(cs:List Cl) (d:Nat),Nt f b i c d cs=Ag->∀j a,cs[j]?=I a->mU c a=Ag->Hy b i (d+j)=Ag\/fK f i (d+j)=true:=by
  intro cs
  induction cs with
  |nil=>intro d _ j a h;simp at h
  |
   cons x cs A=>
   intro d h j a k o;rw[Nt,An] at h;cases j with
   |
    zero=>
    simp at k;subst k;rw[o] at h;simpa using h.1
   |
    succ j=>
    have:=A (d+1) h.2 j a (by simpa using k) o;rw[show d+(j+1)=d+1+j by omega];exact this
 unfold Lz;rw[t,gT,Jf];rintro⟨j,C,nx,nx'⟩ r;obtain⟨a,D,E,F⟩:=u _ r;simp only;cases l:MF e C nx nx' with
 |false=>rfl
 |
  true=>
  have:=XW s E (λh=>Cf h F) l;have:=B cs 0 v j a D this;rw[Ba] at this;rcases this with this|this
  .rw[this];rfl
  .obtain⟨L,H,K⟩:=w _ r (Alq this)
   have:=Ais (nx:=nx) (nx':=nx') (y _ H this) z K;rw[this] at l;cases l
def Aim {a:Type} (e:Hi) (k:Hi->a):e.C k=k e:=by cases e<;>rfl
def SB {b:fw} {x:Nat×Hi×Nat×Nat} (a:x∈QC i e nx nx' b):x∈b\/(x=(i,e,nx,nx')/\¬(e=.aK/\nx=nx')):=by
 unfold QC at a;split at a
 .cases hb:AD nx nx' with
  |true=>
   rw[hb] at a;rcases bZ.1 a with h|h
   .refine .inr ⟨h,λh=>?_⟩
    rw[AK] at hb;omega
   .exact .inl h
  |false=>rw[hb] at a;exact .inl a
 .rename_i c
  rcases bZ.1 a with h|h
  .exact .inr ⟨h,λh=>c h.1⟩
  .exact .inl h
def Ja {a:List DX} {sz:Nat} {AU:List C0} {b:Bo} {k:As->Y->Prop} (M:AU.all (λo=>QI AU o.guard)=Ag):
 ∀(l:List C0) (i:Nat) (cs:List Cl) (y:fw) (d:List (Nat×UO)) {A:As} {fr:Fr} {h:Y},(∀o∈l,o∈AU)->LT cs=i->L5 a b i cs l=Ag->(∀x∈y,∃u,cs[x.1]?=I u/\R4 u x.2.1/\u≠.q)->tK a y d->
  Kb τ call a sz AU k l i d A h->Gx A fr->fr.sz=sz->
  ∃f z J,Gx f z/\z.sz=sz/\z.ds=fr.ds/\k f J/\∀kk,MC τ call AU b kk l i y fr h=kk z J
 |[],i,cs,y,d,A,fr,h,_,_,_,_,_,c,r,H=>⟨A,fr,h,r,H,B,c,λ_=>B⟩
 |
  o::l,i,cs,y,d,A,fr,h,aa,N,E,ab,O,c,r,H=>by
  have ad:QI AU o.guard=true:=Jf.1 M o (aa o wl);rw[L5,An] at E;obtain⟨C,ae⟩:∃x,iD a i=x:=⟨_,B⟩;rw[ae] at E;have af:∀o∈l,o∈AU:=λx n=>aa x (Az _ n);have ag:∀x∈y,∃u,(cs++[K5 C o.op])[x.1]?=I u/\R4 u x.2.1/\u≠.q:=λx n=>by
   obtain⟨u,g,h2⟩:=ab x n;exact⟨u,by rw[AB (cG.1 g).1];exact g,h2⟩
  change MW A AU (λA=>PG Ah τ call A h.ad o.op λv J=>i7 a i (Qk τ A o.op J) (
   bif RS o.op then(bif iD a i then J.lo.C h.a=Ag else N5 h J.lo)/\HA sz A o.dst v λf=>Kb τ call a sz AU k l (i+1) (Tw a i (Qk τ A o.op J) d) f (h.M J)
   else bif Qy o.op then HA sz A o.dst v (λf=>Kb τ call a sz AU k l (i+1) (Tw a i (Qk τ A o.op J) d) f h) else HA sz A o.dst v (λf=>Kb τ call a sz AU k l (i+1) (Tw a i (Qk τ A o.op J) d) f (h.M J))) d)
   (λA=>HA sz A o.dst (.tuple #[]) λA=>Kb τ call a sz AU k l (i+1) d A h) o.guard at c
  rw[ae] at c;rcases Kw c r with⟨P,F,Q,c1⟩|⟨P,F,Q,c1⟩
  .obtain⟨v,g,j,ho,D⟩:=Kj F c1
   obtain⟨j,ah⟩:=Q2 j;have R:=Amh (τ:=τ) F (o:=o.op) (h:=h) (J:=g);obtain⟨S,aj⟩:∃x,Qk τ P o.op g=x:=⟨_,B⟩;rw[aj] at j ah R;have he:Vq τ fr C o.op h g/\HA sz P o.dst v (λA=>Kb τ call a sz AU k l (i+1) (Tw a i S d) A (h.M g)):=by
    have ak:RS o.op=Ah->Qy o.op=Ag->h.M g=h:=λm p=>by
     suffices g=h.ad by rw[this];cases h;rfl
     rcases D with D|⟨bb,vs,cc,e,hb,t,_⟩|⟨it,s,vi,e,t⟩|⟨t,hc⟩
     .rw[m] at D;cases D
     .rw[e] at p
      simp only[Qy,Dj,hb,Bool.false_or] at p;exact Ux p t
     .rw[e] at p;cases p
     .exact Aag p t
    cases m:RS o.op with
    |
     true=>
     simp only[m,D1] at j;refine⟨?_,j.2⟩;have ai:K5 C o.op=bif C then .r else .w:=by
      revert m
      cases o.op<;>intro m<;>first|(cases m;done)|skip
      rename_i cc;simp only[RS] at m;simp only[K5,Dj,I0];split at m
      .cases m
      .rename_i K
       split<;>first|rfl|(rename_i e;exact Cf e (K _))
     cases C with
     |true=>exact Qa ai j.1
     |false=>exact P2 ai j.1
    |
     false=>
     simp only[m,I0] at j;refine⟨?_,by
      cases p:Qy o.op with
      |true=>simp only[p,D1] at j;rw[ak m p];exact j
      |false=>simp only[p,I0] at j;exact j⟩
     rcases D with D|⟨bb,vs,cc,e,hb,t,_⟩|⟨it,s,vi,e,t⟩|⟨t,hc⟩
     .rw[m] at D;cases D
     .rw[e];exact WO hb t
     .rw[e];exact P2 B (XG (V4 t v g (bQ.2 B)).2)
     .exact Aih t hc
   obtain⟨⟨e1,e2,e3⟩,c3⟩:=he;obtain⟨al,am,T,V,W,d2,c4⟩:=FY c3 F H;have hg:=Alt e1 e2 ab E.1 O ah R;obtain⟨f,z,J,X,q2,Z,U,G⟩:=Ja M l (i+1) (cs++[K5 C o.op]) (QC i (CF τ fr o.op h g.lo) h.a g.a y) (Tw a i S d) af (by simp[N]) E.2 (λx n=>by
    rcases SB n with n|⟨rfl,K⟩
    .exact ag x n
    .refine⟨K5 C o.op,by simp[←N],e1,λhq=>?_⟩
     obtain⟨z1,z2⟩:=e3 hq;exact K ⟨z1,z2.symm⟩) (λx n L=>by
    unfold Tw;rcases SB n with n|⟨rfl,K⟩
    .obtain⟨an,m1,m2⟩:=O x n L
     refine⟨an,?_,m2⟩;cases hS a i with
     |true=>exact Az _ m1
     |false=>exact m1
    .refine⟨S,?_,R⟩
     have L:hS a i=true:=L;rw[L];exact Av) c4 V W
   refine⟨f,z,J,X,q2,Z.trans d2,U,λkk=>?_⟩;rw[MC,ad,Q];simp only[D1];rw[ho];simp only[T,Aim,hg,D1];exact G kk
  .obtain⟨al,am,T,V,W,d2,c4⟩:=FY c1 F H
   obtain⟨f,z,J,X,q2,Z,U,G⟩:=Ja M l (i+1) (cs++[K5 C o.op]) y d af (by simp[N]) E.2 ag O c4 V W;refine⟨f,z,J,X,q2,Z.trans d2,U,λkk=>?_⟩;rw[MC,ad,Q];simp only[D1,T];exact G kk
def Arn (ro:Option Nat):X8 τ call ro:=by
 intro sz AU o k A fr h c r m;cases o with
 |false=>
  obtain⟨a,b,J,d,e,f,g,i⟩:=Ku (ro:=ro) (aI AU) c r m;exact⟨a,b,J,d,e,f,g,λK=>i K.p K.n⟩
 |true=>
  let⟨q,j,c⟩:=c;rw[vK,An] at j;let⟨a,b,J,d,e,f,g,i⟩:=Ja j.1 (aI AU) 0 [] [] [] (λ_ h=>h) B j.2 (λx l=>Jq) (λx l=>Jq) c r m;exact⟨a,b,J,d,e,f,g,λK=>i K.n⟩
end
def iy (D:Bo):List Deferred:=D.map λb=>{target:=.collected b,args:=#[]}
structure fO (m:Bool) (call:Be) {X:Type} (P:(X->RR)->Prop):Prop where
 c:m=Ag->∀{f:Fn} {args:AH} {h:Y} {k:Aa->Y->Prop} {kk kp:X->Aa->Y->RR},JW Ag call f args h k->(∀v J,k v J->P λy=>kk y v J)->P λy=>call f args h (kk y) (kp y)
 j:m=Ag->∀a b:X->RR,P a->P b->P λy=>Ns (a y) (b y)
structure jV {X σ:Type} (P:(X->RR)->Prop) (sz:Nat) (dl:σ->List Hh) (K:KG σ) (Kt:X->Kt):Prop where
 n:∀fr h s A,fr.sz=sz->fr.ds=dl s->Gx A fr->K.n A s h->P λy=>(Kt y).n fr h
 x:∀id fr h s A,fr.sz=sz->fr.ds=dl s->Gx A fr->K.x id A s h->P λy=>(Kt y).x id fr h
 r:∀fr h s A,fr.sz=sz->fr.ds=dl s->Gx A fr->K.r A s h->P λy=>(Kt y).r fr h
 p:∀v fr h s A,fr.sz=sz->fr.ds=dl s->Gx A fr->K.p v A s h->P λy=>(Kt y).p v fr h
structure mt {σ:Type} (M:Md σ) (dl:σ->List Hh) (ro:Option Nat):Prop where
 lp:∀{L body K A s h},M.lp L body K A s h->vR L body K A s h
 a:∀{g},M.a=I g->ro=Z/\∀b s,dl (g b s)={target:=.collected b,args:=#[]}::dl s
def R3 {b:Bool} {ds:List Hh} {ro:Option Nat}:mt (iA b) (λ_=>ds) ro:=⟨λ⟨a,⟨m,c,i⟩,d⟩=>⟨λm A _ h=>a m A h,⟨m,c,i⟩,λm A _ h i f=>d m A h i f⟩,λe=>Jq⟩
def AEz:mt pg iy none:=⟨λh=>h,λe=>by cases e;exact⟨B,λ_ _=>B⟩⟩
section
variable{τ:Bb} {call:Be} {m:Bool} {X σ:Type} {P:(X->RR)->Prop} {ro:Option Nat} {f:Au} {a:AH} {h:Y} {k Q:Aa->Y->Prop} {A:As} {fr:Fr} {sz L n:Nat} {S:A9} {fn:BC}
def W0:fO Ah call P:=⟨λh=>Jq,λh=>Jq⟩
def W1 {p:EO->Prop}:fO Ag call λg:Unit->RR=>gH p (g ()):=⟨λ_ _ _ _ _ _ _ ⟨_,c,a⟩ H=>c _ _ p λv J b=>H v J (a v J b),λ_ _ _ x y=>x.join y⟩
def YJ (W:fO m call P) {f:Fn} (c:JW m call f a h k) {kk kp:X->Aa->Y->RR} (H:∀v J,k v J->P λy=>kk y v J):P λy=>call f a h (kk y) (kp y):=by
 cases m with
 |false=>
  let⟨v,J,b,d⟩:=TY c;rw[funext λy=>d (kk y) (kp y)];exact H v J b
 |true=>exact W.c B c H
def uz (W:fO m call P) (a:m=Ag) {kk:X->Aa->Y->RR}:∀(x:Aa×Y) (l:List (Aa×Y)),(∀y∈x::l,P λz=>kk z y.1 y.2)->P λz=>R2 (kk z) (x::l)
 |
  x,[],H=>by
  have e:∀r,Ns r (I [])=r:=λr=>by cases r<;>simp[Ns]
  have:=H x Av;simpa only[R2,e] using this
 |x,y::l,H=>W.j a _ _ (H x Av) (uz W a y l λz b=>H z (Az _ b))
def pa (W:fO m call P) (r:Gx A fr) {o:Op} (c:PG m τ call A h o k) {kk kp:X->Aa->Y->RR} (H:∀v J,k v J->P λy=>kk y v J):P λy=>F9 τ call fr h o (kk y) (kp y):=by
 have C:PG Ah τ call A h o k->P λy=>F9 τ call fr h o (kk y) (kp y):=λc=>by
  obtain⟨v,J,e,d,_⟩:=Kj r c;rw[funext λy=>d (kk y) (kp y)];exact H v J e
 cases m with
 |false=>exact C c
 |true=>
  cases o with
  |call cl=>
   cases hb:cl.callee with
   |builtin b=>exact C (by unfold PG at c⊢;simp only[] at c⊢;rw[hb] at c⊢;exact c)
   |invoke p q=>
    unfold PG at c;simp only[] at c;split at c
    .cases c
    rename_i vs g;rw[hb] at c;simp only[] at c;split at c
    .rename_i t v a
     let⟨f,u,i,j⟩:=c;simp only[F9,Ju,FX r g,hb,Bg r a,Hd,i];exact YJ W j H
    .cases c
   |value f=>
    unfold PG at c;simp only[] at c;split at c
    .cases c
    rename_i vs g;rw[hb] at c;simp only[] at c;split at c
    .rename_i w a
     simp only[F9,Ju,FX r g,hb,Bg r a];unfold kl at c;split at c
     .exact YJ W c H
     .exact YJ W c H
     .cases c
    .cases c
  |next it s=>
   unfold PG at c;simp only[] at c;split at c
   .rename_i v a
    let⟨x,l,e,d⟩:=c;simp only[F9,Bg r a,e];cases l with
    |nil=>exact H _ _ (d x.1 x.2 Av)
    |cons y l=>exact uz W B x (y::l) λz n=>H _ _ (d z.1 z.2 n)
   .cases c
  |_=>exact C c
def zp (W:fO m call P) (r:Gx A fr) {o:Op} (c:QD m τ call A h o k) {kk kp:X->Aa->Y->RR} (H:∀v J,k v J->P λy=>kk y v J):(P λy=>F9 τ call fr h o (kk y) (kp y))/\∀a,o≠.defer a:=by
 unfold QD at c;split at c
 .rename_i s d x
  split at c
  .let⟨v,J,e,b⟩:=c
   exact⟨by simp only[F9,IS r e];exact H v J b,Jq⟩
  .exact⟨pa W r c H,Jq⟩
 .exact⟨pa W r c H,λa e=>by rw[e] at c;exact c⟩
def YM (W:fO m call P) {sz:Nat} {AU:List C0} {k:As->Y->Prop} {kp:X->Aa->Fr->Y->RR} {kk:X->Fr->Y->RR} {ds:List Hh} (H:∀p a J,Gx p a->a.sz=sz->a.ds=ds->k p J->P λy=>kk y a J):
 ∀(l:List C0) {A:As} {fr:Fr} {h:Y},JV m τ call sz AU k l A h->Gx A fr->fr.sz=sz->fr.ds=ds->P λy=>EX τ call ro AU (kp y) (kk y) l fr h
 |[],A,fr,h,c,r,b,d=>H A fr h r b d c
 |o::l,A,fr,h,c,r,b,d=>by
  change MW A AU (λA=>QD m τ call A h o.op λv J=>HA sz A o.dst v λA=>JV m τ call sz AU k l A J)
   (λA=>HA sz A o.dst (.tuple #[]) λA=>JV m τ call sz AU k l A h) o.guard at c
  rcases Kw c r with⟨s,f,g,c1⟩|⟨s,f,g,c1⟩
  .have q:=zp W (kk:=λy v J=>match fr.set o.dst v with|some a=>EX τ call ro AU (kp y) (kk y) l a J|none=>Z) (kp:=λy v J=>kp y v fr J) f c1 λv J t=>by
    obtain⟨u,w,i,j,n,z,B⟩:=FY t f b;simp only[i];exact YM W H l B j n (z.trans d)
   have e:∀K k',IB τ call ro fr h o K k'=F9 τ call fr h o.op (λv J=>match fr.set o.dst v with|some a=>K a J|none=>Z) k':=λK k'=>by
    unfold IB;split
    .rename_i x e;exact Cf e (q.2 x)
    .rfl
   simp only[EX,g,e];exact q.1
  .let⟨u,w,i,j,n,z,B⟩:=FY c1 f b
   simp only[EX,g,i];exact YM W H l B j n (z.trans d)
def VB:∀{l l':List C0} {x:BU},ku l=I (l',x)->∃ty a b,l=l'++[⟨Z,.panic x,ty,a,b,Z⟩]
 |[],_,_,h=>Jq
 |[o],l',x,h=>by
  obtain⟨c,op,ty,a,b,g⟩:=o;change (match(⟨c,op,ty,a,b,g⟩:C0) with
   |⟨Z,.panic x,_,_,_,Z⟩=>I ([],x)
   |_=>Z)=I (l',x) at h
  split at h
  .rename_i e;cases h;cases e;exact⟨_,_,_,B⟩
  .cases h
 |o::d::l,l',x,h=>by
  change (match ku (d::l) with|I (l',x)=>I (o::l',x)|Z=>Z)=I (l',x) at h
  split at h
  .rename_i i y f
   cases h;let⟨ty,a,b,e⟩:=VB f;exact⟨ty,a,b,Jq⟩
  .cases h
def Q9 {AU:List C0} {kp:Aa->Fr->Y->RR} {k:Fr->Y->RR} {m:List C0}:∀(l:List C0) (fr:Fr) (h:Y),EX τ call ro AU kp k (l++m) fr h=EX τ call ro AU kp (λfr h=>EX τ call ro AU kp k m fr h) l fr h
 |[],_,_=>rfl
 |o::l,fr,h=>by
  rw[KB,EX,EX];rw[(by funext fr h;exact Q9 l fr h:(λa J=>EX τ call ro AU kp k (l++m) a J)=λa J=>EX τ call ro AU kp (λfr h=>EX τ call ro AU kp k m fr h) l a J)];simp[Q9 l]
def La (W:fO m call P) {M:Md σ} {w:σ->List Hh} (hM:mt M w ro) (L sz:Nat):∀(c:DC) (K:KG σ) (Kt:X->Kt) (A:As) (s:σ) (fr:Fr) (h:Y),IH m τ call M L sz c K A s h->Gx A fr->fr.sz=sz->fr.ds=w s->jV P sz w K Kt->P λy=>B7 τ call L ro c (Kt y) fr h:=by
 intro c
 induction c with
 |skip=>exact λK Kt A s fr h c r i j H=>H.n fr h s A i j r c
 |label=>exact λK Kt A s fr h c r i j H=>H.n fr h s A i j r c
 |
  region id AU z=>
  intro K Kt A s fr h c r i j H;have ag:JA m τ call sz AU z (λA h=>K.n A s h) A h->P λy=>B7 τ call L ro (.region id AU z) (Kt y) fr h:=λc=>by
   cases z with
   |false=>exact YM W (kp:=λy=>(Kt y).p) (λC o J k V aa q=>H.n o J s C V aa k q) _ c r i j
   |true=>
    obtain⟨C,o,J,q1,q2,q3,q4,q5⟩:=Arn ro sz AU Ag (λA h=>K.n A s h) A fr h c r i;show P λy=>T4 τ call ro AU Ag (Kt y) fr h;rw[funext λy=>q5 (Kt y)];exact H.n o J s C q2 (q3.trans j) q1 q4
  change (match M.c3 with
   |Ah=>JA m τ call sz AU z (λA h=>K.n A s h) A h
   |Ag=>match ku (aI AU) with
    |I (l,x)=>z=Ah/\JV m τ call sz (aI AU) (λA h=>match Dn τ A x with|I (.iface t v)=>K.p (.iface t v) A s h|_=>False) l A h
    |Z=>JA m τ call sz AU z (λA h=>K.n A s h) A h) at c
  split at c
  .exact ag c
  split at c
  case h_2=>exact ag c
  rename_i l x hp;obtain⟨rfl,c⟩:=c;let⟨ty,po,ah,e⟩:=VB hp;have F:∀y,B7 τ call L ro (.region id AU Ah) (Kt y) fr h=EX τ call ro (aI AU) (Kt y).p (λfr h=>EX τ call ro (aI AU) (Kt y).p (Kt y).n [⟨Z,.panic x,ty,po,ah,Z⟩] fr h) l fr h:=λy=>by
   rw[←Q9,←e];rfl
  rw[funext F];refine YM W (λC o J k V aa q=>?_) l c r i j;split at q
  case h_2=>cases q
  rename_i t v hx;have:∀y,EX τ call ro (aI AU) (Kt y).p (Kt y).n [⟨Z,.panic x,ty,po,ah,Z⟩] o J=(Kt y).p (.iface t v) o J:=λy=>by
   simp[EX,E5,IB,F9,(Bg k hx)]
  simp only[this];exact H.p _ o J s C V aa k q
 |seq a b ab ad=>exact λK Kt A s fr h c r i j H=>ab _ _ A s fr h c r i j ⟨λfr h s A D d r c=>ad K Kt A s fr h c r D d H,H.x,H.r,H.p⟩
 |cond x a b ab ad=>
  intro K Kt A s fr h c r i j H;change (match Dn τ A x with
   |I (.bool t)=>ZT t (IH m τ call M L sz a K A s h) (IH m τ call M L sz b K A s h)
   |_=>False) at c
  split at c
  case h_2=>cases c
  rename_i t ht;show P λy=>Vg _ _ (Kt y) fr h (ev τ fr x);rw[Bg r ht];cases t with
  |true=>exact ab K Kt A s fr h c r i j H
  |false=>exact ad K Kt A s fr h c r i j H
 |block id c N=>
  refine λK Kt A s fr h c r i j H=>N _ _ A s fr h c r i j ⟨H.n,λS fr h s A D d r c=>?_,H.r,H.p⟩;change (bif Am S id then K.n A s h else K.x S A s h) at c
  simp only[];cases hb:Am S id with
  |true=>rw[hb] at c;exact H.n fr h s A D d r c
  |false=>rw[hb] at c;exact H.x S fr h s A D d r c
 |loop c N=>
  intro K Kt A s fr h q r i j H;let⟨ak,⟨E,A0,ae,T,U⟩,hI⟩:=hM.lp q;have Cw:∀(n E:Nat) A s fr h,ak E A s h->E<n->n<=L->Gx A fr->fr.sz=sz->fr.ds=w s->P λy=>Nq (B7 τ call L ro c) n (Kt y) fr h:=by
   intro n
   induction n with
   |zero=>exact λm A s fr h _ T=>Cf T (F5 _)
   |succ n al=>exact λE A s fr h U T hn r i j=>N _ _ A s fr h (hI E A s h U G) r i j ⟨λo J s' C D d k q=>by
    let⟨m',A0,ae,lt,am⟩:=q;exact al m' A0 s' o J am G G (λt v u=>k t v (ae t v u)) D d,H.x,H.r,H.p⟩
  exact Cw L E A0 s fr h U T (Ae _) (λt v u=>r t v (ae t v u)) i j
 |rangeFunc f ps ai aj _ _=>
  intro K Kt A s fr h c r i j H;change (match M.a with|I g=>QU m τ call g sz ps ai aj K A s h (Dn τ A f)|Z=>False) at c
  split at c
  case h_2=>cases c
  rename_i g O;obtain⟨rfl,O⟩:=hM.a O;unfold QU at c;split at c
  case h_2=>cases c
  rename_i f0 first cap hf
  let⟨af,c⟩:=c;split at af
  case h_2=>cases af
  rename_i fn an;let⟨Q,ZI,ds⟩:=fr;simp only at i j;subst i j;show P λy=>Oo τ call Z ps ai aj (Kt y) ⟨Q,ZI,w s⟩ h (ev τ ⟨Q,ZI,w s⟩ f);rw[Bg (λt v u=>r t v u) hf];simp only[Oo,U5,an,af,D1];refine YJ W (c Q (λt v u=>r t v u)) λv h2 hh=>?_;let⟨st,ao,ap,aq,ar,au,av,d',e1,F,R⟩:=hh;have k:Gx A ⟨Q,ZI,{target:=.collected h.a,args:=#[]}::w s⟩:=λt v u=>r t v u;simp only[HP,e1];split at R
  .have:=H.n _ _ _ A B (O h.a s).symm k R
   cases st<;>first|exact Cf B F|exact this
  .have:=H.r _ _ _ A B (O h.a s).symm k R
   cases st<;>first|exact Cf B F|exact this
  .have:=H.x _ _ _ _ A B (O h.a s).symm k R
   cases st<;>first|exact Cf B F|exact this
  .cases R
 |scope c N=>exact λK Kt A s fr h c r i j H=>N K Kt A s fr h c r i j H
 |exit id=>exact λK Kt A s fr h c r i j H=>H.x id fr h s A i j r c
 |ret=>exact λK Kt A s fr h c r i j H=>H.r fr h s A i j r c
 |_=>exact λK Kt A s fr h c=>Jq
def TB (b:LT a<=sz):Gx (PJ a 0) ⟨T.laid a 0 .nil,sz,[]⟩:=by
 intro t v b;let⟨_,c⟩:=Sz a 0 t v b;rw[T.O];have:=(cG.1 c).1;rw[Bi G];exact c
def Kv {dv:Au->Option (AH->Y->Option Y)} {a:List ResultVar} {A:As} {fr:Fr} (r:Gx A fr) {Q:Aa->Y->Prop}:∀(D:Bo) {h:Y},Og D (λh=>Ex τ A h a (λvs=>Q (Ff vs) h)) h->
 ∃v J,Q v J/\∀k,Iw τ dv a fr k (iy D) h=k v J
 |[],h,c=>by
  let⟨vs,d,e⟩:=Hf r _ c;exact⟨Ff vs,h,e,λk=>by show(match Ng τ fr h a with|some vs=>k (Ff vs) h|none=>Z)=_;rw[d]⟩
 |b::D,h,⟨c1,f⟩=>by
  obtain⟨v,J,g,i⟩:=Kv r D f;exact⟨v,J,g,λk=>by
   show Iw τ dv a fr k ({target:=.collected b,args:=#[]}::iy D) h=_;rw[Iw,c1];exact i k⟩
def Qt (τ:Bb) (S:A9) (fn:BC) (k kp:Aa->Y->RR):Kt:=.mk (λfr h=>Iw τ S.b (aI fn.results) fr k fr.ds h) (λ_ _ _=>Z) (λfr h=>Iw τ S.b (aI fn.results) fr k fr.ds h) (TC τ S.c (aI fn.results) k kp)
def rN {i:Aa->Y->Prop} {kk kp:X->Aa->Y->RR} (b:∀v J,Q v J->P λy=>kk y v J) (d:∀v J,i v J->P λy=>kp y v J):
 jV P sz (λ_=>[]) (KG.mk (λA (_:Unit) h=>Ex τ A h (aI fn.results) (λvs=>Q (Ff vs) h)) (λ_ _ _ _=>False) (λA _ h=>Ex τ A h (aI fn.results) (λvs=>Q (Ff vs) h)) λv _ _ h=>i v h) λy=>Qt τ S fn (kk y) (kp y):=
 have j:∀fr h (_:Unit) A,fr.sz=sz->fr.ds=[]->Gx A fr->Ex τ A h (aI fn.results) (λvs=>Q (Ff vs) h)->P λy=>Iw τ S.b (aI fn.results) fr (kk y) fr.ds h:=λfr h _ A _ a r c=>by
  obtain⟨v,e,f,g⟩:=Kv (dv:=S.b) r [] c;rw[show fr.ds=iy [] from a];simp only[g];exact b v e f
 ⟨j,λ_ _ _ _ _ _ _ _ c=>c.elim,j,λv fr h _ A _ a _ c=>by
  show P λy=>TC τ S.c (aI fn.results) (kk y) (kp y) v fr h;unfold TC;rw[a];exact d v h c⟩
def QM {c:DC} (b:τ.fn.get f=I fn) (d:S.hk f=Z) (e:fn.body=I c) (g:LT a<=fn.ntmps) (h:Y) (k kp:Aa->Y->RR):
 DY τ S call L f a h k kp=B7 τ call L Z c (Qt τ S fn k kp) ⟨T.laid a 0 .nil,fn.ntmps,[]⟩ h:=by
 have i:GA a fn.ntmps=I ⟨T.laid a 0 .nil,fn.ntmps,[]⟩:=by
  unfold GA;rw[Aq g];rfl
 unfold DY;rw[b];simp only[e,i];unfold Ss;simp only[d];rfl
def YV {g:Be->AH->Y->Jl} {J:Y} {v:Aa} (b:S.a f=I g) (e:g (B8 τ S L n) a h=I (v,J)) (k kp:Aa->Y->RR):B8 τ S L (n+1) (.func f) a h k kp=k v J:=by
 simp only[B8,b,e]
def Kl (b:S.a f=Z) (c:S.M f=Z) (a:AH) (h:Y) (k kp:Aa->Y->RR):B8 τ S L (n+1) (.func f) a h k kp=DY τ S (B8 τ S L n) L f a h k kp:=by
 simp only[B8,b,fB,c]
abbrev P1 (Q:Aa->Y->Prop):((Aa->Y->RR)×(Aa->Y->RR)->RR)->Prop:=λg=>∃v J,Q v J/\∀k kp,g (k,kp)=k v J
def P1.C (b:S.a f=Z) (c:S.M f=Z) (H:P1 Q λy=>DY τ S (B8 τ S L n) L f a h y.1 y.2):Cd (B8 τ S L (n+1)) (.func f) a h Q:=
 H.imp λ_ h=>h.imp λ_ ⟨q,e⟩=>⟨q,λk kp=>(Kl b c _ _ _ _).trans (e k kp)⟩
def iw:jV (P1 Q) sz (λ_=>[]) (kp (λA h=>Ex τ A h (aI fn.results) (λvs=>Q (Ff vs) h)) (λ_ _ _=>False) (λA h=>Ex τ A h (aI fn.results) (λvs=>Q (Ff vs) h))) λy=>Qt τ S fn y.1 y.2:=
 rN (λv J q=>⟨v,J,q,λ_ _=>B⟩) λ_ _ q=>q.elim
def tU (d:τ.fn.get f=I fn) (e:S.hk f=Z) (g:S.a f=Z) (i:S.M f=Z)
 (c:YR τ (B8 τ S L n) L fn a h Q):Cd (B8 τ S L (n+1)) (.func f) a h Q:=by
 let⟨b,c⟩:=c;unfold i4 at c;split at c
 case h_2=>cases c
 rename_i j;exact P1.C g i (by simp only[QM d e j b];exact La W0 R3 L _ _ _ _ _ () _ h c (TB b) B B iw)
def jZ (W:fO m call P) (S:A9) (L:Nat) (b:τ.fn.get f=I fn) (d:S.hk f=Z) (c:MT m τ call L fn a h Q) {k kp:X->Aa->Y->RR} (H:∀v J,Q v J->P λy=>k y v J):
 P λy=>DY τ S call L f a h (k y) (kp y):=by
 unfold MT at c;split at c
 case h_2=>cases c
 rename_i n e;simp only[QM b d e c.1];have o:∀fr h D A,fr.sz=fn.ntmps->fr.ds=iy D->Gx A fr->Og D (λh=>Ex τ A h (aI fn.results) (λvs=>Q (Ff vs) h)) h->P λy=>Iw τ S.b (aI fn.results) fr (k y) fr.ds h:=λfr h D A _ g r c=>by
  obtain⟨v,i,j,l⟩:=Kv (dv:=S.b) r D c;rw[g];simp only[l];exact H v i j
 exact La W AEz L _ _ _ _ _ [] _ h c.2 (TB c.1) B B ⟨o,λ_ _ _ _ _ _ _ _ c=>c.elim,o,λ_ _ _ _ _ _ _ _ c=>c.elim⟩
def vw (a:τ.fn.get f=I fn) (b:S.hk f=Z) (d:S.a f=Z) (e:S.M f=Z) {g:AH}
 (c:MT m τ (B8 τ S L n) L fn g h Q):rG m (B8 τ S L (n+1)) (.func f) g h Q:=by
 cases m with
 |false=>exact P1.C d e (jZ W0 S L a b c λv J q=>⟨v,J,q,λ_ _=>B⟩)
 |true=>
  intro k kp p H;rw[Kl d e];exact jZ W1 S L a b c (k:=λ_=>k) (kp:=λ_=>kp) H
end
variable {τ:Bb} {t e:Ai} {h c a J:Y} {b o N j i b0 k off t2 m:Nat} {v x z:Aa} {s:WS} {P W:Nat->Prop} {xs ys:AH}
def XF (τ:Bb) (t:Ai):Bool:=match τ.ds.get t with|I d=>!J5 d|Z=>Ah
def aC (h:Y) (b o:Nat) (v:Aa):Prop:=b<h.a/\∃c n e lo U x,h.t.get b=I (.cells c n e lo U x)/\c.get o=I v
def ld (a:XF τ t=Ag) (c:aC h b o v):Bw τ t h b o=I v:=by
 let⟨_,c,n,e,lo,U,x,g,i⟩:=c;unfold XF at a;unfold Bw;cases f:τ.ds.get t with
 |none=>rw[f] at a;cases a
 |some d=>
  rw[f] at a;have:J5 d=false:=Jq
  simp only[g,this,I0,i]
def F2 (hb:N<=b) (d:s.C N=Ag):(Gf s b).C N=true:=by
 have hb':=Aq hb;cases s with
 |no=>exact hb'
 |one c=>
  rw[HT];have a:Ar N c=true:=d;cases Am c b with
  |true=>exact a
  |false=>cases Ar c b<;>simp[WS.C,hb',a]<;>exact⟨Ac a,hb⟩
 |rest lo=>
  rw[Kr];have a:=d;cases Ar lo b<;>simp[WS.C]<;>first|exact Ac a|exact⟨hb,Ac a⟩
 |pair c lo=>
  rw[FL];have a:(Ar N c&&Ar N lo)=true:=d;rw[An] at a;have e:=Ac a.1;have f:=Ac a.2;cases(Am c b||Ar lo b) with
  |true=>exact d
  |false=>
   cases Ar c b with
   |true=>simp[WS.C];exact⟨e,hb⟩
   |false=>
    simp[WS.C];refine⟨hb,?_⟩;unfold Gg;cases Ar c lo<;>simp<;>assumption
def MY (d:N<=j) (b:s.C N=Ag):(Lr s j).C N=true:=by
 cases s with
 |no=>exact Aq d
 |one c=>
  rw[Ke];have a:=Ac (b);cases Ar j c<;>simp[WS.C]<;>omega
 |rest i=>
  have a:=Ac (b);show Ar N (Gg i j)=Ag;apply Aq;unfold Gg;cases Ar i j<;>simp<;>assumption
 |pair c lo=>
  have a:(Ar N c&&Ar N lo)=true:=b;rw[An] at a;have e:=Ac a.1;have f:=Ac a.2;show(Ar N c&&Ar N (Gg lo j))=Ag;rw[An];refine⟨a.1,Aq ?_⟩;unfold Gg;cases Ar lo j<;>simp<;>assumption
def Rx {c:WS} (a:s.C N=Ag) (d:c.C N=Ag):(Pf s c).C N=true:=by
 cases c with
 |no=>exact a
 |one i=>exact F2 (Ac d) a
 |rest j=>exact MY (Ac d) a
 |pair b j=>
  have e:(Ar N b&&Ar N j)=true:=d;rw[An] at e;exact F2 (Ac e.1) (MY (Ac e.2) a)
def GG (N b0:Nat) (s:WS):Prop:=s.C N=Ag\/s=.one b0\/∃lo,N<=lo/\s=.pair b0 lo
def Jy (a:N<=i) (b:N<=j):N<=Gg i j:=by
 unfold Gg;cases Ar i j<;>simp<;>assumption
def Ib (hb:b0<N) (U:i=b0\/N<=i) (h:GG N b0 s):GG N b0 (Gf s i):=by
 rcases U with rfl|U
 .rcases h with h|rfl|⟨lo,a,rfl⟩
  .cases s with
   |no=>exact .inr (.inl B)
   |
    one b=>
    have h:=Ac (show Ar N b=Ag from h);rw[HT,show Am b i=Ah from MK.2 λe=>by have:=Af e;omega,show Ar b i=Ah from MK.2 λe=>by have:=Ac e;omega];exact .inr (.inr ⟨b,h,B⟩)
   |
    rest lo=>
    have h:=Ac (show Ar N lo=Ag from h);rw[Kr,show Ar lo i=Ah from MK.2 λe=>by have:=Ac e;omega];exact .inr (.inr ⟨lo,h,B⟩)
   |
    pair b lo=>
    have c:(Ar N b&&Ar N lo)=true:=h;rw[An] at c;have a:=Ac c.1;have d:=Ac c.2;rw[FL,show Am b i=Ah from MK.2 λe=>by have:=Af e;omega,show Ar lo i=Ah from MK.2 λe=>by have:=Ac e;omega,
     show Ar b i=Ah from MK.2 λe=>by have:=Ac e;omega]
    exact .inr (.inr ⟨Gg b lo,Jy a d,B⟩)
  .rw[HT,show Am i i=Ag by simp];exact .inr (.inl B)
  .rw[FL,show Am i i=Ag by simp];exact .inr (.inr ⟨lo,a,B⟩)
 .rcases h with h|rfl|⟨lo,a,rfl⟩
  .exact .inl (F2 U h)
  .rw[HT,show Am b0 i=Ah from MK.2 λe=>by have:=Af e;omega,Aq (show b0<=i by omega)]
   exact .inr (.inr ⟨i,U,B⟩)
  .rw[FL,show Am b0 i=Ah from MK.2 λe=>by have:=Af e;omega,Aq (show b0<=i by omega)]
   cases Ar lo i
   .exact .inr (.inr ⟨i,U,B⟩)
   .exact .inr (.inr ⟨lo,a,B⟩)
def Uk (hb:b0<N) (a:N<=j) (h:GG N b0 s):GG N b0 (Lr s j):=by
 rcases h with h|rfl|⟨lo,b,rfl⟩
 .exact .inl (MY a h)
 .rw[Ke,show Ar j b0=Ah from MK.2 λe=>by have:=Ac e;omega]
  exact .inr (.inr ⟨j,a,B⟩)
 .exact .inr (.inr ⟨Gg lo j,Jy b a,B⟩)
def YY {a:WS} (hb:b0<N) (h:GG N b0 s) (J:GG N b0 a):GG N b0 (Pf s a):=by
 rcases J with J|rfl|⟨lo,d,rfl⟩
 .cases a with
  |no=>exact h
  |one i=>exact Ib hb (.inr (Ac J)) h
  |rest j=>exact Uk hb (Ac J) h
  |pair b j=>
   have c:(Ar N b&&Ar N j)=true:=J;rw[An] at c;exact Ib hb (.inr (Ac c.1)) (Uk hb (Ac c.2) h)
 .exact Ib hb (.inl B) h
 .exact Ib hb (.inl B) (Uk hb d h)
def FQ (n:Nat) (P:Nat->Prop):WS->Prop
 |.no=>True
 |.one b=>P b\/n<=b
 |.rest _=>False
 |.pair b lo=>b<lo/\(P b\/n<=b)
def Un {n:Nat} {P:Nat->Prop} {b lo i:Nat} (d:b<lo/\(P b\/n<=b)) (U:P i\/n<=i):FQ n P (Gf (.pair b lo) i):=by
 rw[FL];cases a:Am b i||Ar lo i with
 |true=>exact d
 |
  false=>
  rw[Iy] at a;have h:b≠i:=λe=>by rw[e] at a;simp at a
  have f:=BB λe=>by rw[Aq e] at a;cases a.2
  cases c:Ar b i with
  |true=>exact⟨Jq,d.2⟩
  |false=>
   have g:=BB λe=>by rw[Aq e] at c;cases c
   exact⟨Jy g f,U⟩
def NC {n:Nat} {P:Nat->Prop} {s:WS} {i:Nat} (a:FQ n P s) (U:P i\/n<=i):FQ n P (Gf s i):=by
 cases s with
 |no=>exact U
 |rest lo=>exact a.elim
 |pair b lo=>exact Un a U
 |one b=>
  rw[HT];cases d:Am b i with
  |true=>exact a
  |
   false=>
   have f:b≠i:=λe=>by rw[e] at d;simp at d
   cases c:Ar b i with
   |true=>exact⟨Jq,a⟩
   |false=>exact⟨BB (λe=>by rw[Aq e] at c;cases c),U⟩
def uo {n:Nat} {P:Nat->Prop} {b j:Nat} (h:b<j) (hb:P b\/n<=b):FQ n P (Gf (.rest j) b):=by
 rw[Kr,show Ar j b=Ah from MK.2 λe=>by have:=Ac e;omega];exact⟨h,hb⟩
def Zv {n:Nat} {P:Nat->Prop} {s d:WS} (a:FQ n P s) (J:FQ n P d):FQ n P (Pf s d):=by
 cases d with
 |no=>exact a
 |one i=>exact NC a J
 |rest j=>exact J.elim
 |
  pair b j=>
  obtain⟨f,c⟩:=J;cases s with
  |no=>exact uo f c
  |rest lo=>exact a.elim
  |
   one i=>
   show FQ n P (Gf (Lr (.one i) j) b);rw[Ke];cases g:Ar j i with
   |true=>exact uo f c
   |false=>exact Un ⟨BB (λe=>by rw[Aq e] at g;cases g),a⟩ c
  |
   pair i lo=>
   show FQ n P (Gf (.pair i (Gg lo j)) b);rcases A8 i j with h|h
   .exact Un ⟨Jy (N:=i+1) a.1 h,a.2⟩ c
   .have k:b+1<=Gg lo j:=Jy (by have:=a.1;omega) G
    rw[FL,show(Am i b||Ar (Gg lo j) b)=Ah from by
     rw[Iy];exact⟨MK.2 λe=>by have:=Af e;omega,MK.2 λe=>by have:=Ac e;omega⟩,
     show Ar i b=Ah from MK.2 λe=>by have:=Ac e;omega]
    exact⟨Jy (N:=b+1) G k,c⟩
structure AA (h J:Y):Prop where
 a:h.a<=J.a
 t:∀b,b<h.a->J.t.get b=h.t.get b
 lo:∀N,N<=h.a->h.lo.C N=Ag->J.lo.C N=Ag
 g:∀N b0,N<=h.a->b0<N->GG N b0 h.lo->GG N b0 J.lo
 f:∀n P,n<=h.a->FQ n P h.lo->FQ n P J.lo
def AA.refl (h:Y):AA h h:=⟨Ae _,λ_ _=>B,λ_ _ h=>h,λ_ _ _ _ h=>h,λ_ _ _ h=>h⟩
def AA.trans {b:Y} (d:AA a b) (e:AA b c):AA a c:=
 ⟨Ao d.a e.a,λi U=>(e.t i (AC U d.a)).trans (d.t i U),λN j h=>e.lo N (Ao j d.a) (d.lo N j h),
  λN b0 j hb h=>e.g N b0 (Ao j d.a) hb (d.g N b0 j hb h),λn P k h=>e.f n P (Ao k d.a) (d.f n P k h)⟩
def AA.ad (h:Y):AA h h.ad:=by
 cases h;exact⟨Ae _,λ_ _=>B,λ_ _ _=>B,λ_ _ _ _ _=>.inl B,λ_ _ _ _=>trivial⟩
def AA.C (e:AA h.ad J):J.lo.C h.a=true:=by
 have:=e.lo h.a (by rw[BF];exact Ae _) Jq;exact this
def DF (h J:Y):(h.M J).t=J.t:=Jq
def CL (h J:Y):(h.M J).a=J.a:=Jq
def J7 (h J:Y):(h.M J).lo=Pf h.lo J.lo:=Jq
def AA.M (e:AA h.ad J):AA h (h.M J):=
 ⟨by rw[CL];have:=e.a;rw[BF] at this;exact this,λb hb=>by rw[DF];have:=e.t b (by rw[BF];exact hb);rw[Ow] at this;exact this,
  λN c a=>by rw[J7];exact Rx a (e.lo N (by rw[BF];exact c) (by rw[DZ];rfl)),
  λN b0 c hb a=>by rw[J7];exact YY hb a (e.g N b0 (by rw[BF];exact c) hb (by rw[DZ];exact .inl B)),
  λn P d a=>by rw[J7];exact Zv a (e.f n P (by rw[BF];exact d) (by rw[DZ];trivial))⟩
def Ck (h:Y) (b:HB):(h.new b).a=h.a+1:=Jq
def CK (h:Y) (b:HB) (i:Nat):(h.new b).t.get i=if i=h.a then I b else h.t.get i:=by cases h;exact T.M _ _ _ _
def Cc (h:Y) (i:Nat) (b:HB):(h.put i b).a=h.a:=Jq
def BQ (h:Y) (i:Nat) (b:HB) (j:Nat):(h.put i b).t.get j=if j=i then I b else h.t.get j:=by cases h;exact T.M _ _ _ _
def AA.new (h:Y) (b:HB):AA h (h.new b):=
 ⟨by rw[Ck];omega,λi U=>by rw[CK,Bm G],λN _ a=>Jq,λN b0 _ _ a=>Jq,λn P _ a=>Jq⟩
def aC.C (c:aC h b o v) (e:AA h J):aC J b o v:=by
 let⟨hb,c,n,t,lo,U,x,a,d⟩:=c;exact⟨AC hb e.a,c,n,t,lo,U,x,e.t b hb▸a,d⟩
structure Er (b:Nat) (h J:Y):Prop where
 a:J.a=h.a
 t:∀i,i≠b->J.t.get i=h.t.get i
 lo:J.lo=Gf h.lo b
def Er.put (h:Y) (i:Nat) (b:HB):Er i h (h.put i b):=⟨Cc _ _ _,λj a=>by rw[BQ,Bm a],Of _ _ _⟩
def AA.ah {b:Y} (e:AA b h) (u:Er i h J) (U:b.a<=i):AA b J:=
 ⟨u.a▸e.a,λj d=>u.t j G▸e.t j d,λN c a=>u.lo▸F2 G (e.lo N c a),
  λN b0 c hb a=>u.lo▸Ib hb (.inr G) (e.g N b0 c hb a),λn P k a=>u.lo▸NC (e.f n P k a) (.inr G)⟩
def aC.ah (c:aC h b o v) (u:Er i h J) (a:b≠i):aC J b o v:=by
 let⟨hb,c,n,t,lo,U,x,d,e⟩:=c;exact⟨u.a▸hb,c,n,t,lo,U,x,u.t b a▸d,e⟩
def aQ (h:Y) (b:Nat) (e:Ai) (xs:AH):Prop:=b<h.a/\∃c x,h.t.get b=I (.cells c (LT xs) e 0 0 x)/\∀i v,xs[i]?=I v->c.get i=I v
def aQ.cell (o:aQ h b e xs) (U:xs[i]?=I v):aC h b i v:=by
 let⟨hb,c,x,a,d⟩:=o;exact⟨hb,c,_,e,0,0,x,a,d i v U⟩
def aQ.C (o:aQ h b e xs) (x:AA h J):aQ J b e xs:=by
 let⟨hb,c,y,a,d⟩:=o;exact⟨AC hb x.a,c,y,x.t b hb▸a,d⟩
def aQ.ah (o:aQ h b e xs) (u:Er i h J) (a:b≠i):aQ J b e xs:=by
 let⟨hb,c,y,d,f⟩:=o;exact⟨u.a▸hb,c,y,u.t b a▸d,f⟩
def NP (xs:AH) (U:xs[i]?=I v):(T.laid xs 0 .nil).get i=I v:=by
 rw[T.O];have:=(cG.1 U).1;rw[Bi G];exact U
def aQ.new (h:Y) (e:Ai) (xs:AH) (x:Bool):aQ (h.new (.cells (T.laid xs 0 .nil) (LT xs) e 0 0 x)) h.a e xs:=
 ⟨by rw[Ck];omega,_,x,by rw[CK,Bi B],λ_ _ U=>NP xs U⟩
def aQ.row (h:Y) (e:Ai) (xs:AH):aQ (BN h e xs) h.a e xs:=aQ.new h e xs Ag
def aQ.a4 (h:Y) (e:Ai) (xs:AH):aQ (Go.Ev.HY h e xs) h.a e xs:=aQ.new h e xs Ah
def AA.row (h:Y) (e:Ai) (xs:AH):AA h (BN h e xs):=AA.new _ _
def AA.a4 (h:Y) (e:Ai) (xs:AH):AA h (Go.Ev.HY h e xs):=AA.new _ _
def I2:AH->Nat->AH->AH
 |xs,_,[]=>xs
 |xs,i,v::vs=>I2 (xs.set i v) (i+1) vs
def LH:∀(vs xs:AH) (i:Nat),(I2 xs i vs).length=LT xs
 |[],_,_=>rfl
 |v::vs,xs,i=>by rw[I2,LH vs];simp
def OF:∀(vs xs:AH) (i:Nat) (c:T Aa),(∀j v,xs[j]?=I v->c.get j=I v)->i+LT vs<=LT xs->∀j v,(I2 xs i vs)[j]?=I v->(T.laid vs i c).get j=I v
 |[],xs,i,c,b,_,j,v,a=>b j v a
 |x::vs,xs,i,c,b,d,j,v,a=>by
  rw[T.bC];simp only[AO] at d;refine OF vs (xs.set i x) (i+1) (c.ins i x) (λj v a=>?_) Jq j v a;rw[T.M];by_cases e:j=i
  .subst e
   rw[Bi B];rw[O4 G] at a;exact a
  .rw[Bm e]
   rw[fT (λh=>e h.symm)] at a;exact b j v a
def aQ.bb (o:aQ h b e xs) {vs:AH} (U:i+LT vs<=LT xs) (a:vs.all one=Ag):
 ∃J,Gi h b i vs=I J/\aQ J b e (I2 xs i vs)/\Er b h J:=by
 let⟨hb,c,x,d,f⟩:=o;refine⟨h.put b (.cells (T.laid vs i c) (LT xs) e 0 0 x),?_,⟨Jq,_,x,by rw[BQ,Bi B,LH],OF vs xs i c f U⟩,Er.put _ _ _⟩;unfold Gi;simp only[d];have:RP (LT xs) 0 0 i (LT vs)=Ag:=by unfold RP;simp;omega
 rw[this,a];rfl
def aQ.store {a:KR} (U:τ.b.get t=I a) (d:a.size=1) (o:aQ h b e xs) (l:i<LT xs) (c:one v=Ag):
 ∃J,BA τ t h b i v=I J/\aQ J b e (xs.set i v)/\Er b h J:=by
 have f:AJ v=[v]:=by cases v<;>first|rfl|cases c
 obtain⟨J,g,j,k⟩:=o.bb (i:=i) (vs:=[v]) (by simp;omega) (by simp[c]);refine⟨J,?_,j,k⟩;unfold BA;simp only[U,d,f,Br];exact g
structure B0 (W:Nat->Prop) (h J:Y):Prop where
 a:h.a<=J.a
 t:∀b,b<h.a->¬W b->J.t.get b=h.t.get b
 lo:∀N,N<=h.a->(∀i,W i->N<=i)->h.lo.C N=Ag->J.lo.C N=Ag
 g:∀N b0,N<=h.a->b0<N->(∀i,W i->i=b0\/N<=i)->GG N b0 h.lo->GG N b0 J.lo
 f:∀n P,n<=h.a->(∀i,W i->P i\/n<=i)->FQ n P h.lo->FQ n P J.lo
def AA.O (e:AA h J) (W:Nat->Prop):B0 W h J:=⟨e.a,λb hb _=>e.t b hb,λN c _ a=>e.lo N c a,λN b0 c hb _ a=>e.g N b0 c hb a,λn P d _ a=>e.f n P d a⟩
def Er.O (u:Er b h J):B0 (·=b) h J:=
 ⟨u.a▸Ae _,λi _ U=>u.t i U,λN _ a c=>u.lo▸F2 (a b B) c,λN b0 _ hb a c=>u.lo▸Ib hb (a b B) c,λn P _ a c=>u.lo▸NC c (a b B)⟩
def B0.trans {b:Y} (e:B0 W a b) (h:B0 W b c):B0 W a c:=
 ⟨Ao e.a h.a,λi U d=>(h.t i (AC U e.a) d).trans (e.t i U d),λN j d k=>h.lo N (Ao j e.a) d (e.lo N j d k),
  λN b0 j hb d k=>h.g N b0 (Ao j e.a) hb d (e.g N b0 j hb d k),λn P l d k=>h.f n P (Ao l e.a) d (e.f n P l d k)⟩
def B0.mono {k:Nat->Prop} {b:Y} (c:B0 W a b) (e:∀i,W i->k i):B0 k a b:=
 ⟨c.a,λi U h=>c.t i U λl=>h (e i l),λN j h d=>c.lo N j (λi U=>h i (e i U)) d,λN b0 j hb h d=>c.g N b0 j hb (λi U=>h i (e i U)) d,λn P m h d=>c.f n P m (λi U=>h i (e i U)) d⟩
def AA.then {k:Y} (e:AA k h) (c:B0 W h J) (j:∀i,W i->k.a<=i):AA k J:=
 ⟨Ao e.a c.a,λb hb=>(c.t b (AC hb e.a) λh=>Jq).trans (e.t b hb),λN a d=>c.lo N (Ao a e.a) (λi U=>Ao a (j i U)) (e.lo N a d),
  λN b0 a hb d=>c.g N b0 (Ao a e.a) hb (λi U=>.inr (Ao a (j i U))) (e.g N b0 a hb d),λn P l d=>c.f n P (Ao l e.a) (λi U=>.inr (Ao l (j i U))) (e.f n P l d)⟩
def aC.O (c:aC h b o v) (e:B0 W h J) (a:¬W b):aC J b o v:=by
 let⟨hb,c,n,t,lo,U,x,d,f⟩:=c;exact⟨AC hb e.a,c,n,t,lo,U,x,e.t b hb a▸d,f⟩
def aQ.O (o:aQ h b e xs) (x:B0 W h J) (a:¬W b):aQ J b e xs:=by
 let⟨hb,c,y,d,f⟩:=o;exact⟨AC hb x.a,c,y,x.t b hb a▸d,f⟩
def AS (h:Y) (N:Nat) (e:Ai) (k:Nat) (v:Aa) (n:Nat) (xs:AH):Prop:=
 LT xs=n*k/\((v=.slice Z 0 0/\n=0)\/∃b c sp,v=.slice (I ⟨b,0,Z⟩) n c/\N<=b/\n<=c/\(xs++sp).length=c*k/\aQ h b e (xs++sp))
def BY:Aa->Nat->Prop
 |.slice (I a) _ _,i=>i=a.block
 |_,_=>False
def AS.nil (h:Y) (N:Nat) (e:Ai) (k:Nat):AS h N e k (.slice Z 0 0) 0 []:=⟨Jq,.inl ⟨B,B⟩⟩
def AS.C {h J:Y} {N:Nat} {e:Ai} {k:Nat} {v:Aa} {n:Nat} {xs:AH} (o:AS h N e k v n xs) (x:AA h J):AS J N e k v n xs:=by
 obtain⟨d,a|⟨b,c,sp,a,f,g,i,j⟩⟩:=o
 .exact⟨d,.inl a⟩
 .exact⟨d,.inr ⟨b,c,sp,a,f,g,i,j.C x⟩⟩
def AS.O {W:Nat->Prop} {h J:Y} {N:Nat} {e:Ai} {k:Nat} {v:Aa} {n:Nat} {xs:AH} (o:AS h N e k v n xs) (x:B0 W h J) (f:∀i,BY v i->¬W i):AS J N e k v n xs:=by
 obtain⟨d,a|⟨b,c,sp,a,g,j,l,m⟩⟩:=o
 .exact⟨d,.inl a⟩
 .exact⟨d,.inr ⟨b,c,sp,a,g,j,l,m.O x (f b (by rw[a];rfl))⟩⟩
def AS.ai {h:Y} {N:Nat} {e:Ai} {k:Nat} {v:Aa} {n:Nat} {xs:AH} (o:AS h N e k v n xs):∀i,BY v i->N<=i:=by
 intro i U;obtain⟨d,⟨a,_⟩|⟨b,c,sp,a,f,_⟩⟩:=o
 .rw[a] at U;exact U.elim
 .rw[a] at U;have:i=b:=U;omega
def AS.aw {h:Y} {N:Nat} {e:Ai} {k:Nat} {v:Aa} {n:Nat} {xs:AH} (o:AS h N e k v n xs):∀i,BY v i->i<h.a:=by
 intro i U;obtain⟨f,⟨a,_⟩|⟨b,c,sp,a,g,_,_,d⟩⟩:=o
 .rw[a] at U;exact U.elim
 .rw[a] at U;have:i=b:=U;rw[this];exact d.1
def AS.cell {h:Y} {N:Nat} {e:Ai} {k:Nat} {v:Aa} {n:Nat} {xs:AH} (o:AS h N e k v n xs) {i:Nat} {u:Aa} (U:xs[i]?=I u):∃b c,v=.slice (I ⟨b,0,Z⟩) n c/\N<=b/\aC h b i u:=by
 obtain⟨d,⟨f,a⟩|⟨b,c,sp,f,a,j,l,g⟩⟩:=o
 .subst a
  have:=(cG.1 U).1;simp at d;subst d;simp at this
 .exact⟨b,c,f,a,g.cell Jq⟩
def SJ {c:T Aa} {xs:AH} (a:∀i v,xs[i]?=I v->c.get i=I v):∀(k off:Nat),off+k<=LT xs->DV c k off=I ((xs.drop off).take k)
 |0,off,_=>Jq
 |k+1,off,e=>by
  have b:off<LT xs:=G
  have d:=SJ a k (off+1) (G);show(match c.get off with|I v=>(match DV c k (off+1) with|I l=>I (v::l)|Z=>Z)|Z=>Z)=_
  rw[a off xs[off] (Ab b),d];simp only[];rw[Di b];rfl
def aQ.bx (o:aQ h b e xs) (a:off+k<=LT xs):
 ∃c x,h.t.get b=I (.cells c (LT xs) e 0 0 x)/\Go.Ev.DV c k off=I ((xs.drop off).take k):=by
 let⟨_,c,x,d,f⟩:=o;exact⟨c,x,d,SJ f k off a⟩
def G1 (τ:Bb) (st t2 e k:Nat):Bool:=
 (match τ.ds.get st with|I (.slice a)=>Am a e|_=>Ah)&&!MU τ (I t2)&&
 (match τ.b.get e,CP τ e with|I i,I z=>Am i.size k&&AD 0 k&&Am (AJ z).length k&&(AJ z).all one&&Ar i.bytes 1024|_,_=>Ah)
def In {τ:Bb} {st t2 e k:Nat} (h:G1 τ st t2 e k=Ag):τ.ds.get st=I (.slice e)/\MU τ (I t2)=Ah/\
 ∃i z,τ.b.get e=I i/\CP τ e=I z/\i.size=k/\0<k/\(AJ z).length=k/\(AJ z).all one=Ag/\i.bytes<=1024:=by
 unfold G1 at h;simp only[An] at h;let⟨⟨b,d⟩,a⟩:=h;refine⟨?_,Jq,?_⟩
 .split at b
  .rename_i n f;rw[f,Af b]
  .cases b
 .split at a
  .rename_i i z U g
   simp only[An] at a;let⟨⟨⟨⟨a1,c⟩,j⟩,l⟩,m⟩:=a;exact⟨i,z,U,g,Af a1,Jq,Af j,l,Ac m⟩
  .cases a
def Ha {n:Nat} (h:n<=1099511627776):E3 n=true:=Aq h
def M2 (a:m<=1000000000) (hb:b<=1024):Tx m b=true:=by
 have c:(m+m/4+192)*b<=1250000192*1024:=Cj (G) hb;unfold Tx;rw[Aq (show(m+m/4+192)*b<=281474976710656 by omega),Aq (show m<=70368744177664 by omega)];rfl
def pF (τ:Bb) (e:Ai):Bool:=match τ.b.get e with|I i=>Ar i.bytes 8|Z=>Ah
def rL {τ:Bb} {st t2 e k:Nat} (u:G1 τ st t2 e k=Ag) {h:Y} {N:Nat} {v x:Aa} {n m:Nat} {xs ys:AH} (o:AS h N e k v n xs) (R:MM x=I m) (w:MN k h x m=I ys)
 (a:LT ys=m*k) (l:ys.all one=Ag) (A:N<=h.a) (S:m<=1000000000) (hb:n+m<=1000000000\/n+m<=26000000000000/\pF τ e=Ag):
 ∃f J,Bx τ .append [st,t2] [v,x] h=I (f,J)/\AS J N e k f (n+m) (xs++ys)/\B0 (BY v) h J/\(∀i,BY f i->BY v i\/h.a<=i):=by
 obtain⟨t1,T,i,z,t3,t4,t5,t6,t7,t8,t9⟩:=In u;have C:E3 (m*i.bytes)=true:=Ha (by
  have:m*i.bytes<=1000000000*1024:=Cj S t9;omega)
 have D:E3 m=true:=Ha (G);have V:Tx (n+m) i.bytes=true:=by
  rcases hb with hb|⟨hb,p⟩
  .exact M2 hb t9
  unfold pF at p;rw[t3] at p;have:(n+m+(n+m)/4+192)*i.bytes<=32500000000192*8:=Cj (G) (Ac p);unfold Tx;rw[Aq (show(n+m+(n+m)/4+192)*i.bytes<=281474976710656 by omega),Aq (show n+m<=70368744177664 by omega)];rfl
 suffices H:∃f J,Gj τ [st,t2] [v,x] h=I (f,J)/\AS J N e k f (n+m) (xs++ys)/\B0 (BY v) h J/\(∀i,BY f i->BY v i\/h.a<=i) by
  obtain⟨f,J,g,j⟩:=H;exact⟨f,J,by simp only[Bx,g],j⟩
 have E:(AD 0 k&&ys.all one&&Am k k&&Ag)=true:=by
  rw[l];simp[AK,t6]
 unfold Gj;simp only[rz,T,I0,t1,t3,R,t4,t5,w,t7,t8,E,D1];obtain⟨d,⟨rfl,rfl⟩|⟨b,c,sp,rfl,F,q4,q,r⟩⟩:=o
 .simp at d;subst d
  simp only[Ba] at*;cases m with
  |
   zero=>
   simp at a;subst a;exact⟨_,_,B,AS.nil h N e k,(AA.refl h).O _,λi U=>U.elim⟩
  |
   succ m=>
   simp only[C,D];refine⟨.slice (I ⟨h.a,0,Z⟩) (m+1) (m+1),Go.Ev.HY h e ys,B,⟨by simpa using a,.inr ⟨h.a,m+1,[],B,A,Ae _,by simpa using a,by simpa using aQ.a4 h e ys⟩⟩,(AA.a4 h e ys).O _,λi U=>.inr (A2 U.symm)⟩
 .simp only[]
  cases t:Ar (n+m) c with
  |
   true=>
   have K:=Ac t;have W:n*k+m*k<=(xs++sp).length:=by rw[q,←Dw];exact Ci k K
   obtain⟨J,L,M,O⟩:=r.bb (i:=0+n*k) (vs:=ys) (by rw[a];omega) l;simp only[D1,L];cases m with
   |
    zero=>
    simp at a;subst a;exact⟨_,_,B,⟨by simpa using d,.inr ⟨b,c,sp,by simp,F,G,by simpa using q,by simpa using r⟩⟩,(AA.refl h).O _,λi U=>.inl U⟩
   |
    succ m=>
    refine⟨_,_,B,⟨by simp[d,a,Dw],.inr ⟨b,c,sp.drop ((m+1)*k),B,F,K,?_,?_⟩⟩,O.O,λi U=>.inl U⟩
    .simp only[Aj,AV,d,a] at*;omega
    .have:I2 (xs++sp) (0+n*k) ys=xs++ys++sp.drop ((m+1)*k):=by
      rw[Ba,←d,←a];clear L M O w l C D u E;have Cw:∀(ys xs sp:AH),LT ys<=LT sp->I2 (xs++sp) (LT xs) ys=xs++ys++sp.drop (LT ys):=by
       intro ys
       induction ys with
       |nil=>intro xs sp _;simp[I2]
       |
        cons y ys X=>
        intro xs sp P;cases sp with
        |nil=>simp at P
        |
         cons s sp=>
         rw[I2];have g:(xs++s::sp).set (LT xs) y=(xs++[y])++sp:=by simp
         have j:LT xs+1=(xs++[y]).length:=by simp
         rw[g,j,X (xs++[y]) sp (by simpa using P)];simp
      refine Cw ys xs sp ?_;simp only[Aj,d,a] at W⊢;omega
     rw[←this];exact M
  |
   false=>
   have aa:c<n+m:=by
    rcases A8 c (n+m) with h|h
    .exact h
    .rw[Aq h] at t;cases t
   obtain⟨cc,xb,g1,Q⟩:=r.bx (off:=0) (k:=n*k) (by simp[d]);have g3:((xs++sp).drop 0).take (n*k)=xs:=by rw[dQ,←d,iT]
   rw[g3] at Q;have g:Am e e=true:=by simp
   have j:Am (0+c*k) (xs++sp).length=true:=by rw[q,Ba];simp
   simp only[I0,V,qT,D1,g1,g,Q,j,(B:Ar 0 0=Ag),Bool.true_or,Mh];refine⟨_,_,B,⟨by simp[d,a,Dw],.inr ⟨h.a,n+m,[],?_,A,Ae _,by simp[d,a,Dw],?_⟩⟩,?_,λi U=>.inr (A2 U.symm)⟩
   .rfl
   .rw[Fb]
    have:=aQ.new (h.put b .dead) e (xs++ys) Ah;rw[Cc] at this;exact this
   .exact((Er.put h b .dead).O).trans ((AA.new _ _).O _)
def UN {τ:Bb} {st t2 e k:Nat} (b:G1 τ st t2 e k=Ag) {h:Y} {N:Nat} {v x:Aa} {n m:Nat} {xs ys:AH} (o:AS h N e k v n xs) (c:MM x=I m) (d:MN k h x m=I ys)
 (f:LT ys=m*k) (g:ys.all one=Ag) (j:N<=h.a) (hb:n+m<=1000000000):
 ∃a J,Bx τ .append [st,t2] [v,x] h=I (a,J)/\AS J N e k a (n+m) (xs++ys)/\B0 (BY v) h J/\(∀i,BY a i->BY v i\/h.a<=i):=rL b o c d f g j (G) (.inl hb)
def Il {k:Nat} {h:Y} {b:Nat} {e:Ai} {xs:AH} (o:aQ h b e xs) {off n c m:Nat} {sp:Option Nat} (a:off+m*k<=LT xs):MN k h (.slice (I ⟨b,off,sp⟩) n c) m=I ((xs.drop off).take (m*k)):=by
 let⟨g,x,d,f⟩:=o.bx a;simp only[MN,d];exact f
def Iv {t e:Nat} (b:G1 τ t t e k=Ag) (v:Aa) (a:(AJ v).length=k) (c:(AJ v).all one=Ag) (l:k<=1000) (h:Y):
 Bs τ t 1 [(0,v)] h=I (.slice (I ⟨h.a,0,Z⟩) 1 1,BN h e (AJ v)):=by
 obtain⟨r,_,i,z,q,p,o,n,m,A,y⟩:=In b;unfold Bs;simp only[r,q,p,o,m];have c1:(AD 0 k&&Am k k&&Ar (1*k) 16777216)=true:=by
  simp[AK,n];omega
 rw[c1];simp only[D1];have d:Dy (AJ z) 1=AJ z:=by simp[Dy]
 rw[d];have w:∀(vs xs pre:AH),LT vs=LT xs->My (pre++xs) (LT pre) vs=pre++vs:=by
  intro vs
  induction vs with
  |nil=>intro xs pre h;cases xs with|nil=>rfl|cons _ _=>cases h
  |
   cons v vs f=>
   intro xs pre h;cases xs with
   |nil=>cases h
   |
    cons x xs=>
    rw[My];have g:(pre++x::xs).set (LT pre) v=(pre++[v])++xs:=by simp
    rw[g,show LT pre+1=(pre++[v]).length by simp,f xs (pre++[v]) (by simpa using h)];simp
 have u:My (AJ z) (0*k) (AJ v)=AJ v:=by
  rw[Qg];exact w (AJ v) (AJ z) [] (by rw[a,m])
 have s:Jw (λj=>I (j*k,k)) [(0,v)] (AJ z)=I (AJ v):=by
  rw[Jw];simp only[a,c,m];have:(Am k k&&Ar (0*k+k) k&&Ag)=true:=by simp
  rw[this,u];rfl
 rw[s]
def i3 (t e k:Nat) (v:Aa) (h:Y) (b:G1 Ax t t e k=Ag:=by kernel_rfl) (a:(AJ v).length=k:=by rfl) (c:(AJ v).all one=Ag:=by rfl) (l:k<=1000:=by decide):=Iv b v a c l h
def Tz {τ:Bb} {st t2 e k:Nat} (c:G1 τ st t2 e k=Ag) {h:Y} {N:Nat} {v:Aa} {n:Nat} {xs ys:AH} (o:AS h N e k v n xs)
 (d:LT ys=k) (f:ys.all one=Ag) (g:N<=h.a) (hb:n+1<=1000000000):
 ∃a J,Bx τ .append [st,t2] [v,.slice (I ⟨h.a,0,Z⟩) 1 1] (BN h e ys)=I (a,J)/\AS J N e k a (n+1) (xs++ys)/\B0 (BY v) h J/\(∀i,BY a i->BY v i\/h.a<=i):=by
 have b:=AA.row h e ys;have j:=aQ.row h e ys;obtain⟨a,J,l,p,q,r⟩:=UN c (o.C b) (x:=.slice (I ⟨h.a,0,Z⟩) 1 1) B
  (by rw[Il j (G)];simp[←d]) (G) f (Ao g b.a) hb
 refine⟨a,J,l,p,(b.O _).trans q,λi U=>?_⟩;rcases r i U with h|h
 .exact .inl h
 .exact .inr (Ao b.a h)
def Rd (h:Y) (v:Aa) (k n:Nat) (xs:AH):Prop:=LT xs=n*k/\∃A c,v=.slice A n c/\n<=c/\(A=Z->c=0)/\
 ∀a,A=I a->a.block<h.a/\∃c m e lo U x,h.t.get a.block=I (.cells c m e lo U x)/\∀i u,xs[i]?=I u->c.get (a.off+i)=I u
def Rd.O {W:Nat->Prop} {h J:Y} {v:Aa} {k n:Nat} {xs:AH} (r:Rd h v k n xs) (e:B0 W h J) (g:∀i,BY v i->¬W i):Rd J v k n xs:=by
 let⟨j,A,c,b,l,o,p⟩:=r;refine⟨j,A,c,b,l,o,λa d=>?_⟩;let⟨f,c,m,t,lo,U,x,q,s⟩:=p a d;exact⟨AC f e.a,c,m,t,lo,U,x,e.t _ f (g _ (by rw[b,d];rfl))▸q,s⟩
def Rd.C {h J:Y} {v:Aa} {k n:Nat} {xs:AH} (r:Rd h v k n xs) (e:AA h J):Rd J v k n xs:=r.O (e.O λ_=>False) λ_ _ h=>h
def Rd.aw {h:Y} {v:Aa} {k n:Nat} {xs:AH} (r:Rd h v k n xs):∀i,BY v i->i<h.a:=by
 intro i U;obtain⟨_,A,c,rfl,_,_,b⟩:=r;cases A with
 |none=>exact U.elim
 |some a=>have:i=a.block:=U;rw[this];exact(b a B).1
def Rd.at_ {h:Y} {v:Aa} {k n:Nat} {xs:AH} (r:Rd h v k n xs) (p:0<n):∃a c,v=.slice (I a) n c/\n<=c/\∀i u,xs[i]?=I u->aC h a.block (a.off+i) u:=by
 let⟨q,A,c,b,d,e,f⟩:=r;cases A with
 |none=>have:=e B;omega
 |some a=>
  refine⟨a,c,b,d,λi u U=>?_⟩;let⟨g,c,m,t,lo,j,x,l,o⟩:=f a B;exact⟨g,c,m,t,lo,j,x,l,o i u U⟩
def AS.rd {h:Y} {N:Nat} {e:Ai} {k:Nat} {v:Aa} {n:Nat} {xs:AH} (o:AS h N e k v n xs):Rd h v k n xs:=by
 obtain⟨f,⟨rfl,rfl⟩|⟨b,c,sp,rfl,q,g,r,j,l,y,m,p⟩⟩:=o
 .exact⟨f,Z,0,B,Ae _,λ_=>B,λa d=>Jq⟩
 .refine⟨f,I ⟨b,0,Z⟩,c,B,g,(λh=>Jq),λa d=>?_⟩
  cases d;refine⟨j,l,_,e,0,0,y,m,λi u U=>?_⟩;rw[Ba];exact p i u Jq
def B0.then {m:Nat->Prop} {l:Y} (a:B0 W l h) (b:B0 m h J) (k:∀i,m i->W i\/l.a<=i):B0 W l J:=
 ⟨Ao a.a b.a,λi U d=>(b.t i (AC U a.a) λh=>by
  rcases k i h with h|h
  .exact d h
  .omega).trans (a.t i U d),λN e c j=>b.lo N (Ao e a.a) (λi U=>by
  rcases k i U with h|h
  .exact c i h
  .omega) (a.lo N e c j),λN b0 e hb c j=>b.g N b0 (Ao e a.a) hb (λi U=>by
  rcases k i U with h|h
  .exact c i h
  .right;omega) (a.g N b0 e hb c j),λn P d c j=>b.f n P (Ao d a.a) (λi U=>by
  rcases k i U with h|h
  .exact c i h
  .right;omega) (a.f n P d c j)⟩
def aQ.st (a:Gv τ t=Ag) (o:aQ h b e xs) (c:i<LT xs) (d:one v=Ag):
 ∃J,BA τ t h b i v=I J/\aQ J b e (xs.set i v)/\Er b h J:=by
 unfold Gv at a;split at a
 .rename_i f U;exact o.store U (Af a) c d
 .cases a
def AS.ah {h J:Y} {b:Nat} {N:Nat} {e:Ai} {k:Nat} {v:Aa} {n:Nat} {xs:AH} (o:AS h N e k v n xs) (x:Er b h J) (a:∀i,BY v i->i≠b):AS J N e k v n xs:=o.O x.O a
def D5 {h:Y} {N:Nat} {e:Ai} {k:Nat} {v:Aa} {n:Nat} {xs:AH} (o:AS h N e k v n xs):one v=true:=by
 obtain⟨_,⟨rfl,_⟩|⟨b,c,sp,rfl,_⟩⟩:=o<;>rfl
def QV (z:Aa):∀n,Dy [z] n=AE n z
 |0=>rfl
 |n+1=>by rw[Dy,QV z n];rfl
def YH {t e:Nat} (f:G1 τ t t e k=Ag) (b:CP τ e=I z) (l m:Nat) (g:l<=m) (j:m<=16777216) (c d:Cq) (h:Y):
 ∃a,Dk τ t (.int c (l:Int)) (.int d (m:Int)) h=I (.slice (I ⟨h.a,0,Z⟩) l m,a)/\AA h a/\aQ a h.a e (Dy (AJ z) m)/\a.a=h.a+1:=by
 obtain⟨y,_,i,r,x,s,w,C,v,B,u⟩:=In f;rw[b] at s;cases s;refine⟨BN h e (Dy (AJ z) m),?_,AA.row _ _ _,aQ.row _ _ _,Ck _ _⟩;unfold Dk;have n:Fs (.int c (l:Int))=I l:=rfl;have o:Fs (.int d (m:Int))=I m:=rfl;simp only[y,n,o,x,b];have A:E3 (m*i.bytes)=true:=Ha (by
  have:m*i.bytes<=16777216*1024:=Cj j u;omega)
 have p:E3 m=true:=Ha (G);have q:(Ar l m&&E3 (m*i.bytes)&&E3 m&&AD 0 i.size&&Am (AJ z).length i.size)=true:=by
  rw[A,p,w,v,Aq g];simp[AK];omega
 rw[q];rfl
def Vs (d:G1 τ t t e 1=Ag) (f:CP τ e=I z) (a:one z=Ag) (l m:Nat) (g:l<=m) (i:m<=16777216) (b c:Cq) (h:Y):
 ∃a,Dk τ t (.int b (l:Int)) (.int c (m:Int)) h=I (.slice (I ⟨h.a,0,Z⟩) l m,a)/\AA h a/\aQ a h.a e (AE m z)/\a.a=h.a+1:=by
 have:=YH d f l m g i b c h;have j:AJ z=[z]:=by cases z<;>first|rfl|cases a
 rwa [j,QV] at this
def MA (d:G1 τ t t e 1=Ag) (f:CP τ e=I z) (a:one z=Ag) (m:Nat) (g:m<=16777216) (b c:Cq) (h:Y):
 ∃a,Dk τ t (.int b (m:Int)) (.int c (m:Int)) h=I (.slice (I ⟨h.a,0,Z⟩) m m,a)/\AA h a/\aQ a h.a e (AE m z)/\a.a=h.a+1:=Vs d f a m m (Ae _) g b c h
def aQ.M (o:aQ J b e xs):aQ (h.M J) b e xs:=by
 unfold aQ;rw[CL,DF];exact o
def aC.M (o:aC J b i v):aC (h.M J) b i v:=by
 unfold aC;rw[CL,DF];exact o
def AS.M {h J:Y} {N:Nat} {e:Ai} {k:Nat} {v:Aa} {n:Nat} {xs:AH} (o:AS J N e k v n xs):AS (h.M J) N e k v n xs:=by
 obtain⟨d,a|⟨b,c,sp,a,f,g,i,j⟩⟩:=o
 .exact⟨d,.inl a⟩
 .exact⟨d,.inr ⟨b,c,sp,a,f,g,i,j.M⟩⟩
def Rd.M {h J:Y} {v:Aa} {k n:Nat} {xs:AH} (r:Rd J v k n xs):Rd (h.M J) v k n xs:=by
 unfold Rd;rw[CL,DF];exact r
def Er.M (u:Er b h.ad J):Er b h (h.M J):=
 ⟨by rw[CL,u.a,BF],λi U=>by rw[DF,u.t i U,Ow],by rw[J7,u.lo,DZ];rfl⟩
def B0.M (u:B0 W h.ad J):B0 W h (h.M J):=
 ⟨by rw[CL];have:=u.a;rw[BF] at this;exact this,λb hb a=>by rw[DF];have:=u.t b (by rw[BF];exact hb) a;rw[Ow] at this;exact this,
  λN d a c=>by rw[J7];exact Rx c (u.lo N (by rw[BF];exact d) a (by rw[DZ];rfl)),
  λN b0 d hb a c=>by rw[J7];exact YY hb c (u.g N b0 (by rw[BF];exact d) hb a (by rw[DZ];exact .inl B)),
  λn P e a c=>by rw[J7];exact Zv c (u.f n P (by rw[BF];exact e) a (by rw[DZ];trivial))⟩
def B0.ok (u:B0 W h.ad J) (a:∀i,W i->i=b0) (hb:∃hb,h.t.get b0=I hb/\hb.live=Ag):N5 h J.lo:=by
 by_cases b:b0<h.a
 .rcases u.g h.a b0 (by rw[BF];exact Ae _) b (λi U=>.inl (a i U)) (by rw[DZ];exact .inl B) with e|e|⟨lo,_,e⟩
  .exact .inl e
  .rw[e];exact .inr hb
  .rw[e];exact .inr hb
 .exact .inl (u.lo h.a (by rw[BF];exact Ae _) (λi U=>Jq) Jq)
def B0.O (u:B0 W h.ad J) (d:∀i,W i->(∃hb,h.t.get i=I hb/\hb.live=Ag)\/h.a<=i):N5 h J.lo:=by
 have:=u.f h.a (λi=>∃hb,h.t.get i=I hb/\hb.live=Ag) (by rw[BF];exact Ae _) d Jq;cases c:J.lo with
 |no=>exact .inl B
 |rest _=>exact .inr trivial
 |one b=>
  rw[c] at this;rcases this with a|a
  .exact .inr a
  .exact .inl (Aq a)
 |
  pair b lo=>
  rw[c] at this;obtain⟨e,a|a⟩:=this
  .exact .inr a
  .refine .inl ?_
   show(Ar h.a b&&Ar h.a lo)=Ag;rw[Aq a,Aq (show h.a<=lo by omega)];rfl
def B0.C (u:B0 W h.ad J) (a:∀i,¬W i):J.lo.C h.a=true:=
 u.lo h.a (by rw[BF];exact Ae _) (λi U=>Cf U (a i)) Jq
def AS.live {h:Y} {N:Nat} {e:Ai} {k:Nat} {v:Aa} {n:Nat} {xs:AH} (o:AS h N e k v n xs) {i:Nat} (U:BY v i):∃hb,h.t.get i=I hb/\hb.live=true:=by
 obtain⟨_,⟨rfl,_⟩|⟨b,c,sp,rfl,_,_,_,_,d,x,a,_⟩⟩:=o
 .exact U.elim
 .have:i=b:=U
  subst this;exact⟨_,a,B⟩
def B0.dw {h J:Y} {N:Nat} {e:Ai} {k:Nat} {v:Aa} {n:Nat} {xs:AH} (u:B0 (BY v) h.ad J) (o:AS h N e k v n xs):N5 h J.lo:=by
 obtain⟨a,⟨rfl,f⟩|⟨b,c,sp,rfl,d⟩⟩:=o
 .exact .inl (u.C λ_ h=>h)
 .exact u.ok (λi U=>U) (AS.live ⟨a,.inr ⟨b,c,sp,B,d⟩⟩ B)
def oZ (τ:Bb) (t k:Nat):Bool:=match τ.ds.get t with
 |I (.slice e)=>(match τ.b.get e with|I i=>Am i.size k|Z=>Ah)
 |_=>Ah
def Rd.slice {τ:Bb} {t k:Nat} (b:oZ τ t k=Ag) {h:Y} {A:Option BD} {n c:Nat} {xs:AH} (r:Rd h (.slice A n c) k n xs) {lo U:Option Aa} {l m:Nat} (g:RO 0 lo=I l) (j:RO n U=I m) (o:l<=m) (p:m<=n):
 ∃f,C7 τ t (.slice A n c) lo U Z=I f/\Rd h f k (m-l) ((xs.drop (l*k)).take ((m-l)*k))/\(∀i,BY f i->BY (.slice A n c) i):=by
 unfold oZ at b;split at b
 case h_2=>cases b
 rename_i e q;split at b
 case h_2=>cases b
 rename_i T s;have w:=Af b;let⟨y,V,W,z,C,D,E⟩:=r;cases z;have X:=Ci k p;have J:=Ci k o;have F:((xs.drop (l*k)).take ((m-l)*k)).length=(m-l)*k:=by
  rw[Cg,AV,y,Nat.sub_mul];omega
 cases A with
 |none=>
  have H:=D B;have:n=0:=G
  subst this;subst H;have:m=0:=G
  subst this;have:l=0:=G
  subst this;refine⟨.slice Z 0 0,?_,⟨Jq,Z,0,B,Ae _,λ_=>B,λa K=>Jq⟩,λi U=>U⟩;unfold C7;simp only[q];rw[g];simp only[j,s]
 |some a=>
  refine⟨.slice (I ⟨a.block,a.off+l*k,a.spot⟩) (m-l) (c-l),?_,⟨F,_,_,B,G,(λh=>Jq),λa' L=>?_⟩,λi U=>U⟩
  .unfold C7
   simp only[q];rw[g,j,s];simp only[w];have:(Ar l m&&Ar m c)=true:=Jq
   rw[this];rfl
  .cases L
   let⟨M,v,N,O,P,Q,x,R,S⟩:=E a B;refine⟨M,v,N,O,P,Q,x,R,λi u d=>?_⟩;show v.get (a.off+l*k+i)=I u;rw[DD];refine S _ u ?_;rw[LS] at d;split at d
   .rw[Eg] at d;exact d
   .cases d
def Ay (l:Bl):AH:=l.map λb=>AL .u8 (dE b)
def A7 (l:Bl):(Ay l).length=LT l:=by simp[Ay]
def Ee (a b:Bl):Ay (a++b)=Ay a++Ay b:=by simp[Ay]
def Ez (l:Bl) (n:Nat):(Ay l).take n=Ay (l.take n):=by simp[Ay,List.map_take]
def EA (l:Bl) (n:Nat):(Ay l).drop n=Ay (l.drop n):=by simp[Ay,List.map_drop]
def EM:∀bs:Bl,G7 (Ay bs)=I bs
 |[]=>rfl
 |b::bs=>by
  show(match G7 (Ay bs) with|I r=>I (dR (dE b:Int).toNat::r)|Z=>Z)=_
  rw[EM bs];simp
def HQ {c:T Aa} (a:∀i u,xs[i]?=I u->c.get (off+i)=I u):DV c (LT xs) off=I xs:=by
 induction xs generalizing off with
 |nil=>rfl
 |
  cons x xs d=>
  have b:=a 0 x B;rw[UL] at b;have:=d (off:=off+1) (λi u U=>by rw[DD,UK 1];exact a (i+1) u (by simpa using U));show(match c.get off with|some v=>(match DV c (LT xs) (off+1) with|some l=>I (v::l)|none=>Z)|none=>Z)=_
  rw[b,this]
def pG (τ:Bb) (s d:Nat):Bool:=match τ.ds.get s,τ.ds.get d with
 |I (.slice e),I .string=>(match τ.ds.get e with|I (.int .u8)=>Ag|_=>Ah)
 |_,_=>Ah
def FB {τ:Bb} {s d:Nat} (b:pG τ s d=Ag) {h:Y} {v:Aa} {n:Nat} {bs:Bl} (r:Rd h v 1 n (Ay bs)):Ea τ s d v h=I (.string ⟨⟨bs⟩⟩,h):=by
 unfold pG at b;split at b
 case h_2=>cases b
 rename_i e j k;split at b
 case h_2=>cases b
 rename_i f;obtain⟨g,A,c,rfl,u,l,o⟩:=r;rw[A7,BJ] at g;unfold Ea;rw[j,k];cases A with
 |none=>
  have:=l B;have p:LT bs=0:=G
  have:=List.length_eq_zero_iff.1 p;subst this;simp only[f];rfl
 |some a=>
  let⟨w,y,m,z,lo,U,x,q,t⟩:=o a B;have i:=HQ t;rw[A7,g] at i;simp only[f,q,i,EM]
def Aef {τ:Bb} {st t2 e k:Nat} (d:G1 τ st t2 e k=Ag) {X:Y} {N:Nat} {v:Aa} {n:Nat} {xs ys:AH} (o:AS X N e k v n xs)
 (f:LT ys=k) (g:ys.all one=Ag) (j:N<=X.a) (hb:n+1<=1000000000):∃a,BN X.ad e ys=a/\AA X (X.M a)/\
 ∃b J,Bx τ .append [st,t2] [v,.slice (I ⟨X.a,0,Z⟩) 1 1] (X.M a).ad=I (b,J)/\AS J N e k b (n+1) (xs++ys)/\B0 (BY v) (X.M a).ad J/\(∀i,BY b i->BY v i\/(X.M a).a<=i):=by
 have c:AA X (X.M (BN X.ad e ys)):=(AA.row X.ad e ys).M;have l:aQ (X.M (BN X.ad e ys)) X.a e ys:=by
  have:=(aQ.row X.ad e ys).M (h:=X);rw[BF] at this;exact this
 have o':=o.C c;obtain⟨b,J,p,q,r,s⟩:=UN (h:=(X.M (BN X.ad e ys)).ad) d (m:=1) (ys:=ys) o' (x:=.slice (I ⟨X.a,0,Z⟩) 1 1) B
  (by
   have:aQ (X.M (BN X.ad e ys)).ad X.a e ys:=l;rw[Il this (G)];simp[←f]) (G) g (by rw[BF];exact Ao j c.a) hb
 refine⟨_,B,c,b,J,p,q,r,λi U=>?_⟩;rcases s i U with h|h
 .exact .inl h
 .right
  rw[BF] at h;exact h
def Nf:Bo:=[5,157,249,74,101,102,126,61,248,164,170,270,345,300]
class aF (S:A9) (L:Nat):Prop where
 plain:∀f,Nf.contains f=Ah->S.a f=Z/\S.M f=Z/\S.hk f=Z
 a:1125899906842624<=L
section
variable{S:A9} {L:Nat} [aF S L]
def Bk (S:A9) (L:Nat) (d:Nat) (f:Au) (a:AH) (h:Y) (Q:Aa->Y->Prop):Prop:=∀n,d<=n->Cd (B8 Ax S L n) (.func f) a h Q
def iB (S:A9) (L d:Nat) (f:Au) (a:AH) (h:Y) (Q:Aa->Y->Prop):=Bk S L d f a h λw J=>AA h J/\Q w J
def Fm [b:aF S L] {d:Nat} {f:Au} {fn:BC} {a:AH} {Q:Aa->Y->Prop} (c:Ax.fn.get f=I fn) (e:Nf.contains f=Ah)
 (H:∀n,d<=n->YR Ax (B8 Ax S L n) L fn a h Q):Bk S L (d+1) f a h Q:=by
 intro n k;obtain⟨m,rfl⟩:∃m,n=m+1:=⟨n-1,G⟩;let⟨g,i,j⟩:=b.plain f e;exact tU c j g i (H m G)
def Bk.mono {d:Nat} {f:Au} {a:AH} {Q Q':Aa->Y->Prop} (c:Bk S L d f a h Q) (b:∀v J,Q v J->Q' v J):Bk S L d f a h Q':=λn e=>(c n e).mono b
end
def Dc {l:AH} {n:Nat} (h:Ar (LT l) n=Ag):LT l<=n:=Ac h
def AGj:prog.funcs.toList.all (λx=>!x.body.isSome||!(x.name== "runtime.NumGoroutine"))=true:=Kq
def AAk:prog.follows .mixedOrders=true:=Kq
def AEs:([48,109,271,88,90,151,221,321]:Bo).all (λt=>!prog.stoodInHeld t&&!prog.eqGuardType prog.depth t)=true:=Kq
def Fi:BM prog Ax:=Ary AGj AEs AAk
def ABh:J8 prog 358 .aU:=⟨f358,func358,Kq,Kq,Kq,Kq⟩
def AEl:J8 prog 426 .indexByte:=⟨f426,func426,Kq,Kq,Kq,Kq⟩
def zq:J8 prog 371 .count:=⟨f371,func371,Kq,Kq,Kq,Kq⟩
def ACx:J8 prog 396 (.makeNoZero 5):=⟨f396.params,98,⟨f396,func396,Kq,Kq,Kq,Kq⟩,Kq,Arc Kq⟩
def my (f:Au) (e:KS) (h:Ax.ex.get f=I e):J8 prog f e:=by
 replace h:(((((T.nil.ins 358 KS.aU).ins 426 KS.indexByte).ins 371 KS.count).ins 396 (KS.makeNoZero 5))).get f=I e:=h;rw[Ev.T.M,Ev.T.M,Ev.T.M,Ev.T.M] at h;by_cases a:f=396
 .rw[Bi a] at h;cases h;subst a;exact ACx
 rw[Bm a] at h;by_cases a:f=371
 .rw[Bi a] at h;cases h;subst a;exact zq
 rw[Bm a] at h;by_cases a:f=426
 .rw[Bi a] at h;cases h;subst a;exact AEl
 rw[Bm a] at h;by_cases a:f=358
 .rw[Bi a] at h;cases h;subst a;exact ABh
 rw[Bm a,Ev.T.C] at h;cases h
def ui:TJ prog Ax 126 109:=⟨_,dg,B,B,XH Kq,Kq⟩
def Ik:TJ prog Ax 164 90:=⟨_,c9,B,B,XH Kq,Kq⟩
def S6:TJ prog Ax 345 321:=⟨_,da,B,B,XH Kq,Kq⟩
def zP:IP prog 275:=⟨f275,_,_,_,_,_,_,_,_,_,_,_,_,_,_,_,_,_,_,_,_,func275,Kq,B,Jq,Jq,Kq,B⟩
def T5:IP prog 276:=⟨f276,_,_,_,_,_,_,_,_,_,_,_,_,_,_,_,_,_,_,_,_,func276,Kq,B,Jq,Jq,Kq,B⟩
def Arq:YB Ax 321 f321 (kA (iJ f321 0) 0) (kA (iJ f321 1) 0) 363 98 3 1:=
 ⟨Kq,⟨0,1,B⟩,B,B,Kq,Kq,Kq,Kq,Ahq Kq,⟨5,Kq⟩⟩
def Fd:J1 prog Ax (HG 5 64 65 1) (iJ f248 4):=
 Aue Fi (t3':=3) (Ok Fi my codeOk) (by kernel_rfl) Arq ⟨⟨#[363],by kernel_rfl⟩,Kq,Jq⟩
section
variable{S:A9} {L:Nat} [aF S L]
def nj:As->As->Prop
 |[],_=>True
 |(i,v)::l,A=>look A i=I v/\nj l A
def CG:∀{l A:As},nj l A->Sub l A
 |[],_,_,t,v,h=>Jq
 |(i,u)::l,A,h,t,v,a=>by
  rw[GC] at a;split at a
  .rename_i e;subst e;cases a;exact h.1
  .exact CG h.2 t v a
def Du (h:Y) (b:Nat) (l:List Bool):Prop:=
 aC h b 0 (.int .i64 (LT l))/\LT l<=1048576/\
 (∃(v:Aa) (a:Bo),aC h b 1 v/\Rd h v 1 ((LT l+63)/64) (a.map λx:Nat=>AL .u64 x)/\(∀x∈a,x<18446744073709551616)/\∀i,i<LT l->(a.getD (i/64) 0).testBit (i%64)=l.getD i Ah)/\
 ∃v,aC h b 2 v/\Rd h v 1 (((LT l+63)/64+7)/8) ((BG (((LT l+63)/64+7)/8)).map λg=>AL .i64 ((l.take (512*g)).count Ag))
section
variable{h:Y} {b:Nat} {l:List Bool}
def Du.c0 (v:Du h b l):aC h b 0 (.int .i64 (LT l)):=v.1
def Du.len (v:Du h b l):LT l<=1048576:=v.2.1
def Du.C (v:Du h b l) (e:AA h J):Du J b l:=by
 let⟨a,c,⟨d,f,g,i,j⟩,k,m,n⟩:=v;exact⟨a.C e,c,⟨d,f,g.C e,i.C e,j⟩,k,m.C e,n.C e⟩
end
def jh {n:Int} (c:aC h b 0 (.int .i64 n)):Bk S L 1 261 [AG b 0] h λv J=>v=.int .i64 n/\J=h:=
 Fm (fn:=f261) (by kernel_rfl) B λn d=>by
  refine⟨Dc B,_,B,_,ld B c,B,B⟩
end
variable {L d:Nat} {a:AH} {S:A9} {f:Au} {h:Y} {Q k:Aa->Y->Prop} [aF S L]
def Gr (w:Nat):Bo->Nat
 |[]=>0
 |d::l=>d+2^w*Gr w l
def D3:Bo->Bo
 |a::b::l=>(a+b)::D3 l
 |_=>[]
def Pa (w:Nat):Nat->Nat
 |0=>0
 |k+1=>(2^w-1)+2^(2*w)*Pa w k
def Fv (x:Nat):Nat->Bo
 |0=>[]
 |k+1=>(x%2)::Fv (x/2) k
def OC {n a m y M:Nat} (b:a<2^n) (c:m<2^n):(a+2^n*y)&&&(m+2^n*M)=(a&&&m)+2^n*(y&&&M):=by
 apply Nat.eq_of_testBit_eq;intro i;rw[Tt,UK a,UK m,UK (a&&&m),IX _ b,IX _ c,IX _ (Ji Ms b)];split<;>rw[Tt]
def Ma:∀(k:Nat) (l:Bo),LT l=2*k->(D3 l).sum=l.sum/\(D3 l).length=k
 |0,[],_=>⟨B,B⟩
 |k+1,a::b::l,h=>by
  have:=Ma k l Jq;simp[D3,this];omega
 |k+1,[a],h=>Jq
def Q5 {w:Nat}:∀(k:Nat) (l:Bo),LT l=2*k->(∀d∈l,d<2^w)->(Gr w l/2^w&&&Pa w k)+(Gr w l&&&Pa w k)=Gr (2*w) (D3 l)
 |0,[],_,_=>by simp[Pa,Gr,D3]
 |k+1,[a],h,_=>by simp at h;omega
 |
  k+1,a::b::l,h,e=>by
  have m:=Q5 (w:=w) k l (by simp at h;omega) (λd r=>e d (by simp[r]));have f:a<2^w:=e a wl;have hb:b<2^w:=e b wl;have g:0<2^w:=Nat.two_pow_pos w;have i:2^(2*w)=2^w*2^w:=by rw[Nat.two_mul,Nat.pow_add]
  generalize n:Gr w l=c at m;have j:∀{p q:Nat},p<2^w->q<2^w->p+2^w*q<2^(2*w):=λ{p q} v s=>by
   rw[i]
   calc p+2^w*q<2^w+2^w*q:=G
    _=2^w*(q+1):=by rw[EG];omega
    _<=2^w*2^w:=ry _ s
  have t:Gr w (a::b::l)=(a+2^w*b)+2^(2*w)*c:=by
   simp only[Gr,n,i,EG,gO];omega
  have u:Gr w (a::b::l)/2^w=(b+2^w*(c%2^w))+2^(2*w)*(c/2^w):=by
   have:Gr w (a::b::l)=a+2^w*(b+2^w*c):=by simp only[Gr,n]
   rw[this,Nat.add_mul_div_left _ _ g,Nat.div_eq_of_lt f,Ba,i];have:=Nat.mod_add_div c (2^w)
   calc b+2^w*c=b+2^w*(c%2^w+2^w*(c/2^w)):=by rw[this]
    _=_:=by rw[EG,←gO];omega
  have o:2^w-1<2^(2*w):=by
   have:=j (p:=2^w-1) (q:=0) G g;omega
  rw[u,t,Pa,OC (j hb (Je _ g)) o,OC (j f hb) o,EH,EH,WY,WY,JQ f,JQ hb];rw[D3,Gr,←m,EG];omega
def VE:∀(k:Nat) (l:Bo),LT l=2*k->(∀d∈l,d<=4)->(Gr 4 l/16+Gr 4 l)&&&Pa 4 k=Gr 8 (D3 l)
 |0,[],_,_=>Jq
 |k+1,[a],h,_=>Jq
 |k+1,a::b::l,h,e=>by
  have g:=VE k l Jq (λd i=>e d Jq);have n:=e a Jq;have hb:=e b Jq;have o:Gr 4 l%16<=4:=by
   cases l with
   |nil=>simp[Gr]
   |cons c l=>
    have p:=e c Jq;simp only[Gr];omega
  have j:Gr 4 (a::b::l)=a+16*(b+16*Gr 4 l):=Jq
  generalize Gr 4 l=f at*;have m:Gr 4 (a::b::l)/16+Gr 4 (a::b::l)=(a+b+16*(b+f%16))+2^8*(f/16+f):=by
   rw[j];omega
  rw[m,Pa,show 2*4=8 from B,OC G Jq,EH,g,D3,Gr];omega
def VX:∀(k x:Nat),(Fv x k).length=k
 |0,_=>rfl
 |k+1,x=>by simp[Fv,VX k]
def Zq:∀(k x:Nat),∀d∈Fv x k,d<2
 |0,_,d,h=>Jq
 |k+1,x,d,h=>by
  rw[Fv] at h;rcases bZ.1 h with rfl|h
  .omega
  .exact Zq k _ d h
def V5:∀(k x:Nat),x<2^k->Gr 1 (Fv x k)=x
 |0,x,h=>by simp at h;simp[Fv,Gr,h]
 |k+1,x,h=>by
  rw[Fv,Gr,V5 k (x/2) Jq];omega
def NN {c:Nat}:∀(l:Bo),(∀d∈l,d<=c)->∀d∈D3 l,d<=2*c
 |[],_,d,h=>Jq
 |[a],_,d,h=>Jq
 |a::b::l,e,d,h=>by
  rw[D3] at h;rcases bZ.1 h with rfl|h
  .have:=e a Jq;have:=e b Jq;omega
  .exact NN l (λd h=>e d Jq) d h
def Abl {x:Nat} (r:x<2^64):∃g b i:Bo,LT i=8/\(∀d∈i,d<=8)/\i.sum=(Fv x 64).sum/\
 (x/2&&&6148914691236517205)+(x&&&6148914691236517205)=Gr 2 g/\(Gr 2 g/4&&&3689348814741910323)+(Gr 2 g&&&3689348814741910323)=Gr 4 b/\
 (Gr 4 b/16+Gr 4 b)&&&1085102592571150095=Gr 8 i/\Gr 2 g<2^64/\Gr 4 b<2^63/\Gr 4 b/16+Gr 4 b<2^64:=by
 have b0:=V5 64 x r;have m:=VX 64 x;have D:∀d∈Fv x 64,d<=1:=λd h=>by have:=Zq 64 x d h;omega
 have j:=Ma 32 (Fv x 64) m;have C:=NN _ D;have e:=Ma 16 (D3 (Fv x 64)) j.2;have B:=NN _ C;have n:=Ma 8 (D3 (D3 (Fv x 64))) e.2;have E:=NN _ B;have o:=Q5 (w:=1) 32 (Fv x 64) m (λd h=>by have:=D d h;omega);rw[b0] at o;have s:=Q5 (w:=2) 16 (D3 (Fv x 64)) j.2 (λd h=>by have:=C d h;omega);have t:=VE 8 (D3 (D3 (Fv x 64))) e.2 (λd h=>by have:=B d h;omega);have p:∀(w c:Nat) (l:Bo),(∀d∈l,d<=c)->c<2^w->Gr w l<2^(w*LT l):=by
  intro w c l
  induction l with
  |nil=>intro _ _;simp[Gr]
  |
   cons a l k=>
   intro f u;have v:=k (λd h=>f d (by simp[h])) u;have y:=f a wl;rw[Gr,AO,EG,BJ,UK (w*LT l),Nat.pow_add]
   calc a+2^w*Gr w l<2^w+2^w*Gr w l:=G
    _=2^w*(Gr w l+1):=by rw[EG];omega
    _<=_:=ry _ v
 have q:=p 2 2 _ C xc;have z:=p 4 4 _ B xc;rw[j.2] at q;rw[e.2] at z;have A:Gr 4 (D3 (D3 (Fv x 64)))<=4*1229782938247303441:=by
  have:∀(l:Bo),(∀d∈l,d<=4)->Gr 4 l<=4*Gr 4 (AE (LT l) 1):=by
   intro l
   induction l with
   |nil=>intro _;simp[Gr]
   |
    cons a l k=>
    intro f;have:=k (λd h=>f d (by simp[h]));have y:=f a wl;simp only[Gr,AO,List.replicate_succ];omega
  have h:=this _ B;rw[e.2] at h;exact h
 exact⟨_,_,_,n.2,λd h=>by have:=E d h;omega,by rw[n.1,e.1,j.1],o,s,t,q,G,G⟩
def Amd {l:Bo} (u:LT l=8) (h:∀d∈l,d<=8):
 let m:=Gr 8 l
 let n:=m+m/256
 let j:=n+n/65536
 (j+j/4294967296)%128=l.sum/\j+j/4294967296<2^63:=by
 match l,u with
 |[a,b,c,d,e,f,g,i],_=>
  have x:=h a Jq;have hb:=h b Jq;have y:=h c Jq;have z:=h d Jq;have A:=h e Jq;have C:=h f Jq;have D:=h g Jq;have U:=h i wl;clear h;simp only[Gr,gv,List.sum_nil];have p:(2:Nat)^8=256:=B;rw[p];obtain⟨X,v⟩:∃X,X=a+256*(b+256*(c+256*(d+256*(e+256*(f+256*(g+256*(i+256*0))))))):=⟨_,B⟩;rw[←v];obtain⟨k,o⟩:∃q,q=X/256:=⟨_,B⟩;rw[←o];have E:k=b+256*c+65536*d+16777216*e+4294967296*f+1099511627776*g+281474976710656*i:=G
  obtain⟨r,s⟩:∃q,q=(X+k)/65536:=⟨_,B⟩;rw[←s];have F:r=(c+d)+256*(d+e)+65536*(e+f)+16777216*(f+g)+4294967296*(g+i)+1099511627776*i:=G
  obtain⟨w,t⟩:∃q,q=(X+k+r)/4294967296:=⟨_,B⟩;rw[←t];have H:w=(e+f+g+i)+256*(f+g+i)+65536*(g+i)+16777216*i:=G
  clear o s t;constructor<;>omega
def Sq {l A:As} (h:nj l A:=by repeat' first|exact trivial|refine ⟨rfl,?_⟩|refine ⟨Cs (λz=>I (AL .i64 z)) G,?_⟩|refine ⟨Cs (λz=>I (AL .u64 z)) G,?_⟩|refine ⟨Cs (λz=>I (AL .i32 z)) G,?_⟩):Sub l A:=CG h
def Pq {p:Prop} (h:p:=by repeat' first|omega|rfl|apply And.intro):p:=h
def Bz {c:Prop} [Decidable c] {p q:Prop} (a:c->p) (b:¬c->q):ZT (decide c) p q:=Ad (λe=>a (Fp e)) (λe=>b (KK e))
def Co (fn:BC) [aF S L]
 (H:∀n,d<=n->YR Ax (B8 Ax S L n) L fn a h Q) (c:Ax.fn.get f=I fn:=by kernel_rfl) (e:Nf.contains f=false:=by rfl):Bk S L (d+1) f a h Q:=Fm c e H
def Cn (fn:BC) [b:aF S L]
 (H:∀n,d<=n->1125899906842624<=L->i4 Ax (B8 Ax S L n) L fn a h Q) (c:Ax.fn.get f=I fn:=by kernel_rfl) (e:Nf.contains f=false:=by rfl) (g:Ar (LT a) fn.ntmps=true:=by rfl):Bk S L (d+1) f a h Q:=Fm c e λn i=>⟨Ac g,H n i b.a⟩
abbrev Vi (z:Int):Value:=.int .i64 z
def cl {S:A9} {L d n:Nat} {f:Au} {a:AH} {h:Y} {Q k:Aa->Y->Prop} (c:Bk S L d f a h Q) (H:∀v h,Q v h->k v h) (b:d<=n:=by omega):∃Q,Cd (B8 Ax S L n) (.func f) a h Q/\∀w h,Q w h->k w h:=⟨Q,c n b,H⟩
abbrev Sg (s:Bd):Value:=.string s
abbrev sN:Value:=.slice Z 0 0
abbrev sL (b n c:Nat):Value:=.slice (I ⟨b,0,Z⟩) n c
def GZ {S:A9} {L n:Nat} {f:Au} {a:AH} {h:Y} {v:Aa} {k:Aa->Y->Prop} (c:Cd (B8 Ax S L n) (.func f) a h λw J=>w=v/\J=h) (b:k v h):∃Q,Cd (B8 Ax S L n) (.func f) a h Q/\∀w J,Q w J->k w J:=⟨_,c,λ_ _ e=>e.1.symm▸e.2.symm▸b⟩
section
variable {h J h0 h1 H:Y} {v fv nv pv cv ev lv u v':Aa} {xs args vs ys:AH} {n b N i k e r j x m c q d a p t2 st sb mo ck lp rm b0 sz off:Nat} {t:Ai} {f:Au} {fn:BC} {s:Bd} {bs:Bl} {ws:Bo} {W:Nat->Prop} {Q:Aa->Y->Prop} {A:Option BD} {z df day:Int} {ss:BZ} {τ:Bb}
variable{S:A9} {L:Nat} {l:List Bool} {w b1:Nat} [aF S L]
def Qj (x:Nat):Nat:=((BG 64).map x.testBit).count Ag
def Sm (l:List Bool) (i:Nat):Nat:=(l.take i).count Ag
def vM (l:List Bool) (i:Nat):Sm l i<=i:=by
 unfold Sm;exact Ao HM Jq
def PY (x:Nat):Qj x<=64:=by
 unfold Qj;exact Ao HM Jq
def G8 (z:Int):IntKind.wrap .u64 z=z%18446744073709551616:=Jq
def QN (b:a<18446744073709551616):(BitVec.ofInt (IntKind.bits .u64) (a:Int)).toNat=a:=by
 show(BitVec.ofInt 64 a).toNat=a;rw[BitVec.ofInt_natCast,BitVec.toNat_ofNat];exact JQ b
def Oh {n:Int} (c:a<18446744073709551616) (hb:b<18446744073709551616) (d:n=(b:Int)):D8 .u64 (a:Int) n=((a&&&b:Nat):Int):=by
 subst d;unfold D8;rw[BitVec.toNat_and,QN c,QN hb,G8];have:a&&&b<=a:=Ms;omega
def Als {n:Int} (c:a<9223372036854775808) (hb:b<9223372036854775808) (d:n=(b:Int)):D8 .i64 (a:Int) n=((a&&&b:Nat):Int):=by
 subst d;have e:∀{a:Nat},a<9223372036854775808->(BitVec.ofInt (IntKind.bits .i64) (a:Int)).toNat=a:=λ{a} h=>QN G;unfold D8;rw[BitVec.toNat_and,e c,e hb];have:a&&&b<=a:=Ms;exact FC Pq
def Fo {n:Int} (b:n=(m:Int)) (c:m<64):DN .u64 (a:Int) n=((a/2^m:Nat):Int):=by
 subst b;have e:min (bH m) (IntKind.bits .u64)=m:=by
  show min m 64=m;omega
 unfold DN;rw[e,rq _ (Int.le_of_lt (Int.pow_pos G))];simp
def Aif (x:Nat):Qj x=(Fv x 64).sum:=by
 have:∀(k x:Nat),((BG k).map x.testBit).count Ag=(Fv x k).sum:=by
  intro k
  induction k with
  |zero=>intro x;rfl
  |succ k a=>
   intro x;rw[List.range_succ_eq_map,Fv,gv,←a (x/2)];simp only[Bp,O5,List.count_cons];have e:(x.testBit∘A3)=(x/2).testBit:=by
    funext i;simp[Nat.testBit_succ]
   rw[e,Nat.testBit_zero];by_cases h:x%2=1
   .simp[h];omega
   .have:x%2=0:=G
    simp[this]
 exact this 64 x
set_option maxHeartbeats 1000000 in
def kI (o:x<18446744073709551616):Bk S L 1 262 [.int .u64 x] h λv J=>v=Vi (Qj x)/\J=h:=
 Co f262 λn z=>by
  let⟨A,C,D,E,F,H,p,i,j,k,q,l⟩:=Abl (x:=x) o
  let⟨t1,t2⟩:=Amd E F
  rw[Aif,←H]
  let⟨g,K⟩:∃w,w=Gr 2 A:=⟨_,B⟩
  let⟨c,M⟩:∃w,w=Gr 4 C:=⟨_,B⟩
  let⟨d,N⟩:∃w,w=Gr 8 D:=⟨_,B⟩
  rw[←K] at p i k;rw[←M] at i j q l;rw[←N] at j t1 t2;have O:(2:Nat)^64=18446744073709551616:=B;have P:(2:Nat)^63=9223372036854775808:=B;rw[O] at k l;rw[P] at q t2;have lt:∀{a b},a<18446744073709551616->a&&&b<18446744073709551616:=λ{a b} h=>Ji Ms h;refine⟨Dc B,G,?_⟩;rw[Fo (m:=1) (n:=1) B G];have a1:=Oh (a:=x/2^1) (b:=6148914691236517205) (n:=6148914691236517205) G G B;have Q:=Oh (a:=x) (b:=6148914691236517205) (n:=6148914691236517205) o G B;have r:D8 .u64 ((x/2^1:Nat):Int) 6148914691236517205+D8 .u64 (x:Int) 6148914691236517205=(g:Int):=by
   rw[a1,Q,←p];simp
  refine⟨?_,?_⟩
  .rw[r];exact Pq
  rw[r];refine⟨G,?_⟩;rw[Fo (m:=2) (n:=2) B G];have R:=Oh (a:=g/2^2) (b:=3689348814741910323) (n:=3689348814741910323) G G B;have T:=Oh (a:=g) (b:=3689348814741910323) (n:=3689348814741910323) k G B;have s:D8 .u64 ((g/2^2:Nat):Int) 3689348814741910323+D8 .u64 (g:Int) 3689348814741910323=(c:Int):=by
   rw[R,T,←i];simp
  refine⟨?_,?_⟩
  .rw[s];exact Pq
  rw[s];refine⟨G,?_⟩;rw[Fo (m:=4) (n:=4) B G];refine⟨Pq,?_⟩;have V:((c/2^4:Nat):Int)+(c:Int)=((c/16+c:Nat):Int):=by simp
  rw[V];refine⟨G,?_⟩;have W:=Oh (a:=c/16+c) (b:=1085102592571150095) (n:=1085102592571150095) l G B;rw[W,j];rw[Fo (m:=8) (n:=8) B G];have t:(d:Int)+((d/2^8:Nat):Int)=((d+d/256:Nat):Int):=by simp
  let⟨e,X⟩:∃w,w=d+d/256:=⟨_,B⟩
  rw[←X] at t t1 t2;refine⟨Pq,?_⟩;rw[t];refine⟨G,?_⟩;rw[Fo (m:=16) (n:=16) B G];have u:(e:Int)+((e/2^16:Nat):Int)=((e+e/65536:Nat):Int):=by simp
  let⟨f,aa⟩:∃w,w=e+e/65536:=⟨_,B⟩
  rw[←aa] at u t1 t2;refine⟨Pq,?_⟩;rw[u];refine⟨G,?_⟩;rw[Fo (m:=32) (n:=32) B G];have y:(f:Int)+((f/2^32:Nat):Int)=((f+f/4294967296:Nat):Int):=by simp
  let⟨ab,ad⟩:∃w,w=f+f/4294967296:=⟨_,B⟩
  rw[←ad] at y t1 t2;refine⟨Pq,?_⟩;rw[y];refine⟨_,.inl ⟨Pq,B⟩,?_⟩;refine⟨?_,B⟩;show Vi _=_;congr 1;rw[Als (a:=ab) (b:=127) (n:=127) G G B,show(127:Nat)=2^7-1 from B,EH];omega
def V0 (b:64*k+64<=LT l) (hb:∀i,i<64->w.testBit i=l.getD (64*k+i) Ah):Sm l (64*k+64)=Sm l (64*k)+Qj w:=by
 unfold Sm Qj;rw[qM,K0];congr 1;congr 1;apply kh
 .simp;omega
 .intro i c a
  simp only[A4,List.length_range] at a;simp only[qW,qV,EU,kP];rw[hb i a,Ak,Ab G];rfl
def Aik (c:r<64) (d:64*k+r<LT l) (hb:∀i,i<=r->w.testBit i=l.getD (64*k+i) Ah):
 Sm l (64*k+r+1)=Sm l (64*k)+Qj (w*2^(63-r)%18446744073709551616):=by
 unfold Sm Qj;rw[DD,qM,K0];congr 1;have e:(BG 64).map (w*2^(63-r)%18446744073709551616).testBit=AE (63-r) Ah++((l.drop (64*k)).take (r+1)):=by
  apply kh
  .simp;omega
  .intro i g f
   have a:i<64:=Jq
   simp only[EU,kP];rw[show(18446744073709551616:Nat)=2^64 from B,Nat.testBit_mod_two_pow,Nat.testBit_mul_two_pow];by_cases U:i<63-r
   .rw[List.getElem_append_left Jq]
    simp;omega
   .rw[List.getElem_append_right Jq]
    simp only[iV,qW,qV];rw[hb (i-(63-r)) G,Ak,Ab G];have b:63-r<=i:=G;simp[a,b]
 rw[e,K0,List.count_replicate];simp
def uW {x n:Nat} (a:n<64):Es .u64 (x:Int) (n:Int)=((x*2^n%18446744073709551616:Nat):Int):=by
 have e:min (bH n) (IntKind.bits .u64)=n:=by
  show min n 64=n;omega
 have w:∀z:Int,IntKind.wrap .u64 z=z%18446744073709551616:=λz=>by
  simp[IntKind.wrap,IntKind.bits,IntKind.signed]
 unfold Es;rw[e,w];simp
def Rd.ld {a:BD} (q:∀i u,xs[i]?=I u->aC h a.block (a.off+i) u) (b:XF Ax t=Ag) (c:j=i) (d:xs[i]?=I u):Bw Ax t h a.block (a.off+j)=I u:=by
 subst c;exact Go.Ev.ld b (q _ _ d)
def ZW [d:aF S L] (f:Du h b l) (c:Bool) (i:Int) (U:-9223372036854775808<=i/\i<=9223372036854775807):
 Bk S L 2 172 [AG b 0,.bool c,Vi i] h λv J=>v=Vi ((l.take i.toNat).count c)/\J=h:=
 Co f172 λn o=>by
  let⟨V,ws,q,g,E,s⟩:=f.2.2.1
  let⟨W,F,H⟩:=f.2.2.2
  have X:=f.len;refine⟨Dc B,_,jh f.c0 n G,?_⟩;rintro _ _ ⟨rfl,rfl⟩;intro z hz y hy;have aa:0<=y/\y<=LT l:=G;have t:((l.take i.toNat).count c)=((l.take y.toNat).count c):=by
   by_cases h1:i<=LT l
   .rw[show bH i=bH y by omega]
   .rw[Bj G,Bj G]
  rw[t];clear t;apply Bz<;>intro e
  .subst e
   exact⟨by simp[Ff],B⟩
  obtain⟨m,rfl⟩:∃m:Nat,y=m+1:=⟨(y-1).toNat,G⟩;have hw:g.1=g.1:=B;have ab:LT ws=(LT l+63)/64:=by have:=g.1;simpa using this
  obtain⟨a1,Z,rfl,_,u⟩:=g.at_ G;obtain⟨a2,Y,rfl,_,K⟩:=H.at_ G;have M:((m:Int)+1-1)/64=((m/64:Nat):Int):=G;refine⟨Pq,⟨G,G,G,G⟩,_,ld B F,⟨G,G,G,G⟩,G,_,Rd.ld K B (i:=m/64/8) xT
   (by rw[AX,Jj G];rfl),⟨G,G,G,G⟩,Pq,?_⟩
  have hL:=d.a;have N:∀k,ws.getD k 0<18446744073709551616:=λk=>by
   rw[Ak];cases C:ws[k]? with
   |none=>simp
   |some y=>exact E y (AZ C)
  rw[M];refine⟨λD A J=>J=_/\∃(x k:Int) (kn:Nat),A=[(0,AG b 0),(1,.bool c),(2,Vi ((m:Int)+1)),(7,Vi ((m/64:Nat):Int)),(8,Vi x),(9,Vi k)]/\k=kn/\x=Sm l (64*kn)/\kn<=m/64/\D=m/64-kn,
   ⟨_,_,Sq,?_,B,_,_,m/64/8*8,B,G,?_,G,B⟩,?_⟩
  .omega
  .show((l.take (512*(m/64/8))).count Ag:Int)=_
   unfold Sm;rw[show 64*(m/64/8*8)=512*(m/64/8) by omega]
  rintro D A hh ⟨rfl,x,k,kn,rfl,rfl,rfl,C,rfl⟩ ad;have ae:=vM l (64*kn);apply Bz<;>intro e
  .have j:(ws.map λx:Nat=>AL .u64 x)[kn]?=I (.int .u64 (ws.getD kn 0:Nat)):=by
    rw[AX,Ak,Ab G];rfl
   refine⟨_,ld B q,G,_,Rd.ld u B (i:=kn) xT j,_,kI ?_ n o,?_⟩
   .exact N kn
   rintro _ _ ⟨rfl,rfl⟩;have O:=PY (ws.getD kn 0);refine⟨Pq,Pq,?_⟩;refine⟨_,_,Sq,?_,B,_,_,kn+1,B,G,?_,G,B⟩
   .omega
   .rw[show 64*(kn+1)=64*kn+64 by omega,V0 (w:=ws.getD kn 0) G (λi U=>by
     rw[←s (64*kn+i) G,show(64*kn+i)/64=kn by omega,show(64*kn+i)%64=i by omega])]
    omega
  .obtain rfl:kn=m/64:=G
   have j:(ws.map λx:Nat=>AL .u64 x)[m/64]?=I (.int .u64 (ws.getD (m/64) 0:Nat)):=by
    rw[AX,Ak,Ab G];rfl
   have P:=uW (x:=ws.getD (m/64) 0) (n:=63-m%64) G;have Q:(63:Int)-((m:Int)+1-1)%64=((63-m%64:Nat):Int):=G;refine⟨_,ld B q,G,_,Rd.ld u B (i:=m/64) xT j,Pq,G,Pq,G,?_⟩;rw[Q,P];refine⟨_,kI (Je _ G) n o,?_⟩;rintro _ _ ⟨rfl,rfl⟩;have O:=PY (ws.getD (m/64) 0*2^(63-m%64)%18446744073709551616);have R:=Aik (l:=l) (w:=ws.getD (m/64) 0) (k:=m/64) (r:=m%64) G G (λi U=>by
    rw[←s (64*(m/64)+i) (G),show(64*(m/64)+i)/64=m/64 by omega,show(64*(m/64)+i)%64=i by omega])
   rw[show 64*(m/64)+m%64+1=m+1 by omega] at R;have af:=vM l (m+1);refine⟨Pq,?_⟩;cases c with
   |
    true=>
    refine⟨?_,B⟩;show Vi _=_;congr 1;show _=((Sm l (m+1):Nat):Int);omega
   |
    false=>
    refine⟨Pq,?_,B⟩;show Vi _=_;congr 1;have hf:(l.take (m+1)).count Ag+(l.take (m+1)).count Ah=m+1:=by
     have:=List.length_eq_countP_add_countP (p:=(·==Ag)) (l:=l.take (m+1));simp only[Cg] at this;unfold List.count;have T:(λa:Bool=>decide ¬(a==Ag)=Ag)=(λa=>a==Ah):=by funext a;cases a<;>rfl
     rw[T] at this;omega
    show _=(((l.take (m+1)).count Ah:Nat):Int);unfold Sm at*;omega
def H1 (τ:Bb) (t:Ai) (v:Aa) (h:Y):∃b,K7 τ t v h=I (AG h.a 0,b)/\AA h b/\aQ b h.a t (AJ v)/\b.a=h.a+1:=
 ⟨_,B,AA.row _ _ _,aQ.row _ _ _,Ck _ _⟩
def zr (S:A9) (L d:Nat) (a:Aa) (h:Y) (N:Int) (p:Int->Bool):Prop:=
 ∃g first cap,a=.func (.func g) first cap/\∀i,0<=i->i<N->Bk S L d g (aI first++[.int .i64 i]++aI cap) h λv J=>v=.bool (p i)/\J=h
def tv [a:aF S L] {N:Int} (s:0<=N/\N<=1099511627775) {p:Int->Bool} (l:zr S L d fv h N p):
 Bk S L (d+1) 263 [Vi N,fv] h λv J=>J=h/\∃z:Int,v=Vi z/\0<=z/\z<=N/\(0<z->p (z-1)=Ah)/\(z<N->p z=Ag):=
 Co f263 λn t=>by
  obtain⟨g,first,cap,rfl,o⟩:=l
  have u:=a.a;refine⟨Dc B,λb A J=>J=h/\∃i j:Int,A=[(0,Vi N),(1,.func (.func g) first cap),(5,Vi i),(6,Vi j)]/\0<=i/\i<=j/\j<=N/\(0<i->p (i-1)=Ah)/\(j<N->p j=Ag)/\b=(j-i).toNat,
   ⟨_,_,Sq,?_,B,_,_,B,G,G,G,G,G,B⟩,?_⟩
  .omega
  rintro b A w ⟨rfl,i,j,rfl,C,x,q,c,f,rfl⟩ y;apply Bz<;>intro e
  .refine⟨Pq,_,.inl Pq,G,?_⟩
   let⟨m,r⟩:∃m:Nat,i+j=m:=⟨(i+j).toNat,G⟩
   rw[r,Fo (m:=1) (n:=1) B G];refine⟨_,.inl Pq,_,o ((m/2^1:Nat):Int) G G n G,?_⟩;rintro _ _ ⟨rfl,rfl⟩;refine⟨_,_,B,?_⟩;apply Ad<;>intro k
   .refine⟨Pq,_,_,Sq,?_,B,_,_,B,G,G,G,?_,f,B⟩
    .omega
    .intro _
     rw[show((m/2^1:Nat):Int)+1-1=((m/2^1:Nat):Int) by omega];simpa using k
   .refine⟨_,_,Sq,?_,B,_,_,B,G,G,G,c,?_,B⟩
    .omega
    .intro _
     simpa using k
  .obtain rfl:i=j:=G
   exact⟨B,i,B,C,q,c,f⟩
def AEx {c:Bool} {k:Int} (f:Du h b l) (g:aC h b1 0 (AG b 0)) (j:aC h d 0 (.bool c)) (m:aC h e 0 (Vi k)) {i:Int} (U:0<=i/\i<LT l):
 Bk S L 3 264 [Vi i,AG b1 0,AG d 0,AG e 0] h λv J=>v=.bool (decide (k<((l.take (bH i+1)).count c:Nat)))/\J=h:=
 Co f264 λn o=>by
  have p:=f.len;refine⟨Dc B,[],Kq,_,ld B g,_,ld B j,Pq,GZ (ZW (h:=h.ad) f c (i+1) G n o) ?_⟩;refine⟨B,_,ld B m,?_,B⟩;show CU _=_;rw[show(i+1).toNat=bH i+1 by omega]
def mz (r:Du h b l) (c:Bool) {k:Int} (N:-9223372036854775808<=k/\k<=9223372036854775807):
 iB S L 5 173 [AG b 0,.bool c,Vi k] h λv J=>((k<0\/(l.count c:Nat)<=k)/\v=Vi (-1)\/∃z:Nat,v=Vi z/\z<LT l/\((l.take z).count c:Nat)<=k/\k<((l.take (z+1)).count c:Nat)):=
 Co f173 λn O=>by
  have P:=r.len
  let⟨h1,w,x,y,Q⟩:=H1 Ax 295 (AG b 0) h
  let⟨f,A,s,C,R⟩:=H1 Ax 4 (.bool c) h1
  let⟨g,D,j,E,T⟩:=H1 Ax 3 (Vi k) f
  have o:aC g h.a 0 (AG b 0):=((y.C s).C j).cell B;have t:aC g h1.a 0 (.bool c):=(C.C j).cell B;have p:aC g f.a 0 (Vi k):=E.cell B;have d:=(x.trans s).trans j;have q:=r.C d;refine⟨Dc B,_,_,w,_,_,A,_,_,D,_,ld B o,GZ (jh q.c0 n G) ?_⟩;refine⟨[],Kq,_,ld B p,Bz (λe=>?_) (λe=>?_)⟩
  .exact⟨d,.inl ⟨.inl e,B⟩⟩
  refine⟨_,ld B p,_,ld B o,_,ld B t,GZ (ZW (h:=Y.ad _) q c (LT l:Int) G n G) ?_⟩;rw[show((LT l:Int)).toNat=LT l from B,CS];refine⟨B,Bz (λu=>?_) (λu=>?_)⟩
  .exact⟨d,.inl ⟨.inr u,B⟩⟩
  refine⟨_,tv G ⟨264,#[],#[AG h.a 0,AG h1.a 0,AG f.a 0],B,λi h0 h1=>AEx q o t p ⟨h0,h1⟩⟩ n G,?_⟩;rintro _ _ ⟨rfl,z,rfl,V,W,F,H⟩;obtain⟨m,rfl⟩:∃m:Nat,z=m:=Jq;have K:((l.take m).count c:Int)<=k:=by
   rcases KQ m with rfl|X
   .simp;omega
   .have:=KK (F G)
    rw[show((m:Int)-1).toNat+1=m by omega] at this;omega
  have M:m<LT l:=Gq;exact⟨d,.inr ⟨m,B,M,K,Fp (H G)⟩⟩
def WM (w j:Nat):decide ((((w/2^j&&&1:Nat):Int))=1)=w.testBit j:=by
 rw[Nat.and_one_is_mod,Nat.testBit_eq_decide_div_mod_eq];congr 1;apply propext;omega
def ji (a:Du h b l) {i:Int}:Bk S L 2 282 [AG b 0,Vi i] h λv J=>v=.bool (decide (0<=i)&&l.getD i.toNat Ah)/\J=h:=
 Co f282 λn p=>by
  let⟨q,ws,f,d,g,j⟩:=a.2.2.1
  have r:=a.len;refine⟨Dc B,Bz (λe=>?_) (λe=>?_)⟩
  .refine GZ (jh a.c0 n G) ?_
   obtain⟨m,rfl⟩:∃m:Nat,i=m:=⟨bH i,G⟩;apply Bz<;>intro s
   .obtain⟨a1,t,rfl,_,k⟩:=d.at_ G
    have u:LT ws=(LT l+63)/64:=by have:=d.1;simpa using this
    have o:(ws.map λx:Nat=>AL .u64 x)[m/64]?=I (.int .u64 (ws.getD (m/64) 0:Nat)):=by
     rw[AX,Ak,Ab G];rfl
    have hb:ws.getD (m/64) 0<18446744073709551616:=g _ (by
     rw[Ak,Ab G];exact Bu _)
    refine⟨_,ld B f,⟨G,G,G,G⟩,G,_,Rd.ld k B xT o,G,G,?_⟩;rw[Fo (m:=m%64) G G];refine⟨?_,B⟩;show CU _=_;rw[Oh (b:=1) (n:=1) (Ji (Nat.div_le_self _ _) hb) G B,WM,j m G];simp
   .refine⟨?_,B⟩
    show CU _=_;rw[Ak,CD G];simp
  .refine⟨?_,B⟩
   show CU _=_;simp[e]
def Qn (a:Bo) (k:Nat):Nat:=((a.take k).map Qj).sum
def Ta (a:k<LT ws):Qn ws (k+1)=Qn ws k+Qj (ws.getD k 0):=by
 unfold Qn;rw[A5 a,BS,PC,Ak,Ab a];simp
def Alk (c:Bo) (k:Nat):Qn c k<=64*k:=by
 unfold Qn;have:∀l:Bo,(l.map Qj).sum<=64*LT l:=by
  intro l
  induction l with
  |nil=>simp
  |cons a l b=>have:=PY a;simp;omega
 have h:=this (c.take k);simp only[Cg] at h;omega
def Ig (a:Bo) (m:Nat):AH:=(BG m).map λg=>AL .i64 (Qn a (8*g))
def sV [f:aF S L] {p g:Aa} (o:aQ h b 401 [p,g,sN]) (r:Rd h g 1 (LT ws) (ws.map λx:Nat=>AL .u64 x)) (z:∀i,BY g i->i≠b) (hb:∀x∈ws,x<18446744073709551616) (hl:LT ws<=100000):
 Bk S L 2 257 [AG b 0] h λv J=>v=.tuple #[]/\B0 (·=b) h J/\∃cv,aQ J b 401 [p,g,cv]/\AS J h.a 3 1 cv ((LT ws+7)/8) (Ig ws ((LT ws+7)/8)):=
 Co f257 λn hn=>by
  have hL:=f.a;obtain⟨C,j,l,rfl,D,E,F⟩:=r;have H:Rd h (.slice j (LT ws) l) 1 (LT ws) (ws.map λx:Nat=>AL .u64 x):=⟨C,j,l,B,D,E,F⟩;refine⟨Dc B,_,ld B (o.cell B),λs A a=>∃(x:Int) (k:Nat) (cv:Aa),A=[(0,AG b 0),(2,Vi x),(8,.slice j (LT ws) l),(9,Vi (LT ws)),(10,Vi k)]/\x=Qn ws k/\k<=LT ws/\s=LT ws-k/\
   B0 (·=b) h a/\aQ a b 401 [p,.slice j (LT ws) l,cv]/\AS a h.a 3 1 cv ((k+7)/8) (Ig ws ((k+7)/8)),
   ⟨_,_,Sq,?_,_,0,_,B,B,Al _,B,(AA.refl h).O _,o,AS.nil _ _ _ _⟩,?_⟩
  .omega
  rintro s A a ⟨x,k,cv,rfl,rfl,hk,rfl,c,m,d⟩ ab;apply Bz<;>intro e
  .have K:k<LT ws:=G
   have hs:=Alk ws k;have ad:=Ta K;have hp:=PY (ws.getD k 0)
   let⟨a1,x1,M,_,N⟩:=(H.O c (λi U h=>z i U h)).at_ G
   cases M;have O:(ws.map λx:Nat=>AL .u64 x)[k]?=I (.int .u64 (ws.getD k 0:Nat)):=by
    rw[AX,Ak,Ab G];rfl
   have u:ws.getD k 0<18446744073709551616:=hb _ (by
    rw[Ak,Ab G];exact Bu _)
   refine⟨G,_,Rd.ld N B xT O,G,?_⟩;apply Bz<;>intro e2
   .have P:=c.a
    obtain⟨v',h2,Q,q,w,s4⟩:=Tz Kq d (ys:=[Vi (Qn ws k:Nat)]) B B P G;have R:=m.O w (λa=>by have:=d.ai _ a;have:=o.1;omega);obtain⟨T,V,W,y⟩:=R.st (τ:=Ax) (t:=50) B (by show 2<3;decide) (D5 q);have X:∀i,BY v' i->h.a<=i:=λi U=>q.ai i U;have aa:=q.ah y (λi U h=>by have:=X i U;have:=o.1;omega);refine⟨_,ld B (m.cell B),_,_,i3 50 _ 1 (Vi (Qn ws k:Nat)) a,_,_,Q,_,V,GZ (kI u n G) ?_⟩;refine⟨Pq,Pq,_,_,Sq,?_,_,k+1,_,B,G,G,B,((c.then w λi U=>.inr (d.ai i U)).trans y.O:B0 (·=b) h T),W,?_⟩
    .omega
    .have e3:(k+1+7)/8=(k+7)/8+1:=G
     rw[e3,Ig,fU,BS];simpa[(G:8*((k+7)/8)=k),Ig] using aa
   .refine GZ (kI u n G) ?_
    refine⟨Pq,Pq,_,_,Sq,?_,_,k+1,_,B,G,G,B,c,m,?_⟩
    .omega
    .rw[show(k+1+7)/8=(k+7)/8 by omega];exact d
  .obtain rfl:k=LT ws:=G
   exact⟨B,c,cv,m,d⟩
def zX (c:a<18446744073709551616) (hb:b<18446744073709551616):JP .u64 (a:Int) (b:Int)=((a|||b:Nat):Int):=by
 unfold JP;rw[BitVec.toNat_or,QN c,QN hb,G8];have:a|||b<2^64:=Zz c hb;omega
def FA (l:List Bool) (k:Nat) (a:Bo):Prop:=LT a=(LT l+63)/64/\(∀x∈a,x<18446744073709551616)/\∀i,i<64*LT a->(a.getD (i/64) 0).testBit (i%64)=(decide (i<k)&&l.getD i Ah)
def FA.zero (l:List Bool):FA l 0 (AE ((LT l+63)/64) 0):=by
 refine⟨Jq,λx a=>?_,λi U=>?_⟩
 .rw[CH a];omega
 .simp only[iV] at U
  rw[Ak,List.getElem?_replicate,Bi G];simp
def FA.skip (w:FA l k ws) (b:l.getD k Ah=Ah):FA l (k+1) ws:=by
 refine⟨w.1,w.2.1,λi U=>?_⟩;rw[w.2.2 i U];by_cases h:i=k
 .subst h;rw[b];simp
 .by_cases a:i<k
  .simp[a,show i<k+1 by omega]
  .simp[a,show¬i<k+1 by omega]
def FA.put (w:FA l k ws) (m:k<LT l) (c:l.getD k Ah=Ag):FA l (k+1) (ws.set (k/64) (ws.getD (k/64) 0|||2^(k%64))):=by
 have hb:∀j,ws.getD j 0<18446744073709551616:=λj=>by
  rw[Ak];cases d:ws[j]? with
  |none=>simp
  |some y=>exact w.2.1 y (AZ d)
 have a:∀r,r<64->2^r<18446744073709551616:=λr f=>kR G f;refine⟨by simp[w.1],λx g=>?_,λi U=>?_⟩
 .rcases BT g with h|rfl
  .exact w.2.1 x h
  .exact Zz (n:=64) (hb _) (a _ (Je _ G))
 .simp only[B4] at U
  have b:=w.2.2 i U;rw[Ak,Iu];by_cases e:k/64=i/64
  .rw[Bi e,Bi (by rw[w.1] at*;omega)]
   simp only[EN];rw[e,Nat.testBit_or,b,Nat.testBit_two_pow];by_cases h:i=k
   .subst h;rw[c];simp
   .have:¬k%64=i%64:=G
    by_cases a:i<k
    .simp[a,this,show i<k+1 by omega]
    .simp[a,this,show¬i<k+1 by omega]
  .rw[Bm e,←Ak,b]
   have h:¬i=k:=λh=>e (by rw[h]);by_cases a:i<k
   .simp[a,show i<k+1 by omega]
   .simp[a,show¬i<k+1 by omega]
def TX (l:List Bool) (a:Bo):Prop:=LT a=(LT l+63)/64/\(∀x∈a,x<18446744073709551616)/\∀i,i<LT l->(a.getD (i/64) 0).testBit (i%64)=l.getD i Ah
def FA.bits (w:FA l (LT l) ws):TX l ws:=
 ⟨w.1,w.2.1,λi U=>by rw[w.2.2 i (by rw[w.1];omega)];simp[U]⟩
def Y0 {l:List Bool} {a:Bo} (w:TX l a):∀g,64*g<=LT l->Qn a g=Sm l (64*g)
 |0,_=>by simp[Qn,Sm]
 |
  g+1,h=>by
  rw[Ta (by rw[w.1];omega),Y0 w g G,show 64*(g+1)=64*g+64 by omega,V0 (w:=a.getD g 0) G (λi U=>by
   have:=w.2.2 (64*g+i) G;rw[show(64*g+i)/64=g by omega,show(64*g+i)%64=i by omega] at this;exact this)]
def vn {a:Aa} (f:LT l<=1048576) (w:TX l ws) (o:aQ h b 401 [Vi (LT l),a,cv]) (r:Rd h a 1 (LT ws) (ws.map λx:Nat=>AL .u64 x))
 (c:Rd h cv 1 ((LT ws+7)/8) (Ig ws ((LT ws+7)/8))):Du h b l:=by
 refine⟨o.cell B,f,⟨a,ws,o.cell B,w.1▸r,w.2.1,w.2.2⟩,cv,o.cell B,?_⟩
 .rw[←w.1]
  have e:Ig ws ((LT ws+7)/8)=(BG ((LT ws+7)/8)).map λg=>Vi ((l.take (512*g)).count Ag):=by
   unfold Ig;apply List.map_congr_left;intro g d;have d:=dX.1 d;have i:=w.1;rw[Y0 w (8*g) G];unfold Sm;rw[show 64*(8*g)=512*g by omega]
  rw[←e];exact c
def aC.inj (c:aC h b o v) (a:aC h b o v'):v=v':=by
 let⟨_,c,n,e,lo,U,x,h1,g⟩:=c
 let⟨_,a,n',i,j,k,l,d,f⟩:=a
 rw[h1] at d;cases d;rw[g] at f;cases f;rfl
def ID (h:Y) (N b:Nat):Prop:=N<=b/\(∀v,aC h b 1 v->∀i,BY v i->N<=i)/\∀v,aC h b 2 v->∀i,BY v i->N<=i
def Du.fr (v:Du h b l) (g:ID h N b) (c:B0 W h J) (a:∀i,W i->i<N):Du J b l:=by
 let⟨h1,m,⟨e,ws,f,n,o⟩,j,k,p⟩:=v
 have hb:¬W b:=λh=>by have:=a b h;have:=g.1;omega
 exact⟨h1.O c hb,m,⟨e,ws,f.O c hb,n.O c (λi U d=>by have:=a i d;have:=g.2.1 e f i U;omega),o⟩,j,k.O c hb,p.O c λi U d=>by have:=a i d;have:=g.2.2 j k i U;omega⟩
def Du.M (v:Du J b l):Du (h.M J) b l:=by
 let⟨h1,a,⟨c,ws,d,e,f⟩,g,i,j⟩:=v
 exact⟨h1.M,a,⟨c,ws,d.M,e.M,f⟩,g,i.M,j.M⟩
def ID.M (v:ID J N b):ID (h.M J) N b:=by
 unfold ID aC;rw[CL,DF];exact v
def rQ [p:aF S L] (r:Rd h v 1 (LT l) (l.map .bool)) (hl:LT l<=9223372036854775807):
 iB S L 3 168 [v] h λw J=>(1048576<LT l/\w=.tuple #[.pointer Z,Vi 2]\/LT l<=1048576/\∃b,h.a<=b/\w=.tuple #[AG b 0,Vi 0]/\Du J b l/\ID J h.a b):=
 Co f168 λn hn=>by
  have hL:=p.a;obtain⟨O,q,s,rfl,P,Q,R⟩:=r;have T:Rd h (.slice q (LT l) s) 1 (LT l) (l.map .bool):=⟨O,q,s,B,P,Q,R⟩;refine⟨Dc B,?_⟩;apply Bz<;>intro e
  .exact⟨AA.refl h,.inl ⟨G,B⟩⟩
  have y:LT l<=1048576:=G;have em:((LT l:Int)+63)/64=(((LT l+63)/64:Nat):Int):=G
  let⟨h1,V,W,X,n1⟩:=MA (τ:=Ax) (t:=298) (e:=194) (z:=.int .u64 0) Kq Kq B ((LT l+63)/64) G .i64 .i64 h
  refine⟨Pq,⟨G,G,G,G⟩,?_⟩;rw[em];refine⟨_,_,V,?_⟩
  let⟨h2,f,C,o2,n2⟩:=H1 Ax 401 (.agg #[Vi (LT l),sL h.a ((LT l+63)/64) ((LT l+63)/64),sN]) h1
  refine⟨_,_,f,?_⟩;have aa:aQ h2 h1.a 401 [Vi (LT l),sL h.a ((LT l+63)/64) ((LT l+63)/64),sN]:=o2;have w0:=FA.zero l;refine⟨λD A a=>∃(k:Nat) (ws:Bo),A=[(4,AG h1.a 0),(19,.slice q (LT l) s),(20,Vi (LT l)),(21,Vi k)]/\k<=LT l/\D=LT l-k/\FA l k ws/\
   AA h a/\aQ a h.a 194 (ws.map λx:Nat=>AL .u64 x)/\aQ a h1.a 401 [Vi (LT l),sL h.a ((LT l+63)/64) ((LT l+63)/64),sN],
   ⟨_,_,Sq,?_,0,_,B,Al _,B,w0,W.trans C,?_,aa⟩,?_⟩
  .omega
  .simpa using X.C C
  rintro D A a ⟨k,ws,rfl,hk,rfl,d,g,j,m⟩ af;apply Bz<;>intro e
  .have E:k<LT l:=G
   let⟨a1,y1,e9,_,q1⟩:=(T.C g).at_ G
   cases e9;have ab:(l.map CU)[k]?=I (.bool (l.getD k Ah)):=by
    rw[AX,Ak,Ab E];rfl
   refine⟨G,_,Rd.ld q1 B (i:=k) xT ab,Ad (λf=>?_) (λf=>?_)⟩
   .have o:=d.1
    have ad:(ws.map λx:Nat=>AL .u64 x)[k/64]?=I (.int .u64 (ws.getD (k/64) 0:Nat)):=by
     rw[AX,Ak,Ab G];rfl
    have hb:ws.getD (k/64) 0<18446744073709551616:=d.2.1 _ (by
     rw[Ak,Ab G];exact Bu _)
    have F:2^(k%64)<18446744073709551616:=kR (n:=64) G (Je _ G);have ae:(k:Int)%64=((k%64:Nat):Int):=G;have es:Es .u64 1 ((k:Int)%64)=((2^(k%64):Nat):Int):=by
     have:=uW (x:=1) (n:=k%64) (Je _ G);rw[ae];rw[Nat.one_mul,JQ F] at this;exact this
    let⟨h3,s5,s6,H⟩:=aQ.st (h:=a.ad) (τ:=Ax) (t:=194) B (i:=k/64) (v:=.int .u64 ((ws.getD (k/64) 0|||2^(k%64):Nat):Int)) j (by simp;omega) B
    refine⟨[],Kq,_,ld B (m.cell (i:=1) B),⟨G,G,G,G⟩,G,_,(by
     have:=ld (τ:=Ax) (t:=194) B (j.cell ad);rw[show(0+((k:Int)/64).toNat*t194.size)=k/64 by show 0+_*1=_;omega];exact this),G,G,?_⟩
    rw[es];refine⟨G,h3,(by
     rw[zX hb F,show(0+((k:Int)/64).toNat*t194.size)=k/64 by show 0+_*1=_;omega];exact s5),Pq,?_⟩
    refine⟨_,_,Sq,?_,k+1,_,B,G,B,d.put E f,?_,?_,?_⟩
    .omega
    .exact g.ah H.M (Ae _)
    .have:=s6.M (h:=a)
     rw[Cp];exact this
    .exact m.ah H.M G
   .refine⟨Pq,_,_,Sq,?_,k+1,ws,B,G,B,d.skip f,g,j,m⟩
    omega
  .obtain rfl:k=LT l:=G
   have o:=d.1;have K:Rd a (sL h.a ((LT l+63)/64) ((LT l+63)/64)) 1 (LT ws) (ws.map λx:Nat=>AL .u64 x):=by
    rw[o];have:AS a h.a 194 1 (sL h.a ((LT l+63)/64) ((LT l+63)/64)) ((LT l+63)/64) (ws.map λx:Nat=>AL .u64 x):=
     ⟨by simp[o],.inr ⟨h.a,_,[],B,Ae _,Ae _,by simp[o],by simpa using j⟩⟩
    exact this.rd
   refine⟨_,sV m K (λi U=>by have:i=h.a:=U;omega) d.2.1 G n G,?_⟩;rintro _ h4 ⟨rfl,M,cv,u,N⟩;have hx:AA h h4:=g.then M (λi U=>by rw[U];omega)
   have ag:=g.a;refine⟨hx,.inr ⟨y,h1.a,G,B,vn y d.bits u (K.O M λi U ah=>?_) N.rd,G,λv c i U=>?_,λv c i U=>?_⟩⟩
   .have:i=h.a:=U
    omega
   .obtain rfl:=c.inj (u.cell (i:=1) B)
    have:i=h.a:=U;omega
   .obtain rfl:=c.inj (u.cell (i:=2) B)
    have:=N.ai i U;omega
def DH (z:Int):∃b:UInt8,IntKind.wrap .u8 z=(dE b:Int):=by
 refine⟨dR (z%256).toNat,?_⟩;rw[(by simp[IntKind.wrap,IntKind.bits,IntKind.signed]:IntKind.wrap .u8 z=z%256),UInt8.toNat_ofNat'];omega
def nS (o:AS h N 5 1 v n (Ay bs)) (b:UInt8) (a:N<=h.a) (hb:n+1<=1000000000):
 ∃v' J,Bx Ax .append [98,98] [v,sL h.a 1 1] (BN h 5 [.int .u8 (dE b:Int)])=I (v',J)/\AS J N 5 1 v' (n+1) (Ay (bs++[b]))/\B0 (BY v) h J/\(∀i,BY v' i->BY v i\/h.a<=i):=by
 rw[Ee];exact Tz Kq o B B a hb
def hY (b:UInt8) (h:Y):Bs Ax 98 1 [(0,.int .u8 (dE b:Int))] h=I (sL h.a 1 1,BN h 5 [.int .u8 (dE b:Int)]):=
 Iv (k:=1) Kq (.int .u8 (dE b:Int)) B B Jq h
def jW (h:Y) (v b:Aa):Prop:=∀i,BY b i->BY v i\/h.a<=i
def AS.len {e:Ai} (o:AS h N e 1 v n xs):n=LT xs:=by have:=o.1;omega
def nJ (o:AS h N 5 1 v n (Ay bs)) (hN:N<=h.a) (r:Rd h lv 1 m (ws.map λx:Nat=>AL .u64 x)) (y:∀i,BY lv i->¬BY v i)
 (z:sz<=8) (Y:∀x∈ws,x<18446744073709551616) (hm:m<=1000000) (Z:n<=100000000):
 Bk S L 1 273 [v,Vi sz,lv] h λw J=>∃t:Bl,LT t=n+sz*m/\AS J N 5 1 w (n+sz*m) (Ay t)/\B0 (BY v) h J/\jW h v w:=
 Cn f273 λd aa hL=>by
  obtain⟨C,p,l,rfl,D,E,F⟩:=r;have H:Rd h (.slice p m l) 1 m (ws.map λx:Nat=>AL .u64 x):=⟨C,p,l,B,D,E,F⟩;have ab:LT ws=m:=Gq;refine⟨λf A a=>∃(k:Nat) (u:Aa) (cs:Bl),A=[(0,u),(1,Vi sz),(10,.slice p m l),(11,Vi m),(12,Vi k)]/\k<=m/\f=m-k/\LT cs=n+sz*k/\
   AS a N 5 1 u (n+sz*k) (Ay cs)/\B0 (BY v) h a/\jW h v u,
   ⟨_,_,Sq,?_,0,v,bs,B,Al _,B,?_,o,(AA.refl h).O _,λi U=>.inl U⟩,?_⟩
  .omega
  .have:=o.len;rw[A7] at this;simp[this]
  rintro f A a ⟨k,u,cs,rfl,K,rfl,q,g,b,c⟩ M;apply Bz<;>intro e
  .have ad:=G
   let⟨a1,y1,O,_,P⟩:=(H.O b y).at_ G
   cases O;have Q:(ws.map λx:Nat=>AL .u64 x)[k]?=I (.int .u64 (ws.getD k 0:Nat)):=Gq;have ae:=Cj z K;refine⟨G,_,Rd.ld P B xT Q,λf A a=>∃(j:Nat) (u:Aa) (cs:Bl),A=[(0,u),(1,Vi sz),(8,.int .u64 (ws.getD k 0:Nat)),(9,Vi j),(10,.slice (I a1) m l),(11,Vi m),(12,Vi k)]/\j<=sz/\f=sz-j/\LT cs=n+sz*k+j/\
    AS a N 5 1 u (n+sz*k+j) (Ay cs)/\B0 (BY v) h a/\jW h v u,
    ⟨_,_,Sq,?_,0,u,cs,B,Al _,B,q,g,b,c⟩,?_⟩
   .omega
   rintro f A a ⟨j,u,cs,rfl,hj,rfl,q,g,b,c⟩ M;apply Bz<;>intro e
   .let⟨s,R⟩:=DH (DN .u64 (ws.getD k 0:Nat) (8*(j:Int)))
    have af:=b.a
    let⟨v',h2,T,V,W,X⟩:=nS g s G G
    refine⟨Pq,G,_,.inr R.symm,_,_,hY s a,_,_,T,Pq,_,_,Sq,?_,j+1,v',cs++[s],B,G,B,Jq,V,?_,?_⟩
    .omega
    .exact b.then W c
    .intro i U
     rcases X i U with h|h
     .exact c i h
     .right;omega
   .obtain rfl:j=sz:=G
    refine⟨Pq,_,_,Sq,?_,k+1,u,cs,B,G,B,?_,?_,b,c⟩
    .omega
    .rw[EG];omega
    .rw[show n+j*(k+1)=n+j*k+j by rw[EG];omega];exact g
  .obtain rfl:k=m:=G
   exact⟨cs,q,g,b,c⟩
def NR (a b:Int):∃y:Nat,y<18446744073709551616/\JP .u64 a b=(y:Int):=by
 refine⟨(JP .u64 a b).toNat,?_,?_⟩<;>(unfold JP;rw[G8];omega)
def CY (a:k<LT bs):(Ay bs)[k]?=I (.int .u8 ((bs.getD k 0).toNat:Int)):=by
 unfold Ay;rw[AX,Ak,Ab a];rfl
def Pd (b:UInt8):dE b<256:=b.toNat_lt
def PD (bs:Bl):Nat->Int
 |0=>0
 |k+1=>JP .u64 (PD bs k) (Es .u64 ((bs.getD k 0).toNat) (8*k))
def Ri (bs:Bl) (k:Nat):0<=PD bs k/\PD bs k<18446744073709551616:=by
 cases k with
 |zero=>exact⟨Int.le_refl _,by show(0:Int)<_;omega⟩
 |succ k=>
  let⟨y,h1,a⟩:=NR (PD bs k) (Es .u64 ((bs.getD k 0).toNat) (8*k))
  rw[PD,a];omega
def mY {h:Y} {v:Aa} {n:Nat} {bs:Bl} (r:Rd h v 1 n (Ay bs)) (t:n<=100000000):
 Bk S L 1 281 [v] h λw J=>w=.int .u64 (PD bs n)/\J=h:=
 Cn f281 λd u x=>by
  obtain⟨c,a,b,rfl,l,m,o⟩:=r;have p:Rd h (.slice a n b) 1 n (Ay bs):=⟨c,a,b,B,l,m,o⟩;have z:LT bs=n:=by rw[A7] at c;omega
  refine⟨λf A g=>g=h/\∃(k:Nat) (y:Int),A=[(3,.int .u64 y),(6,.slice a n b),(7,Vi n),(8,Vi k)]/\k<=n/\f=n-k/\y=PD bs k,
   ⟨_,_,Sq,?_,B,0,0,B,Al _,B,B⟩,?_⟩
  .omega
  rintro f A g ⟨rfl,k,y,rfl,C,rfl,rfl⟩ D;apply Bz<;>intro e
  .let⟨a1,E,q,_,s⟩:=p.at_ G
   cases q;have hb:=Pd (bs.getD k 0);refine⟨G,_,Rd.ld s B (i:=k) xT (CY G),_,.inl Pq,Pq,G,Pq,?_⟩;refine⟨_,_,Sq,?_,B,k+1,_,B,G,B,B⟩;omega
  .obtain rfl:k=n:=G
   exact⟨B,B⟩
def i6 {h:Y} {v w:Aa} {n m:Nat} {bs cs:Bl} (r:Rd h v 1 n (Ay bs)) (q:Rd h w 1 m (Ay cs)):Bk S L 1 98 [v,w] h λu J=>u=.bool (bs==cs)/\J=h:=
 Cn f98 λd f _=>by
  have b:=FB (τ:=Ax) (s:=98) (d:=9) Kq r;have e:=FB (τ:=Ax) (s:=98) (d:=9) Kq q;obtain⟨_,A,c,rfl,_⟩:=r;obtain⟨_,g,i,rfl,_⟩:=q;refine⟨_,b,_,e,_,B,?_,B⟩;show CU (Gp _ _)=_;rw[J0]
def ky (o:Du h b l):iB S L 2 181 [AG b 0] h λw J=>∃bs:Bl,LT bs<=300000/\AS J h.a 5 1 w (LT bs) (Ay bs):=
 Cn f181 λd q hL=>by
  let⟨v1,ws,w0,r,w2,w3⟩:=o.2.2.1
  let⟨v2,k0,K⟩:=o.2.2.2
  have aw:=o.len;have ax:LT ws=(LT l+63)/64:=by have:=r.1;simpa using this
  have b1:=i3 298 194 1 (.int .u64 (LT l:Int)) h.ad;have M:=AA.row h.ad 194 [.int .u64 (LT l:Int)];have s:=aQ.row h.ad 194 [.int .u64 (LT l:Int)]
  let⟨a,u⟩:∃a,a=BN h.ad 194 [.int .u64 (LT l:Int)]:=⟨_,B⟩
  have af:Bs Ax 298 1 [(0,.int .u64 (LT l:Int))] h.ad=I (sL h.a 1 1,a):=by rw[u];exact b1
  rw[←u] at M s;rw[BF] at s;clear b1 u;have O:AA h (h.M a):=M.M
  let⟨g,hg⟩:∃g,g=h.M a:=⟨_,B⟩
  have ow:aQ (h.M a) h.a 194 [.int .u64 (LT l:Int)]:=s.M;have ag:Rd (h.M a).ad (sL h.a 1 1) 1 1 ([LT l].map λx:Nat=>AL .u64 x):=by
   have:AS (h.M a) h.a 194 1 (sL h.a 1 1) 1 [.int .u64 (LT l:Int)]:=⟨B,.inr ⟨h.a,1,[],B,Ae _,Ae _,B,ow⟩⟩;exact this.rd
  refine⟨_,B,?_⟩;refine⟨[.w 11],Kq,_,ld B o.c0,_,.inl Pq,_,_,af,?_⟩;refine⟨_,nJ (h:=(h.M a).ad) (N:=(h.M a).a) (bs:=[]) (sz:=4) (n:=0) (AS.nil _ _ _ _) (Ae _) ag (λ_ _ h=>h) G (by simp;omega) G G d q,?_⟩;rintro P f ⟨Q,q1,v,R,q4⟩;refine⟨R.C λ_ h=>h,?_⟩;have T:B0 (BY (sN)) (h.M a) ((h.M a).M f):=R.M;have y:AA h ((h.M a).M f):=O.then T λ_ h=>h.elim
  have V:AS ((h.M a).M f) (h.M a).a 5 1 P (0+4*1) (Ay Q):=v.M;have z:=O.a;have W:=T.a;have ah:=r.C y;have ai:=w0.C y;have aj:∀i,BY v1 i->¬BY P i:=λi U c=>by
   have X:=r.aw i U;have z2:=v.ai i c;omega
  refine⟨_,ld B ai,?_⟩;refine⟨_,nJ (h:=((h.M a).M f).ad) (N:=(h.M a).a) (bs:=Q) (sz:=8) (n:=4) V W ah aj G w2 G G d q,?_⟩;rintro o2 h3 ⟨ak,r1,r2,C,r4⟩;refine⟨C.dw V,?_⟩;have D:AA h (((h.M a).M f).M h3):=y.then C.M λi U=>Ao z (v.ai i U)
  have al:AS (((h.M a).M f).M h3) (h.M a).a 5 1 o2 (4+8*((LT l+63)/64)) (Ay ak):=r2.M;have am:=k0.C D;have ay:=K.C D;obtain⟨hr,E,F,rfl,an,ao,hA⟩:=K;have az:4+8*((LT l+63)/64)<=140000:=G;refine⟨_,ld B am,?_⟩;refine⟨λμ A c=>∃(k:Nat) (cv:Aa) (cs:Bl),A=[(3,cv),(23,.slice E (((LT l+63)/64+7)/8) F),(24,Vi ((((LT l+63)/64+7)/8:Nat):Int)),(25,Vi k)]/\k<=((LT l+63)/64+7)/8/\μ=((LT l+63)/64+7)/8-k/\
   AS c (h.M a).a 5 1 cv (4+8*((LT l+63)/64)+4*k) (Ay cs)/\AA h c/\(h.M a).a<=c.a,
   ⟨_,_,Sq,?_,0,_,_,B,Al _,B,al,D,Ao W C.M.a⟩,?_⟩
  .omega
  rintro μ A c ⟨k,cv,cs,rfl,hk,rfl,t,Y,f3⟩ a0;apply Bz<;>intro e
  .have kk:=(show Rd h (.slice E (((LT l+63)/64+7)/8) F) 1 _ _ from⟨hr,E,F,B,an,ao,hA⟩).C Y
   let⟨a1,y1,e9,_,p1⟩:=kk.at_ G
   cases e9;have a2:(l.take (512*k)).count Ag<=1048576:=Ao HM (by simp;omega);have ap:((BG (((LT l+63)/64+7)/8)).map λg=>Vi ((l.take (512*g)).count Ag:Nat))[k]?=I (Vi ((l.take (512*k)).count Ag:Nat)):=by
    rw[AX,Jj G];rfl
   have b2:=i3 298 194 1 (.int .u64 ((l.take (512*k)).count Ag:Nat)) c;have p:=AA.row c 194 [.int .u64 ((l.take (512*k)).count Ag:Nat)];have aa:=aQ.row c 194 [.int .u64 ((l.take (512*k)).count Ag:Nat)]
   let⟨j,ab⟩:∃j,j=BN c 194 [.int .u64 ((l.take (512*k)).count Ag:Nat)]:=⟨_,B⟩
   have aq:Bs Ax 298 1 [(0,.int .u64 ((l.take (512*k)).count Ag:Nat))] c=I (sL c.a 1 1,j):=by rw[ab];exact b2
   rw[←ab] at p aa;have ar:Rd j (sL c.a 1 1) 1 1 ([(l.take (512*k)).count Ag].map λx:Nat=>AL .u64 x):=by
    have:AS j c.a 194 1 (sL c.a 1 1) 1 [.int .u64 ((l.take (512*k)).count Ag:Nat)]:=⟨B,.inr ⟨c.a,1,[],B,Ae _,Ae _,B,aa⟩⟩;exact this.rd
   have au:=t.C p;have a3:=Y.a;have ad:(h.M a).a<=j.a:=Ao f3 p.a;refine⟨G,_,Rd.ld p1 B (i:=k) xT ap,_,.inl Pq,_,_,aq,?_⟩;refine⟨_,nJ (sz:=4) au ad ar (λi U av=>by have:=t.aw i av;have:i=c.a:=U;omega) G (by simp;omega) G G d q,?_⟩;rintro o5 h5 ⟨iG,t1,t2,t3,t4⟩;refine⟨Pq,_,_,Sq,?_,k+1,o5,iG,B,G,B,?_,?_,Ao ad t3.a⟩
   .omega
   .rw[show 4+8*((LT l+63)/64)+4*(k+1)=4+8*((LT l+63)/64)+4*k+4*1 by omega];exact t2
   .exact(Y.trans p).then t3 λi U=>Ao z (t.ai i U)
  .refine⟨Y,cs,?_,?_⟩
   .have:=t.len;rw[A7] at this;omega
   .have ae:=t.len
    rw[A7] at ae;rw[←ae]
    let⟨y1,H⟩:=t
    refine⟨y1,?_⟩;rcases H with H|⟨b',c',sp,X,z2,z3⟩
    .exact .inl H
    .exact .inr ⟨b',c',sp,X,Ao z z2,z3⟩
def Lh (a:Bo) (y:Nat):List Bool:=(BG y).map λi=>(a.getD (i/64) 0).testBit (i%64)
def Ahc {y:Nat} (a:LT ws=(y+63)/64) (hb:∀x∈ws,x<18446744073709551616):TX (Lh ws y) ws:=by
 have e:(Lh ws y).length=y:=by simp[Lh]
 refine⟨Jq,hb,λi U=>?_⟩;rw[e] at U;have b:(Lh ws y)[i]?=I ((ws.getD (i/64) 0).testBit (i%64)):=by rw[Lh,AX,Jj U];rfl
 rw[Ak (l:=Lh ws y),b];rfl
def Zo {d:Nat} {z:Int} {n:Nat} (h:z=n):RO d (I (Vi z))=I n:=by
 subst h;rfl
def su {h:Y} {v:Aa} {n:Nat} {bs:Bl} (r:Rd h v 1 n (Ay bs)) (hn:n<=100000000):
 iB S L 4 194 [v] h λw J=>(w=.tuple #[.pointer Z,Vi 5]\/∃p l,h.a<=p/\w=.tuple #[AG p 0,Vi 0]/\Du J p l):=
 Cn f194 λd av hL=>by
  obtain⟨hr,q,s,rfl,af,ag,hA⟩:=r;have D:Rd h (.slice q n s) 1 n (Ay bs):=⟨hr,q,s,B,af,ag,hA⟩;have aw:LT bs=n:=by rw[A7] at hr;omega
  apply Bz<;>intro e
  .exact⟨AA.refl h,.inl B⟩
  let⟨v4,s1,Q,s3⟩:=D.slice (τ:=Ax) (t:=98) Kq (lo:=Z) (U:=I (Vi 4)) (l:=0) (m:=4) B B G G
  rw[Qg,dQ,BJ,Ez] at Q;have ad:CN h (C7 Ax 98 (.slice q n s) Z (I (Vi 4)) Z)=I (v4,h):=by rw[s1];rfl
  have ny:=Ri (bs.take 4) 4;refine⟨_,_,ad,_,mY Q G d G,?_⟩;rintro _ h ⟨rfl,rfl⟩;apply Bz<;>intro e2
  .exact⟨AA.refl _,.inl B⟩
  refine⟨_,_,ad,_,mY Q G d G,?_⟩;rintro _ h ⟨rfl,rfl⟩
  let⟨y,hy⟩:∃y:Nat,PD (bs.take 4) 4=y:=⟨(PD (bs.take 4) 4).toNat,G⟩
  have R:PD (bs.take 4) (4-0)=y:=hy;have ah:y<=1048576:=by rw[R] at e2;omega
  let⟨h1,b1,x1,o1,n1⟩:=H1 Ax 401 (.agg #[Vi y,sN,sN]) h
  have ae:aQ h1 h.a 401 [Vi y,sN,sN]:=o1;refine⟨_,.inl ⟨by rw[R];exact Pq,R.symm⟩,_,_,b1,_,ld B (ae.cell (i:=0) B),Pq,⟨G,G,G,G⟩,Pq,Pq,?_⟩;apply Bz<;>intro e3
  .exact⟨x1,.inl B⟩
  refine⟨λμ A a=>∃(k:Nat) (g:Bo) (o:Aa),A=[(0,.slice q n s),(4,AG h.a 0),(5,Vi (((y+63)/64:Nat):Int)),(34,Vi (((y+63)/64:Nat):Int)),(35,Vi k)]/\k<=(y+63)/64/\μ=(y+63)/64-k/\
   LT g=k/\(∀x∈g,x<18446744073709551616)/\AA h a/\aQ a h.a 401 [Vi y,o,sN]/\AS a h1.a 194 1 o k (g.map λx:Nat=>AL .u64 x),
   ⟨_,_,Sq,?_,0,[],_,B,Al _,B,B,wl,x1,ae,AS.nil _ _ _ _⟩,?_⟩
  .omega
  rintro μ A a ⟨k,g,o,rfl,hk,rfl,T,V,E,F,H⟩ ax;apply Bz<;>intro e
  .have ay:k<(y+63)/64:=G
   have rk:Rd a.ad (.slice q n s) 1 n (Ay bs):=D.C (E.trans (AA.ad a))
   let⟨v5,s4,W,s6⟩:=rk.slice (τ:=Ax) (t:=98) Kq (lo:=I (Vi (4+8*(k:Int)))) (U:=I (Vi (12+8*(k:Int)))) (l:=4+8*k) (m:=12+8*k) (Zo G) (Zo G) G G
   rw[BJ,BJ,EA,Ez,show 12+8*k-(4+8*k)=8 by omega] at W;have ai:CN a.ad (C7 Ax 98 (.slice q n s) (I (Vi (4+8*(k:Int)))) (I (Vi (12+8*(k:Int)))) Z)=I (v5,a.ad):=by rw[s4];rfl
   let⟨C,aj⟩:∃C,C=(bs.drop (4+8*k)).take 8:=⟨_,B⟩
   rw[←aj] at W;have nz:=Ri C 8
   let⟨z,hz⟩:∃z:Nat,PD C 8=z:=⟨(PD C 8).toNat,G⟩
   have K:AA a (a.M a.ad):=(AA.refl a.ad).M;have ak:=H.C K;have al:h1.a<=(a.M a.ad).a:=by have:=E.a;have:=F.1;have:=K.a;omega
   let⟨M,z1,z2,v',J,z3,X,z5,z6⟩:=Aef (τ:=Ax) (st:=298) (t2:=298) (e:=194) (k:=1) Kq ak (ys:=[.int .u64 z]) B B al G
   have z0:Bs Ax 298 1 [(0,.int .u64 z)] (a.M a.ad).ad=I (sL ((a.M a.ad).a) 1 1,M):=by
    rw[←z1];exact i3 298 194 1 (.int .u64 z) (a.M a.ad).ad
   refine⟨[],Kq,_,ld B (F.cell (i:=1) B),Pq,Pq,Pq,Pq,_,_,ai,_,mY W G d G,?_⟩;rintro _ _ ⟨rfl,rfl⟩;rw[hz];refine⟨B,_,_,z0,_,_,z3,?_⟩;have c5:=z5.M;have N:∀i,BY o i->h1.a<=i:=λi U=>H.ai i U;have am:=((F.C K).C z2).O c5 (λU=>by have:=N _ U;omega)
   let⟨h3,t5,t6,t7⟩:=aQ.st (h:=(((a.M a.ad).M M).M J).ad) (τ:=Ax) (t:=298) B (i:=1) (v:=v') am (by show 1<3;decide) (D5 X)
   refine⟨_,t5,Pq,?_⟩;have az:z<18446744073709551616:=G;have an:AS (((a.M a.ad).M M).M J) h1.a 194 1 v' (k+1) _:=X.M;have ao:∀i,BY v' i->i≠h.a:=λi U=>by have:=X.ai i U;omega
   have ap:AA h ((((a.M a.ad).M M).M J).M h3):=(((E.trans K).trans z2).then c5 λi U=>by have:=N i U;omega).ah t7.M (Ae _)
   refine⟨_,_,Sq,?_,k+1,g++[z],v',B,G,B,by simp[T],?_,ap,t6.M,?_⟩
   .omega
   .intro x c
    rcases dF.1 c with c|c
    .exact V x c
    .simp at c;omega
   .rw[BS]
    exact an.ah t7.M ao
  .obtain rfl:k=(y+63)/64:=G
   have e9:(Lh g y).length=y:=by simp[Lh]
   have N:∀i,BY o i->h1.a<=i:=λi U=>H.ai i U;have aa:Rd a o 1 (LT g) (g.map λx:Nat=>AL .u64 x):=by rw[T];exact H.rd
   have ab:∀i,BY o i->i≠h.a:=λi U=>by have:=N i U;omega
   refine cl (sV F aa ab V G) ?_;rintro _ b ⟨rfl,k1,cv,k2,k3⟩;have c:AA h b:=E.then k1 (λi U=>by rw[U];omega)
   have u:Du b h.a (Lh g y):=by
    refine vn (by rw[e9];exact ah) (Ahc T V) (by rw[e9];exact k2) (aa.O k1 ab) k3.rd
   have aq:=aa.O k1 ab;have ar:aC b h.a 1 o:=k2.cell B;refine⟨[],Kq,_,ld B u.c0,G,Ad (λO=>?_) (λO=>?_)⟩
   ·
    have O:¬(y:Int)%64=0:=by rw[e9] at O;simpa using O
    obtain⟨a1,y1,rfl,_,q1⟩:=aq.at_ G;have au:(g.map λx:Nat=>AL .u64 x)[(y+63)/64-1]?=I (.int .u64 (g.getD ((y+63)/64-1) 0:Nat)):=by
     rw[AX,Ak,Ab G];rfl
    refine⟨_,ld B ar,Pq,G,_,Rd.ld q1 B (i:=(y+63)/64-1) xT au,_,ld B u.c0,G,G,?_⟩;apply Ad<;>intro P
    .exact⟨c,.inl B⟩
    .skip
     refine cl (ky (h:=b.ad) u) ?_;rintro o5 j ⟨f,iG,l5,r5⟩;refine⟨f.C,_,i6 (h:=(b.M j).ad) (r5.M (h:=b)).rd (D.C ((c.trans f.M).trans (AA.ad _))) d G,?_⟩;rintro _ _ ⟨rfl,rfl⟩;refine⟨B,_,_,B,Ad (λP=>?_) (λP=>?_)⟩
     .exact⟨c.trans (f.M.trans (AA.refl (b.M j).ad).M),.inl B⟩
     .exact⟨c.trans (f.M.trans (AA.refl (b.M j).ad).M),.inr ⟨h.a,Lh g y,Ae _,B,u.C (f.M.trans (AA.refl (b.M j).ad).M)⟩⟩
   .skip
    refine cl (ky (h:=b.ad) u) ?_;rintro o5 j ⟨f,iG,l5,r5⟩;refine⟨f.C,_,i6 (h:=(b.M j).ad) (r5.M (h:=b)).rd (D.C ((c.trans f.M).trans (AA.ad _))) d G,?_⟩;rintro _ _ ⟨rfl,rfl⟩;refine⟨B,_,_,B,Ad (λP=>?_) (λP=>?_)⟩
    .exact⟨c.trans (f.M.trans (AA.refl (b.M j).ad).M),.inl B⟩
    .exact⟨c.trans (f.M.trans (AA.refl (b.M j).ad).M),.inr ⟨h.a,Lh g y,Ae _,B,u.C (f.M.trans (AA.refl (b.M j).ad).M)⟩⟩
def E1 (a:Bo) (w i:Nat):Int:=
 if w=0 then 0 else
 let v:=DN .u64 (a.getD (i*w/64) 0:Nat) ((i*w%64:Nat):Int)
 let v:=if i*w%64+w<=64 then v else JP .u64 v (Es .u64 (a.getD (i*w/64+1) 0:Nat) (UX 64 ((i*w%64:Nat):Int)))
 D8 .u64 v (UX (Es .u64 1 (w:Int)) 1)
def FM (a:Bo) (w i:Nat):0<=E1 a w i/\E1 a w i<18446744073709551616:=by
 unfold E1;split
 .omega
 .show 0<=D8 .u64 _ _/\D8 .u64 _ _<_
  unfold D8;rw[G8];omega
def BX (h:Y) (b n w:Nat) (c:Bo):Prop:=aC h b 0 (.int .i64 n)/\aC h b 1 (.int .i64 w)/\n<=1048576/\w<=64/\(∃a,aC h b 2 a/\Rd h a 1 (LT c) (c.map λx:Nat=>AL .u64 x))/\LT c=(n*w+63)/64/\∀x∈c,x<18446744073709551616
def BX.C (p:BX h b n w ws) (e:AA h J):BX J b n w ws:=by
 let⟨a,c,d,f,⟨g,i,j⟩,k⟩:=p
 exact⟨a.C e,c.C e,d,f,⟨g,i.C e,j.C e⟩,k⟩
def G5 (a:k<LT ws):(ws.map λx:Nat=>AL .u64 x)[k]?=I (.int .u64 (ws.getD k 0:Nat)):=by
 rw[AX,Ak,Ab a];rfl
def mC (p:BX h b n w ws) (U:i<n):
 Bk S L 1 196 [AG b 0,Vi i] h λv J=>v=.int .u64 (E1 ws w i)/\J=h:=
 Cn f196 λd x _=>by
  let⟨y,a,o,q,⟨z,c,r⟩,s,A⟩:=p
  have C:(i+1)*w<=n*w:=Ci w G;have D:(i+1)*w=i*w+w:=Gq;have E:=Cj o q
  let⟨m,f⟩:∃m,m=i*w:=⟨_,B⟩
  have l:(i:Int)*(w:Int)=(m:Int):=Gq;refine⟨_,ld B a,?_⟩;apply Bz<;>intro e
  .have:w=0:=G
   subst this;exact⟨by rw[E1,Bi B];rfl,B⟩
  have g:w≠0:=G;refine⟨[],Kq,_,ld B a,⟨by rw[l];omega,by rw[l];omega⟩,?_⟩;rw[l];have t:m/64<LT ws:=Gq;obtain⟨a1,F,rfl,_,j⟩:=r.at_ G;have k:(m:Int)%64=((m%64:Nat):Int):=G;refine⟨⟨G,G,G,G⟩,_,ld B a,⟨by rw[l];omega,by rw[l];omega⟩,?_⟩;rw[l];refine⟨G,_,.inl Pq,_,ld B c,G,_,Rd.ld j B (by show((m:Int)/64).toNat*1=_;omega) (G5 t),G,_,.inl Pq,_,ld B a,Pq,?_⟩;apply Bz<;>intro H
  .have u:m/64+1<LT ws:=by rw[s];omega
   refine⟨_,ld B c,Pq,G,_,Rd.ld j B (by show((m:Int)/64+1).toNat*1=_;omega) (G5 u),(by rw[T0 Pq];omega),_,ld B a,_,.inl Pq,G,?_,B⟩;rw[E1,Bm g,←f];simp only[];rw[Bm G,←k];rfl
  .refine⟨_,ld B a,_,.inl Pq,G,?_,B⟩
   rw[E1,Bm g,←f];simp only[];rw[Bi G,←k];rfl
def K3 (p:aC h b 0 (Vi n)):Bk S L 1 108 [AG b 0] h λv J=>v=Vi n/\J=h:=
 Cn f108 λd c _=>by
  refine⟨_,B,_,ld B p,B,B⟩
def ZZ (p:BX h b n w ws) {i:Int}:
 Bk S L 2 109 [AG b 0,Vi i] h λv J=>v=.tuple #[.int .u64 (if 0<=i/\i<n then E1 ws w i.toNat else 0),.bool (decide (0<=i/\i<n))]/\J=h:=
 Cn f109 λd f _=>by
  apply Bz<;>intro e
  .rw[Bm G,decide_eq_false G]
   exact⟨B,B⟩
  refine GZ (K3 p.1 d G) ?_;apply Bz<;>intro g
  .rw[Bm G,decide_eq_false G]
   exact⟨B,B⟩
  obtain⟨k,rfl⟩:∃k:Nat,i=k:=⟨bH i,G⟩;refine GZ (mC p G d G) ?_;have c:0<=(k:Int)/\(k:Int)<(n:Int):=G;refine⟨?_,B⟩;rw[Bi c,decide_eq_true c];rfl
def W4 (a b:Int):Nat:=(JP .u64 a b).toNat
def Xu (a b:Int):JP .u64 a b=(W4 a b:Int):=by
 let⟨y,_,h⟩:=NR a b
 rw[W4,h];rfl
def vB (a b:Int):W4 a b<18446744073709551616:=by
 let⟨y,h1,h⟩:=NR a b
 rw[W4,h];exact h1
def Qr (b:Bo) (w i:Nat) (v:Int):Bo:=
 if w=0 then b else
 let a:=b.set (i*w/64) (W4 (b.getD (i*w/64) 0:Nat) (Es .u64 v ((i*w%64:Nat):Int)))
 if i*w%64+w<=64 then a else a.set (i*w/64+1) (W4 (a.getD (i*w/64+1) 0:Nat) (DN .u64 v (UX 64 ((i*w%64:Nat):Int))))
def WN (a:Bo) (w i:Nat) (v:Int):(Qr a w i v).length=LT a:=by
 unfold Qr;split
 .rfl
 .simp[]
  split<;>simp
def TS (h:∀x∈ws,x<18446744073709551616) (k:Nat) (a b:Int):∀x∈ws.set k (W4 a b),x<18446744073709551616:=by
 intro x c;rcases BT c with c|rfl
 .exact h x c
 .exact vB _ _
def Akp (w i:Nat) (v:Int) (h:∀x∈ws,x<18446744073709551616):∀x∈Qr ws w i v,x<18446744073709551616:=by
 unfold Qr;split
 .exact h
 .simp[]
  split
  .exact TS h _ _ _
  .exact TS (TS h _ _ _) _ _ _
def zo (g:aC h b 1 (Vi w)) (q:aC h b 2 (sL a (LT ws) (LT ws))) (o:aQ h a 194 (ws.map λx:Nat=>AL .u64 x)) (r:b≠a)
 (K:n<=1048576) (M:w<=64) (O:LT ws=(n*w+63)/64) (U:i<n) {v:Int}:
 Bk S L 1 259 [AG b 0,Vi i,.int .u64 v] h λu J=>u=.tuple #[]/\B0 (·=a) h J/\aQ J a 194 ((Qr ws w i v).map λx:Nat=>AL .u64 x):=
 Cn f259 λd P _=>by
  have Q:(i+1)*w<=n*w:=Ci w G;have R:(i+1)*w=i*w+w:=Gq;have T:=Cj K M
  let⟨m,l⟩:∃m,m=i*w:=⟨_,B⟩
  have H:(i:Int)*(w:Int)=(m:Int):=by rw[l];simp
  refine⟨_,ld B g,?_⟩;apply Bz<;>intro e
  .have:w=0:=G
   subst this;exact⟨B,(AA.refl h).O _,by rw[Qr,Bi B];exact o⟩
  have s:w≠0:=G;refine⟨[],Kq,_,ld B g,⟨by rw[H];omega,by rw[H];omega⟩,?_⟩;rw[H];have y:m/64<LT ws:=Gq;have z:(m:Int)%64=((m%64:Nat):Int):=G;refine⟨⟨G,G,G,G⟩,_,ld B g,⟨by rw[H];omega,by rw[H];omega⟩,?_⟩;rw[H];have A:0+((m:Int)/64).toNat*t194.size=m/64:=by show 0+_*1=_;omega
  have C:0+((m:Int)/64+1).toNat*t194.size=m/64+1:=by show 0+_*1=_;omega
  obtain⟨D,N,f,j⟩:=aQ.st (τ:=Ax) (t:=194) B (v:=.int .u64 (W4 (ws.getD (m/64) 0:Nat) (Es .u64 v ((m:Int)%64)):Nat)) o (by simpa using y) B;refine⟨G,_,.inl Pq,_,ld B q,G,_,(by rw[A];exact ld B (o.cell (G5 y)):Bw Ax 194 h a (0+((m:Int)/64).toNat*t194.size)=I (.int .u64 (ws.getD (m/64) 0:Nat))),G,G,D,(by rw[A,Xu];exact N),?_⟩;rw[(λk x=>by rw[Cp]:∀k x,(ws.map λx:Nat=>AL .u64 x).set k (.int .u64 (x:Nat))=(ws.set k x).map λx:Nat=>AL .u64 x)] at f;refine⟨_,.inl Pq,_,ld B (g.ah j r),Pq,?_⟩;apply Bz<;>intro V
  .let⟨c,E⟩:∃c,c=ws.set (m/64) (W4 (ws.getD (m/64) 0:Nat) (Es .u64 v ((m:Int)%64))):=⟨_,B⟩
   rw[←E] at f;have F:m/64+1<LT c:=Gq;obtain⟨hb,Y,X,W⟩:=aQ.st (τ:=Ax) (t:=194) B (v:=.int .u64 (W4 (c.getD (m/64+1) 0:Nat) (DN .u64 v (UX 64 ((m:Int)%64))):Nat)) f (by simpa using F) B;refine⟨_,ld B (q.ah j r),Pq,G,_,(by rw[C];exact ld B (f.cell (G5 F)):Bw Ax 194 D a (0+((m:Int)/64+1).toNat*t194.size)=I (.int .u64 (c.getD (m/64+1) 0:Nat))),(by rw[T0 Pq];omega),G,hb,(by rw[C,Xu];exact Y),B,j.O.trans W.O,?_⟩;have p:Qr ws w i v=c.set (m/64+1) (W4 (c.getD (m/64+1) 0:Nat) (DN .u64 v (UX 64 ((m:Int)%64)))):=by
    rw[Qr,Bm s,←l];simp only[];rw[Bm G,←z,←E]
   rw[p,Cp];exact X
  .refine⟨B,j.O,?_⟩
   have p:Qr ws w i v=ws.set (m/64) (W4 (ws.getD (m/64) 0:Nat) (Es .u64 v ((m:Int)%64))):=by
    rw[Qr,Bm s,←l];simp only[];rw[Bi G,←z]
   rw[p];exact f
def bl (x:Nat):Nat:=if x=0 then 0 else Nat.log2 x+1
def uj (s:Bd):Bool:=Am s.size 256&&(BG 256).all λi=>Am (Cv s i).toNat (bl i)
def FW (a:uj s=Ag) (b:x<256):((x:Nat):Int)<(aL s:Int):=by
 have:=Af (An ..▸a).1;omega
def Hc (b:uj s=Ag) (c:x<256) {a:Int} {v:Nat} (d:(v:Int)=a+(bl x:Nat)):Vi (a+((Cv s ((x:Nat):Int).toNat).toNat:Nat))=Vi (v:Nat):=by
 have:=Af (Jf.1 ((An ..▸b:_/\_).2:(BG 256).all (λi=>Am (Cv s i).toNat (bl i))=Ag) x (dX.2 c));rw[d,←this];rfl
def Pe (a:x<256):bl x<=8:=by
 unfold bl;split
 .omega
 .have:=(Nat.log2_lt (k:=8) (by assumption)).2 a
  omega
def fk (a x:Nat):Nat:=if 256<=x then a+8+bl (x/2^8) else a+bl x
def fj (a x:Nat):Nat:=if 65536<=x then fk (a+16) (x/2^16) else fk a x
def bE (x:Nat):Nat:=if 4294967296<=x then fj 32 (x/2^32) else fj 0 x
def G2 (b:UInt8):(dE b:Int)<=9223372036854775807:=by have:=Pd b;omega
def Lu (b:UInt8) {a:Int} (h:a<=1000):a+(dE b:Int)<=9223372036854775807:=by have:=Pd b;omega
def sr (n:x<18446744073709551616):Bk S L 1 258 [.int .u64 x] h λv J=>v=Vi (bE x)/\bE x<=64/\J=h:=
 Cn f258 λd o _=>by
  apply Bz<;>intro p
  .let⟨e,g⟩:∃y,y=x/2^32:=⟨_,B⟩
   refine⟨G,?_⟩;rw[(g▸Fo B G:DN .u64 (x:Int) 32=(e:Int))];apply Bz<;>intro l
   .let⟨b,f⟩:∃y,y=e/2^16:=⟨_,B⟩
    have m:DN .u64 e 16=b:=f▸Fo B G
    refine⟨G,?_⟩;rw[m];refine⟨Jq,?_⟩;apply Bz<;>intro j
    .let⟨a,c⟩:∃y,y=b/2^8:=⟨_,B⟩
     have i:DN .u64 b 8=a:=c▸Fo B G
     refine⟨G,?_⟩;rw[i];have hb:=Pe (x:=a) G;have k:bE x=56+bl (a):=by rw[bE,Bi G,←g,fj,Bi G,←f,fk,Bi G,←c]
     refine⟨Pq,_,.inl Pq,⟨G,FW Kq G⟩,_,.inl ⟨⟨G,G2 _⟩,B⟩,⟨G,Lu _ G⟩,Hc Kq G (by rw[k];push_cast;omega),G,B⟩
    .have hb:=Pe (x:=b) G
     have k:bE x=48+bl (b):=by rw[bE,Bi G,←g,fj,Bi G,←f,fk,Bm G]
     refine⟨_,.inl Pq,⟨G,FW Kq G⟩,_,.inl ⟨⟨G,G2 _⟩,B⟩,⟨G,Lu _ G⟩,Hc Kq G (by rw[k];push_cast;omega),G,B⟩
   .apply Bz<;>intro j
    .let⟨a,c⟩:∃y,y=e/2^8:=⟨_,B⟩
     have i:DN .u64 e 8=a:=c▸Fo B G
     refine⟨G,?_⟩;rw[i];have hb:=Pe (x:=a) G;have k:bE x=40+bl (a):=by rw[bE,Bi G,←g,fj,Bm G,fk,Bi G,←c]
     refine⟨Pq,_,.inl Pq,⟨G,FW Kq G⟩,_,.inl ⟨⟨G,G2 _⟩,B⟩,⟨G,Lu _ G⟩,Hc Kq G (by rw[k];push_cast;omega),G,B⟩
    .have hb:=Pe (x:=e) G
     have k:bE x=32+bl (e):=by rw[bE,Bi G,←g,fj,Bm G,fk,Bm G]
     refine⟨_,.inl Pq,⟨G,FW Kq G⟩,_,.inl ⟨⟨G,G2 _⟩,B⟩,⟨G,Lu _ G⟩,Hc Kq G (by rw[k];push_cast;omega),G,B⟩
  .apply Bz<;>intro l
   .let⟨b,f⟩:∃y,y=x/2^16:=⟨_,B⟩
    refine⟨G,?_⟩;rw[(f▸Fo B G:DN .u64 (x:Int) 16=(b:Int))];refine⟨Jq,?_⟩;apply Bz<;>intro j
    .let⟨a,c⟩:∃y,y=b/2^8:=⟨_,B⟩
     have i:DN .u64 b 8=a:=c▸Fo B G
     refine⟨G,?_⟩;rw[i];have hb:=Pe (x:=a) G;have k:bE x=24+bl (a):=by rw[bE,Bm G,fj,Bi G,←f,fk,Bi G,←c]
     refine⟨Pq,_,.inl Pq,⟨G,FW Kq G⟩,_,.inl ⟨⟨G,G2 _⟩,B⟩,⟨G,Lu _ G⟩,Hc Kq G (by rw[k];push_cast;omega),G,B⟩
    .have hb:=Pe (x:=b) G
     have k:bE x=16+bl (b):=by rw[bE,Bm G,fj,Bi G,←f,fk,Bm G]
     refine⟨_,.inl Pq,⟨G,FW Kq G⟩,_,.inl ⟨⟨G,G2 _⟩,B⟩,⟨G,Lu _ G⟩,Hc Kq G (by rw[k];push_cast;omega),G,B⟩
   .apply Bz<;>intro j
    .let⟨a,c⟩:∃y,y=x/2^8:=⟨_,B⟩
     refine⟨G,?_⟩;rw[(c▸Fo B G:DN .u64 (x:Int) 8=(a:Int))];have hb:=Pe (x:=a) G;have k:bE x=8+bl (a):=by rw[bE,Bm G,fj,Bm G,fk,Bi G,←c]
     refine⟨Pq,_,.inl Pq,⟨G,FW Kq G⟩,_,.inl ⟨⟨G,G2 _⟩,B⟩,⟨G,Lu _ G⟩,Hc Kq G (by rw[k];push_cast;omega),G,B⟩
    .have hb:=Pe (x:=x) G
     have k:bE x=0+bl (x):=by rw[bE,Bm G,fj,Bm G,fk,Bm G]
     refine⟨_,.inl Pq,⟨G,FW Kq G⟩,_,.inl ⟨⟨G,G2 _⟩,B⟩,⟨G,Lu _ G⟩,Hc Kq G (by rw[k];push_cast;omega),G,B⟩
def Hz (l:Bo):Nat->Nat
 |0=>0
 |k+1=>W4 (Hz l k) (l.getD k 0)
def Aip (l:Bo):∀k,Hz l k<18446744073709551616
 |0=>by show 0<_;omega
 |k+1=>vB _ _
def H2 (l:Bo) (w:Nat):Nat->Bo
 |0=>AE ((LT l*w+63)/64) 0
 |k+1=>Qr (H2 l w k) w k (l.getD k 0)
def HK (l:Bo) (w:Nat):∀k,(H2 l w k).length=(LT l*w+63)/64
 |0=>by simp[H2]
 |k+1=>by rw[H2,WN];exact HK l w k
def Vy (l:Bo) (w:Nat):∀k,∀x∈H2 l w k,x<18446744073709551616
 |0=>λx a=>by rw[CH a];omega
 |k+1=>Akp _ _ _ (Vy l w k)
def Fl (h:Y) (N b:Nat):Prop:=N<=b/\∀v,aC h b 2 v->∀i,BY v i->N<=i
def BX.fr (p:BX h b n w ws) (g:Fl h N b) (c:B0 W h J) (a:∀i,W i->i<N):BX J b n w ws:=by
 obtain⟨f,j,k,l,⟨d,e,m⟩,o⟩:=p;have hb:¬W b:=λh=>by have:=a b h;have:=g.1;omega
 exact⟨f.O c hb,j.O c hb,k,l,⟨d,e.O c hb,m.O c λi U q=>by have:=a i q;have:=g.2 d e i U;omega⟩,o⟩
def BX.M (p:BX J b n w ws):BX (h.M J) b n w ws:=by
 let⟨a,c,d,e,⟨f,g,i⟩,j⟩:=p;exact⟨a.M,c.M,d,e,⟨f,g.M,i.M⟩,j⟩
def Fl.M (v:Fl J N b):Fl (h.M J) N b:=by
 unfold Fl aC;rw[CL,DF];exact v
def np {l:Bo} (r:Rd h v 1 (LT l) (l.map λx:Nat=>AL .u64 x)) (hb:∀x∈l,x<18446744073709551616) (hl:LT l<=9223372036854775807):
 iB S L 2 169 [v] h λw J=>(1048576<LT l/\w=.tuple #[.pointer Z,Vi 2]\/LT l<=1048576/\∃b,h.a<=b/\w=.tuple #[AG b 0,Vi 0]/\BX J b (LT l) (bE (Hz l (LT l))) (H2 l (bE (Hz l (LT l))) (LT l))/\Fl J h.a b):=
 Cn f169 λd ae hL=>by
  obtain⟨Q,g,j,rfl,R,T,V⟩:=r;have F:Rd h (.slice g (LT l) j) 1 (LT l) (l.map λx:Nat=>AL .u64 x):=⟨Q,g,j,B,R,T,V⟩;apply Bz<;>intro e
  .exact⟨AA.refl h,.inl ⟨G,B⟩⟩
  have o:LT l<=1048576:=G;refine⟨λn A a=>a=h/\∃k:Nat,A=[(0,.slice g (LT l) j),(4,.int .u64 (Hz l k:Nat)),(13,.slice g (LT l) j),(14,Vi (LT l)),(15,Vi k)]/\k<=LT l/\n=LT l-k,
   ⟨_,_,Sq,?_,B,0,B,Al _,B⟩,?_⟩
  .omega
  rintro n A a ⟨rfl,k,rfl,W,rfl⟩ X;apply Bz<;>intro e
  .obtain⟨a1,y1,y,_,C⟩:=F.at_ G
   cases y;refine⟨G,_,Rd.ld C B (i:=k) xT (G5 G),Pq,_,_,Sq,?_,B,k+1,B,G,B⟩;omega
  obtain rfl:k=LT l:=G;refine cl (sr (Aip l (LT l))) ?_;rintro _ h ⟨rfl,p,rfl⟩;obtain⟨w,aa⟩:∃w,w=bE (Hz l (LT l)):=⟨_,B⟩;rw[←aa] at p⊢;obtain⟨I,e1,x1,o1,n1⟩:=H1 Ax 340 (.agg #[Vi (LT l),Vi w,sN]) h;have D:=o1;have h4:=Cj o p;obtain⟨m,H⟩:∃m,m=LT l*w:=⟨_,B⟩;have Y:(LT l:Int)*(w:Int)=(m:Int):=Gq;obtain⟨q,e2,x2,K,n2⟩:=MA (τ:=Ax) (t:=298) (z:=.int .u64 0) Kq Kq B ((m+63)/64) G .i64 .i64 I.ad;refine⟨_,_,e1,[],Kq,_,ld B (D.cell B),_,ld B (D.cell B),⟨by rw[Y];omega,by rw[Y];omega⟩,?_⟩;rw[Y];refine⟨Pq,⟨G,G,G,G⟩,?_⟩;rw[(G:((m:Int)+63)/64=(((m+63)/64:Nat):Int))];refine⟨_,_,e2,?_⟩;rw[BF] at K n2;have M:=x2.M;have ab:=D.C M;obtain⟨N,s5,s6,O⟩:=aQ.st (h:=(I.M q).ad) (τ:=Ax) (t:=298) B (v:=sL I.a ((m+63)/64) ((m+63)/64)) ab (by show 2<3;decide) B;have o3:=(K.M:aQ (I.M q) I.a 194 (AE ((m+63)/64) (.int .u64 0))).ah O.M G;have s:∀k,(H2 l w k).length=(m+63)/64:=λk=>by rw[HK,H]
  refine⟨_,s5,λn A a=>∃k:Nat,A=[(7,AG h.a 0),(44,.slice g (LT l) j),(45,Vi (LT l)),(46,Vi k)]/\k<=LT l/\n=LT l-k/\AA h a/\
   aQ a h.a 340 [Vi (LT l),Vi w,sL I.a ((m+63)/64) ((m+63)/64)]/\aQ a I.a 194 ((H2 l w k).map λx:Nat=>AL .u64 x),
   ⟨_,_,Sq,?_,0,B,Al _,B,((x1.trans M).ah O.M (Ae _):AA h ((I.M q).M N)),(s6.M:aQ ((I.M q).M N) h.a 340 [Vi (LT l),Vi w,sL I.a ((m+63)/64) ((m+63)/64)]),?_⟩,?_⟩
  .omega
  .rw[H2,KD,←H];exact o3
  rintro n A a ⟨k,rfl,W,rfl,E,f,P⟩ X;apply Bz<;>intro e
  .have ad:k<LT l:=G
   obtain⟨a1,y1,y,_,C⟩:=(F.C E).at_ G;cases y;refine⟨G,_,Rd.ld C B (i:=k) xT (G5 G),_,zo (f.cell B) (by rw[s];exact f.cell B:aC a h.a 2 (sL I.a (H2 l w k).length (H2 l w k).length)) P G o p (by rw[HK]) ad d G,?_⟩;rintro _ h5 ⟨rfl,t1,t2⟩;refine⟨Pq,_,_,Sq,?_,k+1,B,G,B,E.then t1 (λi U=>by rw[U];omega),f.O t1 G,t2⟩
   omega
  .obtain rfl:k=LT l:=G
   refine⟨E,.inr ⟨o,h.a,Ae _,B,⟨f.cell B,f.cell B,o,p,⟨_,f.cell B,?_⟩,by rw[HK],Vy _ _ _⟩,Ae _,λv c i U=>?_⟩⟩;rotate_left
   .obtain rfl:=c.inj (f.cell B)
    have:i=I.a:=U;omega
   have:AS a I.a 194 1 (sL I.a ((m+63)/64) ((m+63)/64)) (H2 l w (LT l)).length ((H2 l w (LT l)).map λx:Nat=>AL .u64 x):=
    ⟨by simp,.inr ⟨I.a,_,[],by rw[s],Ae _,by rw[s];exact Ae _,by simp[s],by simpa using P⟩⟩
   exact this.rd
abbrev nb (h:Y):Y:=h.M h.ad
def AT (x:AA h0 h):AA h0 (nb h):=x.trans (AA.refl h.ad).M
def iG (a b c d e:Int) (h:Y):Bs Ax 98 5 [(0,.int .u8 a),(1,.int .u8 b),(2,.int .u8 c),(3,.int .u8 d),(4,.int .u8 e)] h=
 I (sL h.a 5 5,BN h 5 [.int .u8 a,.int .u8 b,.int .u8 c,.int .u8 d,.int .u8 e]):=by
 rfl
def nL (p:BX h b n w ws):iB S L 1 177 [AG b 0] h λv J=>∃bs:Bl,LT bs<=10000000/\AS J h.a 5 1 v (LT bs) (Ay bs):=
 Cn f177 λd ag hL=>by
  obtain⟨a,E,N,O,⟨v1,P,Q⟩,R,p8⟩:=p;have h4:=Cj N O;obtain⟨m,T⟩:∃m,m=n*w:=⟨_,B⟩;have I:(n:Int)*(w:Int)=(m:Int):=Gq;obtain⟨c,V⟩:=DH (n:Int);obtain⟨f,W⟩:=DH (DN .i64 (n:Int) 8);obtain⟨j,aa⟩:=DH (DN .i64 (n:Int) 16);obtain⟨l,ab⟩:=DH (DN .i64 (n:Int) 24);obtain⟨o,ad⟩:=DH (w:Int);have F:=AT (AT (AT (AT (AT (AA.refl h)))));obtain⟨X,x⟩:∃X,X=nb (nb (nb (nb (nb h)))):=⟨_,B⟩;rw[←x] at F;have q:=F.trans (AA.row X.ad 5 [.int .u8 c.toNat,.int .u8 f.toNat,.int .u8 j.toNat,.int .u8 l.toNat,.int .u8 o.toNat]).M;have s:=(aQ.row X.ad 5 [.int .u8 c.toNat,.int .u8 f.toNat,.int .u8 j.toNat,.int .u8 l.toNat,.int .u8 o.toNat]).M (h:=X);have z:=iG c.toNat f.toNat j.toNat l.toNat o.toNat X.ad;rw[BF,(by rw[x];simp[nb,CL,BF]:X.a=h.a)] at s z;obtain⟨g,hg⟩:∃g,g=BN X.ad 5 [.int .u8 c.toNat,.int .u8 f.toNat,.int .u8 j.toNat,.int .u8 l.toNat,.int .u8 o.toNat]:=⟨_,B⟩;rw[←hg] at q s z;subst x;refine⟨_,B,[],Kq,_,ld B a,_,.inr V.symm,_,ld B a,G,_,.inr W.symm,_,ld B a,G,_,.inr aa.symm,_,ld B a,G,_,.inr ab.symm,_,ld B E,_,.inr ad.symm,_,_,z,?_⟩;have ae:=a.C q;have af:=E.C q;refine⟨[],Kq,_,ld B ae,_,ld B af,⟨by rw[I];omega,by rw[I];omega⟩,?_⟩;rw[I];refine⟨Pq,⟨G,G,G,G⟩,?_⟩;rw[(G:((m:Int)+7)/8=(((m+7)/8:Nat):Int))];obtain⟨C,D⟩:∃C,C=(nb (nb (nb (nb (nb h))))).M g:=⟨_,B⟩;rw[←D] at q s;refine⟨λH A t=>∃(k:Nat) (Y:Aa) (cs:Bl),A=[(0,AG b 0),(3,Y),(46,Vi ((m+7)/8:Nat)),(47,Vi k)]/\k<=(m+7)/8/\H=(m+7)/8-k/\
   AS t h.a 5 1 Y (5+k) (Ay cs)/\AA h t,
   ⟨_,_,Sq,?_,0,_,_,B,Al _,B,(D▸(⟨B,.inr ⟨h.a,5,[],B,Ae _,Ae _,B,s⟩⟩:AS C h.a 5 1 (sL h.a 5 5) (5+0) (Ay [c,f,j,l,o]))),(D▸q)⟩,?_⟩
  .omega
  rintro H A t ⟨k,Y,cs,rfl,hk,rfl,u,r⟩ ah;apply Bz<;>intro e
  .have hq:k/8<LT ws:=by rw[R,←T];omega
   obtain⟨a1,z1,e9,_,q1⟩:=(Q.C r).at_ G;cases e9;obtain⟨y,hy⟩:=DH (DN .u64 (ws.getD (k/8) 0:Nat) ((k:Int)%8*8));obtain⟨Z,J,t1,t2,t3,t4⟩:=nS u y r.a G;refine⟨_,ld B (P.C r),⟨G,G,G,G⟩,G,_,Rd.ld q1 B (by show((k:Int)/8).toNat*1=_;omega) (G5 hq),G,Pq,_,.inl Pq,G,_,.inr hy.symm,_,_,hY y t,_,_,t1,Pq,_,_,Sq,?_,k+1,Z,_,B,G,B,t2,r.then t3 λi U=>u.ai i U⟩
   omega
  .have K:=u.len
   rw[A7] at K;refine⟨r,cs,G,?_⟩;rw[←K];exact u
def AGg {x:Int} (p:BX h b n w ws) (e:aC h b1 0 (AG b 0)) (f:aC h c 0 (.int .u64 x)) {i:Int} (U:0<=i/\i<n):
 Bk S L 2 283 [Vi i,AG b1 0,AG c 0] h λv J=>v=.bool (decide (x<=E1 ws w i.toNat))/\J=h:=
 Cn f283 λd g _=>by
  obtain⟨k,rfl⟩:∃k:Nat,i=k:=⟨bH i,G⟩;refine⟨[],Kq,_,ld B e,GZ (mC (h:=h.ad) p G d G) ?_⟩;exact⟨B,_,ld B f,B,B⟩
def ACz {x:Int} (p:BX h b n w ws):
 iB S L 4 197 [AG b 0,.int .u64 x] h λv J=>∃z:Nat,v=Vi z/\z<=n/\(0<z->E1 ws w (z-1)<x)/\(z<n->x<=E1 ws w z):=
 Cn f197 λd y _=>by
  have A:=p.2.2.1;obtain⟨H,k,l,o,C⟩:=H1 Ax 134 (AG b 0) h;obtain⟨c,q,e,r,D⟩:=H1 Ax 194 (.int .u64 x) H;have f:aC c h.a 0 (AG b 0):=(o.C e).cell B;have s:aC c H.a 0 (.int .u64 x):=r.cell B;have g:=l.trans e;have j:=p.C g;refine⟨_,_,k,_,_,q,_,ld B f,GZ (K3 j.1 d G) ?_⟩;refine cl (tv G ⟨283,#[],#[AG h.a 0,AG H.a 0],B,λi h0 H=>AGg j f s ⟨h0,H⟩⟩) ?_;rintro _ _ ⟨rfl,z,rfl,E,F,t,u⟩;obtain⟨m,rfl⟩:∃m:Nat,z=m:=Jq;refine⟨g,m,B,G,λh0=>?_,λh0=>?_⟩
  .have:=KK (t G)
   rw[show((m:Int)-1).toNat=m-1 by omega] at this;omega
  .have:=Fp (u G)
   exact this
def Oj (c:a<4294967296) (hb:b<4294967296):JP .i64 (a:Int) (b:Int)=((a|||b:Nat):Int)/\a|||b<4294967296:=by
 have d:a|||b<2^32:=Zz c hb;refine⟨?_,d⟩;unfold JP;have e:(BitVec.ofInt IntKind.i64.bits a|||BitVec.ofInt IntKind.i64.bits b).toNat=a|||b:=by
  rw[BitVec.toNat_or];have f:(BitVec.ofInt IntKind.i64.bits a).toNat=a:=by
   show(BitVec.ofInt 64 a).toNat=a;rw[BitVec.toNat_ofInt];omega
  have g:(BitVec.ofInt IntKind.i64.bits b).toNat=b:=by
   show(BitVec.ofInt 64 b).toNat=b;rw[BitVec.toNat_ofInt];omega
  rw[f,g]
 rw[e];exact FC Pq
def LY {a n:Nat} {z:Int} (b:z=n) (c:n<=24) (d:a<256):Es .i64 (a:Int) z=((a*2^n:Nat):Int)/\a*2^n<4294967296:=by
 have g:2^n<=2^24:=Na G c;have f:a*2^n<=255*2^24:=Cj G g;refine⟨?_,G⟩;subst b;unfold Es;have e:min ((n:Int)).toNat IntKind.i64.bits=n:=by show min n 64=n;omega
 rw[e];have:a*2^n=((a*2^n:Nat):Int):=by push_cast;rfl
 rw[this];exact FC Pq
def Fl.to {h J:Y} {M N b n w:Nat} {c:Bo} (g:Fl h N b) (p:BX h b n w c) (x:AA h J) (a:M<=N):Fl J M b:=
 ⟨Ao a g.1,λv y i U=>Ao a (g.2 v (by obtain⟨_,y⟩:=y;rw[x.t b p.1.1] at y;exact⟨p.1.1,y⟩) i U)⟩
def sw (r:Rd h v 1 a (Ay bs)) (hn:a<=100000000):
 iB S L 3 107 [v] h λw J=>(w=.tuple #[.pointer Z,Vi 5]\/∃p n wd Y,h.a<=p/\w=.tuple #[AG p 0,Vi 0]/\BX J p n wd Y/\Fl J h.a p):=
 Cn f107 λd ba hL=>by
  obtain⟨hr,A0,D,rfl,aq,ar,hA⟩:=r;have rr:Rd h (.slice A0 a D) 1 a (Ay bs):=⟨hr,A0,D,B,aq,ar,hA⟩;have bb:LT bs=a:=by rw[A7] at hr;omega
  apply Bz<;>intro e
  .exact⟨AA.refl h,.inl B⟩
  obtain⟨a1,y1,e9,_,E⟩:=rr.at_ G;cases e9;have hb:=λk=>Pd (bs.getD k 0);obtain⟨s1,l1⟩:=LY (z:=8) (n:=8) B G (hb 1);obtain⟨s2,l2⟩:=LY (z:=16) (n:=16) B G (hb 2);obtain⟨s3,l3⟩:=LY (z:=24) (n:=24) B G (hb 3);obtain⟨t1,m1⟩:=Oj (by have:=hb 0;omega:(bs.getD 0 0).toNat<4294967296) l1;obtain⟨t2,m2⟩:=Oj m1 l2;obtain⟨t3,m3⟩:=Oj m2 l3;refine⟨[],Kq,G,_,Rd.ld E B (i:=0) (by rfl) (CY G),_,.inl ⟨⟨G,G2 _⟩,B⟩,
   G,_,Rd.ld E B (i:=1) (by rfl) (CY G),_,.inl ⟨⟨G,G2 _⟩,B⟩,G,?_⟩
  refine⟨G,_,Rd.ld E B (i:=2) (by rfl) (CY G),_,.inl ⟨⟨G,G2 _⟩,B⟩,G,?_⟩;refine⟨G,_,Rd.ld E B (i:=3) (by rfl) (CY G),_,.inl ⟨⟨G,G2 _⟩,B⟩,G,?_⟩;have xX:AA h (nb (nb (nb (nb (nb h))))):=AT (AT (AT (AT (AT (AA.refl h)))));obtain⟨X,hX⟩:∃X,X=nb (nb (nb (nb (nb h)))):=⟨_,B⟩;have au:X.a=h.a:=by rw[hX];simp only[nb,CL,BF]
  rw[←hX] at xX;obtain⟨n,ag⟩:∃n,n=(bs.getD 0 0).toNat|||(bs.getD 1 0).toNat*2^8|||(bs.getD 2 0).toNat*2^16|||(bs.getD 3 0).toNat*2^24:=⟨_,B⟩;obtain⟨w,hw⟩:∃w,w=(bs.getD 4 0).toNat:=⟨_,B⟩;have bc:w<256:=by rw[hw];exact hb 4
  have eN:JP .i64 (JP .i64 (JP .i64 ((bs.getD 0 0).toNat:Int) (Es .i64 ((bs.getD 1 0).toNat:Int) 8)) (Es .i64 ((bs.getD 2 0).toNat:Int) 16)) (Es .i64 ((bs.getD 3 0).toNat:Int) 24)=(n:Int):=by
   rw[s1,t1,s2,t2,s3,t3,ag]
  rw[←ag] at m3;obtain⟨g,b1,x1,o1,n1⟩:=H1 Ax 340 (.agg #[Vi n,Vi w,sN]) X.ad;rw[BF,au] at b1 o1;have P:=xX.trans x1.M;have Q:aQ (X.M g) h.a 340 [Vi n,Vi w,sN]:=o1.M;clear o1 n1 x1;subst hX;have ah:K7 Ax 340 (.agg #[Vi (JP .i64 (JP .i64 (JP .i64 ((bs.getD 0 0).toNat:Int) (Es .i64 ((bs.getD 1 0).toNat:Int) 8)) (Es .i64 ((bs.getD 2 0).toNat:Int) 16)) (Es .i64 ((bs.getD 3 0).toNat:Int) 24)),Vi ((bs.getD 4 0).toNat:Nat),sN]) (nb (nb (nb (nb (nb h))))).ad=I (AG h.a 0,g):=by rw[eN,←hw];exact b1
  refine⟨G,_,Rd.ld E B (i:=4) (by rfl) (CY G),_,.inl ⟨⟨G,G2 _⟩,B⟩,_,_,ah,?_⟩;clear ah b1;have cn:=Q.cell (i:=0) B;have cw:=Q.cell (i:=1) B;refine⟨[],Kq,_,ld B cn,Bz (λe1=>?_) (λe1=>?_)⟩
  .exact⟨P,.inl B⟩
  have ai:n<=1048576:=G;refine⟨_,ld B cw,Bz (λe2=>?_) (λe2=>?_)⟩
  .exact⟨P,.inl B⟩
  have aj:w<=64:=G;have h4:n*w<=1048576*64:=Cj ai aj;obtain⟨m,hm⟩:∃m,m=n*w:=⟨_,B⟩;have em:(n:Int)*(w:Int)=(m:Int):=by rw[hm];simp
  refine⟨_,ld B cn,_,ld B cw,⟨by rw[em];omega,by rw[em];omega⟩,?_⟩;rw[em];refine⟨Pq,⟨G,G,G,G⟩,Pq,Ad (λe3=>?_) (λe3=>?_)⟩
  .exact⟨P,.inl B⟩
  have e3:(a:Int)=5+((m:Int)+7)/8:=by simpa using e3
  have av:((m:Int)+63)/64=(((m+63)/64:Nat):Int):=G;obtain⟨c,R⟩:∃c,c=(nb (nb (nb (nb (nb h))))).M g:=⟨_,B⟩;have aw:h.a<c.a:=by rw[R];exact Q.1
  obtain⟨F,e4,x2,o2,n2⟩:=MA (τ:=Ax) (t:=298) (e:=194) (z:=.int .u64 0) Kq Kq B ((m+63)/64) G .i64 .i64 c.ad;rw[BF] at o2 e4;have ak:AA c (c.M F):=x2.M;have al:aQ (c.M F) c.a 194 (AE ((m+63)/64) (.int .u64 0)):=o2.M;have am:=(R▸Q:aQ c h.a 340 _).C ak;obtain⟨h3,s5,s6,s7⟩:=aQ.st (h:=(c.M F).ad) (τ:=Ax) (t:=298) B (i:=2) (v:=sL c.a ((m+63)/64) ((m+63)/64)) am (by show 2<3;decide) B;have an:aQ ((c.M F).M h3) h.a 340 [Vi n,Vi w,sL c.a ((m+63)/64) ((m+63)/64)]:=s6.M;have o3:=al.ah s7.M G;have x3:AA h ((c.M F).M h3):=((R▸P:AA h c).trans ak).ah s7.M (Ae _);obtain⟨j,ax⟩:∃j,j=c.a:=⟨_,B⟩;rw[←ax] at e4 s5 an o3 aw;clear o2 n2 al s6 s7 am;subst R;refine⟨[],Kq,_,ld B cn,_,ld B cw,⟨by rw[em];omega,by rw[em];omega⟩,?_⟩;rw[em];refine⟨Pq,⟨G,G,G,G⟩,?_⟩;rw[av];refine⟨_,_,e4,_,s5,?_⟩;obtain⟨v5,r4,r5,r6⟩:=rr.slice (τ:=Ax) (t:=98) Kq (lo:=I (Vi 5)) (U:=Z) (l:=5) (m:=a) B B G G;rw[BJ,BJ,EA,Ez] at r5;obtain⟨cs,ad⟩:∃cs,cs=(bs.drop 5).take (a-5):=⟨_,B⟩;rw[←ad] at r5;have bd:LT cs=a-5:=by rw[ad];simp;omega
  clear ad r6;obtain⟨ay,K,M,rfl,az,a0,a2⟩:=r5;have a3:∀H,CN H (C7 Ax 98 (.slice (I a1) a D) (I (Vi 5)) Z Z)=I (.slice K (a-5) M,H):=λH=>by rw[r4];rfl
  refine⟨_,_,a3 _,?_⟩;refine⟨λN A b=>∃(k:Nat) (Y:Bo),A=[(0,.slice (I a1) a D),(4,AG h.a 0),(87,.slice K (a-5) M),(88,Vi (a-5:Nat)),(89,Vi k)]/\k<=a-5/\N=a-5-k/\LT Y=(m+63)/64/\(∀x∈Y,x<18446744073709551616)/\AA h b/\
   aQ b h.a 340 [Vi n,Vi w,sL j ((m+63)/64) ((m+63)/64)]/\aQ b j 194 (Y.map λx:Nat=>AL .u64 x),
   ⟨_,_,Sq,?_,0,AE ((m+63)/64) 0,B,Al _,B,by simp,λx o=>by rw[CH o];omega,x3,an,by rw[KD];exact o3⟩,?_⟩
  .omega
  rintro N A b ⟨k,Y,rfl,hk,rfl,u,ao,T,s,V⟩ a4;apply Bz<;>intro e
  .have rv:Rd b (.slice K (a-5) M) 1 (a-5) (Ay cs):=(show Rd h (.slice K (a-5) M) 1 (a-5) (Ay cs) from⟨ay,K,M,B,az,a0,a2⟩).C T
   obtain⟨be,z2,e9,_,q2⟩:=rv.at_ G;cases e9;have hq:k/8<LT Y:=by rw[u];omega
   have bf:=Pd (cs.getD k 0);have W:0+((k:Int)/8).toNat*t194.size=k/8:=by show 0+_*1=_;omega
   have l1:Bw Ax 194 b j (0+((k:Int)/8).toNat*t194.size)=I (.int .u64 (Y.getD (k/8) 0:Nat)):=by rw[W];exact ld B (V.cell (G5 hq))
   obtain⟨y,hy⟩:∃y,y=W4 (Y.getD (k/8) 0:Nat) (Es .u64 ((cs.getD k 0).toNat:Int) ((k:Int)%8*8)):=⟨_,B⟩;obtain⟨h5,u5,O,u7⟩:=aQ.st (h:=b) (τ:=Ax) (t:=194) B (i:=k/8) (v:=.int .u64 (y:Nat)) V (by simpa using hq) B;rw[←Cp] at O;refine⟨G,_,Rd.ld q2 B (i:=k) xT (CY G),_,ld B (s.cell (i:=2) B),⟨G,G,G,G⟩,G,_,l1,_,.inl Pq,G,Pq,_,.inl Pq,G,G,h5,(by rw[W,Xu,←hy];exact u5),Pq,?_⟩;refine⟨_,_,Sq,?_,k+1,_,B,G,B,?_,?_,?_,s.ah u7 G,O⟩
   .omega
   .simp[u]
   .rw[hy];exact TS ao _ _ _
   .exact T.ah u7 G
  obtain rfl:k=a-5:=G;obtain⟨h6,v1,v2,v3,v4⟩:=MA (τ:=Ax) (t:=298) (e:=194) (z:=.int .u64 0) Kq Kq B n G .i64 .i64 b;have bg:=s.1;have bh:=V.1;have y2:AA h h6:=T.trans v2;have pk:BX b h.a n w Y:=by
   refine⟨s.cell B,s.cell B,ai,aj,⟨_,s.cell B,?_⟩,by rw[u,hm],ao⟩;have:AS b j 194 1 (sL j ((m+63)/64) ((m+63)/64)) (LT Y) (Y.map λx:Nat=>AL .u64 x):=
    ⟨by simp,.inr ⟨j,_,[],by rw[u],Ae _,by rw[u];exact Ae _,by simp[u],by simpa using V⟩⟩
   exact this.rd
  refine⟨_,ld B (s.cell (i:=0) B),_,_,v1,?_⟩;refine⟨λN A f=>∃(k:Nat) (l:Bo),A=[(0,.slice (I a1) a D),(4,AG h.a 0),(7,sL b.a n n),(118,Vi n),(119,Vi k)]/\k<=n/\N=n-k/\LT l=n/\(∀x∈l,x<18446744073709551616)/\B0 (·=b.a) h6 f/\aQ f b.a 194 (l.map λx:Nat=>AL .u64 x),
   ⟨_,_,Sq,?_,0,AE n 0,B,Al _,B,by simp,λx o=>by rw[CH o];omega,(AA.refl _).O _,by rw[KD];exact v3⟩,?_⟩
  .omega
  rintro N A f ⟨k,l,rfl,hk,rfl,aa,ap,f1,f2⟩ a4;have x7:AA b f:=v2.then f1 λi U=>by rw[U];omega
  apply Bz<;>intro e
  .have hz:=FM Y w k
   obtain⟨z,a5⟩:∃z:Nat,E1 Y w k=z:=⟨(E1 Y w k).toNat,G⟩;have W:0+((k:Int)).toNat*t194.size=k:=by show 0+_*1=_;omega
   obtain⟨h8,u5,O,u7⟩:=aQ.st (h:=f) (τ:=Ax) (t:=194) B (i:=k) (v:=.int .u64 (z:Nat)) f2 (by simp;omega) B;rw[←Cp] at O;refine cl (mC (pk.C x7) (i:=k) G) ?_;rintro _ f ⟨rfl,rfl⟩;refine⟨G,h8,(by rw[W,a5];exact u5),Pq,?_⟩;refine⟨_,_,Sq,?_,k+1,_,B,G,B,?_,?_,f1.trans u7.O,O⟩
   .omega
   .simp[aa]
   .intro x o
    rcases BT o with o|rfl
    .exact ap x o
    .omega
  obtain rfl:k=n:=G;have rl:Rd f (sL b.a k k) 1 (LT l) (l.map λx:Nat=>AL .u64 x):=by
   have:AS f b.a 194 1 (sL b.a k k) (LT l) (l.map λx:Nat=>AL .u64 x):=
    ⟨by simp,.inr ⟨b.a,_,[],by rw[aa],Ae _,by rw[aa];exact Ae _,by simp[aa],by simpa using f2⟩⟩
   exact this.rd
  have ab:AA h f:=T.trans x7;refine cl (np rl ap G) ?_;rintro o9 h9 ⟨x9,⟨_,rfl⟩|⟨_,q,w9,rfl,p9,a6⟩⟩
  .exact⟨ab.trans x9,.inl B⟩
  .have a7:=ab.trans x9
   refine cl (nL p9) ?_;rintro bi a8 ⟨ae,bj,bk,a9⟩;have af:=a7.trans ae;refine cl (i6 a9.rd (rr.C af)) ?_;rintro _ a8 ⟨rfl,rfl⟩;refine⟨_,_,B,Ad (λe5=>?_) (λe5=>?_)⟩
   .exact⟨af,.inl B⟩
   .exact⟨af,.inr ⟨q,_,_,_,Ao ab.a w9,B,p9.C ae,a6.to p9 ae ab.a⟩⟩
def VG (z:Int):IntKind.wrap .u32 z=z%4294967296:=Jq
def T7 (a b:Int):∃y:Nat,y<4294967296/\Oe .u32 a b=(y:Int):=by
 refine⟨(Oe .u32 a b).toNat,?_,?_⟩<;>(unfold Oe;rw[VG];omega)
def tY (a:Int):∃y:Nat,y<16/\D8 .u32 a 15=(y:Int):=by
 refine⟨(BitVec.ofInt 32 a&&&BitVec.ofInt 32 15).toNat,?_,?_⟩
 .rw[BitVec.toNat_and]
  exact Ji ke Jq
 .unfold D8
  rw[VG];show((BitVec.ofInt 32 a&&&BitVec.ofInt 32 15).toNat:Int)%4294967296=_;omega
def Zm (b:a<4294967296):∃y:Nat,y<4294967296/\DN .u32 (a:Int) 4=(y:Int):=by
 refine⟨a/16,G,?_⟩;show(a:Int).fdiv (2^4)=_;rw[rq _ Jq];omega
def G3 (h:Y):Prop:=∀i,i<16->∃x:Nat,x<4294967296/\aC h 4 i (.int .u32 x)
def G3.C (q:G3 h) (e:AA h J):G3 J:=λi U=>by
 let⟨x,h1,a⟩:=q i U;exact⟨x,h1,a.C e⟩
def ADs {s:Nat} (q:G3 h) (hs:s<4294967296) (r:Rd h v 1 n (Ay bs)) (hn:n<=100000000):
 Bk S L 1 274 [.int .u32 s,v] h λw J=>(∃x:Nat,x<4294967296/\w=.int .u32 x)/\J=h:=
 Cn f274 λd ab hL=>by
  obtain⟨j,f,g,rfl,y,C,D⟩:=r;have E:Rd h (.slice f n g) 1 n (Ay bs):=⟨j,f,g,B,y,C,D⟩;have ad:LT bs=n:=by rw[A7] at j;omega
  refine⟨_,_,B,λm A a=>a=h/\∃(k x:Nat),A=[(5,.int .u32 x),(10,.slice f n g),(11,Vi n),(12,Vi k)]/\k<=n/\m=n-k/\x<4294967296,
   ⟨_,_,Sq,?_,B,0,_,B,Al _,B,?_⟩,?_⟩
  .omega
  .exact Je _ Jq
  rintro m A a ⟨rfl,k,x,rfl,hk,rfl,hx⟩ ae;apply Bz<;>intro e
  .obtain⟨a1,y1,F,_,H⟩:=E.at_ G
   cases F;have hb:=Pd (bs.getD k 0);obtain⟨K,M,i⟩:=T7 (x:Int) ((bs.getD k 0).toNat:Int);obtain⟨b,N,O⟩:=tY (K:Int);obtain⟨u,af,P⟩:=q b N;obtain⟨Q,ag,o⟩:=Zm M;obtain⟨R,T,p⟩:=T7 (Q:Int) (u:Int);obtain⟨c,V,W⟩:=tY (R:Int);obtain⟨t2,ah,X⟩:=q c V;obtain⟨U,ai,e6⟩:=Zm T;obtain⟨t,aa,e7⟩:=T7 (U:Int) (t2:Int);have f1:D8 .u32 (Oe .u32 (x:Int) ((bs.getD k 0).toNat:Int)) 15=(b:Int):=by rw[i,O]
   have f2:D8 .u32 (Oe .u32 (DN .u32 (Oe .u32 (x:Int) ((bs.getD k 0).toNat:Int)) 4) (u:Int)) 15=(c:Int):=by rw[i,o,p,W]
   have Z:Bw Ax 324 a 4 (0+(D8 .u32 (Oe .u32 (x:Int) ((bs.getD k 0).toNat:Int)) 15).toNat*t324.size)=I (.int .u32 u):=by
    rw[f1];show Bw Ax 324 a 4 (0+(b:Int).toNat*1)=_;rw[show 0+(b:Int).toNat*1=b by omega];exact ld B P
   have Y:Bw Ax 324 a 4 (0+(D8 .u32 (Oe .u32 (DN .u32 (Oe .u32 (x:Int) ((bs.getD k 0).toNat:Int)) 4) (u:Int)) 15).toNat*t324.size)=I (.int .u32 t2):=by
    rw[f2];show Bw Ax 324 a 4 (0+(c:Int).toNat*1)=_;rw[show 0+(c:Int).toNat*1=c by omega];exact ld B X
   refine⟨G,_,Rd.ld H B xT (CY G),_,.inl ⟨Pq,B⟩,G,Jq,_,Z,G,Jq,_,Y,Pq,_,_,CG (l:=[(5,_),(10,_),(11,_),(12,_)]) ⟨Cs (λz=>I (AL .u32 z)) (show Oe .u32 (DN .u32 (Oe .u32 (DN .u32 (Oe .u32 (x:Int) ((bs.getD k 0).toNat:Int)) 4) (u:Int)) 4) (t2:Int)=(t:Int) by rw[i,o,p,e6,e7]),B,B,B,trivial⟩,?_,B,k+1,t,B,G,B,aa⟩;omega
  .exact⟨_,_,B,⟨_,Je _ xc,B⟩,B⟩
def ADv (q:G3 h) (r:Rd h v 1 n (Ay bs)) (b:n<=100000000):
 Bk S L 2 184 [v] h λw J=>(∃x:Nat,x<4294967296/\w=.int .u32 x)/\J=h:=
 Cn f184 λd e _=>by
  refine⟨_,ADs (s:=0) q G r b d G,?_⟩;rintro _ h ⟨⟨x,c,rfl⟩,rfl⟩;exact⟨⟨x,c,B⟩,B⟩
def Rd.bu (r:Rd h v k n xs):MM v=I n:=by
 obtain⟨f,A,c,rfl,d,b,e⟩:=r;cases A with
 |none=>
  have:=b B;subst this;have:n=0:=G;subst this;rfl
 |some a=>rfl
def Rd.src (r:Rd h v k n xs):MN k h v n=I xs:=by
 obtain⟨p,A,c,rfl,i,d,e⟩:=r;cases A with
 |none=>
  have:=d B;subst this;have:n=0:=G;subst this;simp at p;subst p;rfl
 |some a=>
  let⟨j,l,m,o,lo,U,x,f,g⟩:=e a B;have b:=HQ g;rw[p] at b;simp[MN,f,b]
def Fa (bs:Bl):(Ay bs).all one=true:=by
 rw[Jf];intro v a;obtain⟨b,_,rfl⟩:=List.mem_map.1 a;rfl
def Z0 (h:Y) (N:Nat) (e:Ai) (v:Aa) (n:Nat) (xs:AH):Prop:=
 (v=.slice Z 0 0/\n=0/\xs=[])\/∃b sp,v=.slice (I ⟨b,0,I 0⟩) n n/\N<=b/\LT xs=n/\aQ h b e (xs++sp)
def ACe (r:Rd h v 1 n (Ay bs)) (l:n<=100000000):
 iB S L 1 266 [v] h λw J=>AS J h.a 5 1 w n (Ay bs):=
 Cn f266 λd m _=>by
  obtain⟨g,A,c,rfl,j,e,k⟩:=r;cases A with
  |
   none=>
   have:=e B;subst this;have:n=0:=G;subst this;rw[(by simpa using g:Ay bs=[])];exact⟨_,B,AA.refl _,AS.nil _ _ _ _⟩
  |
   some a=>
   have r:Rd h (.slice (I a) n c) 1 n (Ay bs):=⟨g,_,c,B,j,e,k⟩;have b:=AA.row h 5 [];have f:=r.C b;have o:AS (BN h 5 []) h.a 5 1 (sL h.a 0 0) 0 []:=⟨B,.inr ⟨h.a,0,[],B,Ae _,Ae _,B,aQ.row h 5 []⟩⟩;obtain⟨s,J,q,t2,p,t⟩:=UN Kq o f.bu f.src Jq (Fa bs) b.a G;refine⟨_,B,_,_,B,_,_,q,b.then p (λi U=>by have:i=h.a:=U;omega),?_⟩
   rw[IW,Ba] at t2;exact t2
def ABf (o:AS h N 5 1 v n (Ay bs)) (k:n<=100000000):
 Bk S L 1 265 [v] h λw J=>Z0 h N 5 w n (Ay bs)/\J=h:=
 Cn f265 λd l _=>by
  obtain⟨a,⟨rfl,rfl⟩|⟨b,c,sp,rfl,f,g,m,i⟩⟩:=o
  .have hb:Ay bs=[]:=by simpa using a
   refine⟨_,_,B,.inl ⟨B,B,hb⟩,B⟩
  .have j:C7 Ax 98 (sL b n c) Z (I (Vi n)) (I (Vi n))=I (.slice (I ⟨b,0,I 0⟩) n n):=by
    show(bif Ar 0 n&&Ar n n&&Ar n c then I (PA (I ⟨b,0+0*1,I 0⟩) (n-0) (n-0)) else Z)=_
    rw[Aq (Al n),Aq (Ae n),Aq g];rfl
   refine⟨_,_,(λH=>by rw[j];rfl:∀H,CN H (C7 Ax 98 (sL b n c) Z (I (Vi n)) (I (Vi n)))=I (.slice (I ⟨b,0,I 0⟩) n n,H)) _,.inr ⟨b,sp,B,f,Jq,i⟩,B⟩
def zj (a:G1 τ st t2 e 1=Ag) {x:Aa} (o:Z0 h N e v n xs) (c:MM x=I m) (d:MN 1 h x m=I ys)
 (w:LT ys=m) (L:ys.all one=Ag) (f:N<=h.a) (y:0<m) (hb:n+m<=1000000000):
 ∃E J,Bx τ .append [st,t2] [v,x] h=I (E,J)/\AS J N e 1 E (n+m) (xs++ys)/\AA h J:=by
 obtain⟨rfl,rfl,rfl⟩|⟨b,sp,rfl,A,j,l⟩:=o
 .obtain⟨E,J,G,t2,F,K⟩:=UN a (AS.nil h N e 1) c d Jq L f hb
  exact⟨E,J,G,t2,(AA.refl h).then F λi U=>U.elim⟩
 .obtain⟨G,p,i,z,F,K,Q,R,P,O,M⟩:=In a
  suffices H:∃E J,Gj τ [st,t2] [.slice (I ⟨b,0,I 0⟩) n n,x] h=I (E,J)/\AS J N e 1 E (n+m) (xs++ys)/\AA h J by
   obtain⟨E,J,q,r⟩:=H;exact⟨E,J,by simp[Bx,q],r⟩
  have s:Ar (n+m) n=false:=by
   cases t:Ar (n+m) n with
   |false=>rfl
   |true=>have:=Ac t;omega
  obtain⟨C,D,u,g⟩:=l.bx (off:=0) (k:=n*1) Jq;rw[(by rw[dQ,BJ,←j,iT]:((xs++sp).drop 0).take (n*1)=xs)] at g;unfold Gj;simp only[rz,p,I0,G,F,c,K,Q,d,P,O,(by rw[L];rfl:(AD 0 1&&ys.all one&&Am 1 1&&Ag)=Ag),D1,s,M2 hb M,qT,u,(by simp:Am e e=Ag),g];refine⟨_,_,B,⟨Jq,.inr ⟨h.a,n+m,[],B,f,Ae _,Jq,?_⟩⟩,AA.a4 h e _⟩;rw[Fb];exact aQ.a4 h e _
def Z0.C {e:Ai} (o:Z0 h N e v n xs) (x:AA h J):Z0 J N e v n xs:=by
 obtain f|⟨b,sp,f,a,c,d⟩:=o
 .exact .inl f
 .exact .inr ⟨b,sp,f,a,c,d.C x⟩
def tB (h:Y) (N:Nat) (v:Aa) (n:Nat) (bs:Bl):Prop:=Z0 h N 5 v n (Ay bs)\/AS h N 5 1 v n (Ay bs)
def rM (o:tB h N v n bs) (b:UInt8) (c:N<=h.a) (hb:n+1<=1000000000):
 ∃v' J,Bx Ax .append [98,98] [v,sL h.a 1 1] (BN h 5 [.int .u8 (dE b:Int)])=I (v',J)/\AS J N 5 1 v' (n+1) (Ay (bs++[b]))/\(∀h0,AA h0 h->h0.a<=N->AA h0 J):=by
 rcases o with o|o
 .have a:=AA.row h 5 [.int .u8 (dE b)]
  obtain⟨v',J,t1,t2,t3⟩:=zj Kq (o.C a) (x:=sL h.a 1 1) (ys:=Ay [b]) B
   (by rw[Il (aQ.row h 5 [.int .u8 (dE b:Int)]) (by show 0+1*1<=1;omega)];rfl) B B (Ao c a.a) G hb
  rw[←Ee] at t2;exact⟨v',J,t1,t2,λh0 x _=>(x.trans a).trans t3⟩
 .let⟨v',J,t1,t2,t3,t4⟩:=nS o b c hb
  exact⟨v',J,t1,t2,λh0 x d=>x.then t3 λi U=>Ao d (o.ai i U)⟩
def ur (a b:Int):∃y:UInt8,JP .u8 a b=(dE y:Int):=by
 let⟨y,c⟩:=DH ((BitVec.ofInt IntKind.u8.bits a|||BitVec.ofInt IntKind.u8.bits b).toNat);exact⟨y,c⟩
def R5 (r:Rd h v 1 n (Ay bs)) (i:n<=100000000) (C:x<18446744073709551616):
 iB S L 2 174 [v,.int .u64 x] h λw J=>∃m,m<=60/\∃cs:Bl,AS J h.a 5 1 w (n+m) (Ay (bs++cs)):=
 Cn f174 λd D E=>by
  refine⟨_,ACe r i d G,?_⟩;rintro F h1 ⟨p,q⟩;refine⟨_,ABf q i d G,?_⟩;rintro s h1 ⟨H,rfl⟩;refine⟨λj A a=>∃(k y:Nat) (R:Aa) (cs:Bl),A=[(0,R),(1,.int .u64 y)]/\y*2^k<=x/\k<=58/\j=58-k/\tB a h.a R (n+k) (bs++cs)/\AA h a,
   ⟨_,_,Sq,?_,0,x,s,[],B,G,G,B,.inl Jq,p⟩,?_⟩
  .omega
  rintro j A a ⟨k,y,R,cs,rfl,K,M,rfl,o,c⟩ N;apply Bz<;>intro e
  .have O:k<=57:=by
    rcases A8 k 58 with h|h
    .omega
    .have h1:2^58<=2^k:=Na G h
     have t:128*2^58<=y*2^k:=Cj G h1;omega
   obtain⟨c1,g⟩:=DH (y:Int);obtain⟨b,hb⟩:=ur (dE c1:Int) 128;have u:=c.a;obtain⟨T,J,Q,t2,P⟩:=rM o b u G;refine⟨_,.inr g.symm,_,_,(by rw[hb];exact hY b a:Bs Ax 98 1 [(0,.int .u8 (JP .u8 (c1.toNat:Int) 128))] a=I (sL a.a 1 1,BN a 5 [.int .u8 (b.toNat:Int)])),_,_,Q,G,_,_,CG (l:=[(0,_),(1,_)]) ⟨B,Cs (λz=>I (AL .u64 z)) (Fo (m:=7) B G),trivial⟩,?_,k+1,y/2^7,T,cs++[b],B,?_,G,B,.inr ?_,P h c (Ae _)⟩
   .omega
   .have h1:y/2^7*2<=y:=G
    have t:y/2^7*2*2^k<=y*2^k:=Ci _ h1;rw[(by rw[Nat.pow_succ,UI]:2^(k+1)=2*2^k),←gO];omega
   .rw[←KA];exact t2
  .obtain⟨c1,g⟩:=DH (y:Int)
   obtain⟨T,J,Q,t2,P⟩:=rM o c1 c.a G;refine⟨_,.inr g.symm,_,_,hY c1 a,_,_,Q,P h c Jq,k+1,G,cs++[c1],?_⟩;rw[←KA];exact t2
def Zp (s:Bd):MN 1 h (.string s) s.size=I (Ay (aI s.data)):=by
 show(bif Am 1 1 then I ((s.data.toList.take s.size).map λb=>AL .u8 b.toNat) else Z)=_
 have:s.data.toList.take s.size=aI s.data:=Bj (by rw[EZ];exact Ae _);rw[this];rfl
def sM (r:Rd h v 1 n (Ay bs)) (e:n<=100000000) (f:aL s<=100000000):
 iB S L 3 175 [v,.string s] h λw J=>∃m,m<=60+aL s/\∃cs:Bl,AS J h.a 5 1 w (n+m) (Ay (bs++cs)):=
 Cn f175 λd g _=>by
  refine⟨_,.inl Pq,_,R5 r e G d G,λj t ⟨b,m,k,cs,c⟩=>?_⟩;obtain⟨p,J,o,t2,l,q⟩:=UN Kq c B (Zp s) (by simp[Ay]) (Fa _) b.a G;refine⟨_,_,o,b.then l λi U=>c.ai i U,m+aL s,G,cs++aI s.data,?_⟩
  rw[←KA,Ee (bs++cs),←DD];exact t2
def lH (a b c d:Int) (h:Y):Bs Ax 98 4 [(0,.int .u8 a),(1,.int .u8 b),(2,.int .u8 c),(3,.int .u8 d)] h=
 I (sL h.a 4 4,BN h 5 [.int .u8 a,.int .u8 b,.int .u8 c,.int .u8 d]):=by
 rfl
def tg (q:G3 h) (r:Rd h v 1 n (Ay bs)) (g:n<=100000000):
 iB S L 3 99 [v] h λw J=>∃cs:Bl,AS J h.a 5 1 w 4 (Ay cs):=
 Cn f99 λd m _=>by
  refine⟨_,ADv q r g d G,?_⟩;rintro _ h ⟨⟨x,o,rfl⟩,rfl⟩;obtain⟨a,i⟩:=DH x;let⟨b,j⟩:=DH (DN .u32 x 8);let⟨c,k⟩:=DH (DN .u32 x 16);let⟨e,l⟩:=DH (DN .u32 x 24);refine⟨_,.inr i.symm,G,_,.inr j.symm,G,_,.inr k.symm,G,_,.inr l.symm,_,_,lH _ _ _ _ _,AA.row h 5 (Ay [a,b,c,e]),[a,b,c,e],B,.inr ⟨h.a,4,[],B,Ae _,Ae _,B,aQ.row h 5 (Ay [a,b,c,e])⟩⟩
end
end
end
end Go.Ev
