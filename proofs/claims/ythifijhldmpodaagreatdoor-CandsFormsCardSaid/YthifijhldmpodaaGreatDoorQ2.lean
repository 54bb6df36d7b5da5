/-
  A part of the proof.
-/
import Derived.Test.YthifijhldmpodaaGreatDoorQ1
import Derived.Shelf.SlSortCmp.WholeK
import Derived.Shelf.SlSortCmp.NoneTotal
import Derived.Laws.Externs
import Derived.Lib.MakeNoZero
import Derived.Lib.Bytealg
import Derived.RecoverIn
import Derived.TacticsInMore
import Derived.KernelRfl
import Derived.OpenShut
import Derived.ChangeArms
import Derived.Stop.Joined
import Derived.Handed
import GoSem.ClaimGoes
set_option linter.all false
open Bool renaming false->Ah,true->Ag,and_eq_true->An,or_eq_true->Dm,false_eq_true->BE,not_true->Qf,not_false->Kz
open Go renaming Act->FP,BinOp->CT,Code->DC,DataW->JO,Func->BC,FuncId->Au,MapEntry->Ap,MemPlace->IY,Oper->C0,Operand->BU,Program->AN,TypeId->Ai,TypeInfo->KR,Value->Aa,World->AM
open Option renaming none->Z,some->I,bind_some->CC,map_some->Ek
open Array renaming getD_eq_getD_getElem?->Bh,getElem?_eq_none->Dr,getElem?_eq_getElem->By,getElem?_setIfInBounds_ne->AY,getElem?_modify->B3,replicate->Cz,getElem?_toList->Is,ext_getElem?->JN,getElem?_append_left->KP,map->ZA,getElem?_mapIdx->Acj,size_append->Ajf,size_replicate->ZB,getElem?_push->Ajj
open Nat renaming ble_eq_true_of_le->Aq,le_of_lt->Bf,lt_of_not_le->BB,lt_or_gt_of_ne->Sk,min_eq_right->Apf,max_eq_right->KZ,min_eq_left->N4,beq->Am,ble->Ar,blt->AD,blt_eq->AK,lt_of_lt_of_le->AC,zero_le->Al,lt_or_ge->A8,le_of_not_lt->Aci,le_trans->Ao,le_refl->Ae,eq_of_beq_eq_true->Af,mod_lt->Je,le_succ->Yr,eq_zero_or_pos->KQ,mod_eq_of_lt->JQ,add_mul->Dw,le_of_ble_eq_true->Ac,zero_add->Ba,mul_comm->UI,sub_zero->DL,le_add_right->GW,lt_trichotomy->FD,add_sub_cancel_left->Ds,add_comm->UK
open Go.Region renaming ready->CQ,binds->ET,before->Df
open List renaming foldl_cons->F7,all_eq_true->Jf,mk_mem_zipIdx_iff_getElem?->Qh,getD_eq_getElem?_getD->Ak,mem_append_left->DW,range->BG,countP_cons->Amu,mem_cons_self->Av,flatten_cons->JR,getElem?_append_left->AB,getElem?_append_right->Bq,length_cons->AO,mem_cons_of_mem->Az,getElem?_cons_succ->B5,length_append->Aj,mem_of_getElem?->AZ,getElem?_eq_getElem->Ab,finRange->KC,getElem?_map->AX,getElem?_eq_none->CD,length_map->A4,drop_zero->Ajb,take_of_length_le->Bj,pairwise_iff_getElem->F8,getElem!_eq_getElem?_getD->UJ,all_cons->Jh,map_cons->Bp,nodup_nil->Jg,getElem?_inj->Ajk,not_mem_nil->KX,getElem_mem->Bu,drop_drop->GR,take_append_drop->FO,take_length->CS
open Go.Oper renaming looksAt->Ys
open Go.World renaming cell?->WX
open Int renaming ofNat->AQ
open Go.Sem renaming run->Amr,run_bind->AI
open Go.Result renaming andThen_ok->Aw
namespace Go.Ev
noncomputable section
section
variable {h J h0:Y} {v v' u x x' z y:Aa} {vs D0 l l' args AP:AH} {t e:Ai} {fr Ec:Fr} {ρ C2 FS:Ren} {w w':AM} {n i id m j off nx b r k U:Nat} {a:FP} {pl:Pl} {outs:List EO} {es C3:List Ap} {kp:Aa->Y->RR} {f:Au} {call:Be} {lo s:WS} {o:Op} {hb:HB} {op:CT} {τ:Bb} {P:AN}
abbrev On (L:Array Bool) (j:Nat):Prop:=L.getD j Ah=Ag
def I9 {L:Array Bool} {i:Nat} (U:i<L.size):On (L.setIfInBounds i Ag) j↔(On L j\/j=i):=by
 unfold On;by_cases h:i=j
 .subst h;simp[Bh,U]
 .rw[getD_set_ne Ah h]
  exact⟨.inl,λa=>a.resolve_right λe=>h e.symm⟩
section
variable{P:AN} {τ:Bb} {call:Be} {AU:Array C0} {F:Nat->Fr} {H:Nat->Y} {E:Nat->Hi} {R:Nat->Ren}
def Cnd (AU:Array C0) (H:Nat->Y) (E:Nat->Hi) (L:Array Bool) (m id:Nat):Prop:=∀j,j<AU.size->Wr H E j id->(On L j↔j<m)
structure PK (P:AN) (AU:Array C0) (F:Nat->Fr) (H:Nat->Y) (E:Nat->Hi) (R:Nat->Ren) (Yt:Ren) (a0:FP) (w0:AM) (L:Array Bool) (ρ:Ren) (a:FP) (w:AM):Prop where
 size:L.size=AU.size
 closed:LZ AU (On L)
 sz:(F 0).sz=a.tmps.size
 tm:∀t m v,m<=AU.size->(∀j,WT AU j t->(On L j↔j<m))->(F m).tm.get t=I v->∃v',a.tmps[t]?=I v'/\VR ρ v v'
 ds:a.defers=a0.defers
 aC:∀id pl,ρ id=I pl->pl.b<w.heap.size
 made:∀id pl,ρ id=I pl->id<(H 0).nx\/∃j,j<AU.size/\On L j/\(H j).nx<=id/\id<(H (j+1)).nx
 ext:∀id,id<(H 0).nx->ρ id=Yt id
 bi:∀id pl,ρ id=I pl->∃pl',R AU.size id=I pl'
 mem:∀id pl hb m,m<=AU.size->ρ id=I pl->id<(H m).nx->Cnd AU H E L m id->(H m).t.get id=I hb->BR P ρ pl w hb
 ord:∀id id' pl pl' hb m,m<=AU.size->ρ id=I pl->ρ id'=I pl'->id<id'->pl.b=pl'.b->id<(H m).nx->Cnd AU H E L m id->(H m).t.get id=I hb->hb.live=Ah
 cG:∀id id' pl pl' j,j<AU.size->(H j).nx<=id->id<(H (j+1)).nx->(∀lo,¬Ws E j lo)->ρ id=I pl->ρ id'=I pl'->id'<(H j).nx->pl'.b≠pl.b
 bX:w0.heap.size<=w.heap.size
 ae:∀b,b<w0.heap.size->(∀id pl,(H AU.size).lo.has id->Yt id=I pl->pl.b≠b)->w.heap[b]?=w0.heap[b]?
 new:∀id pl,(H 0).nx<=id->ρ id=I pl->w0.heap.size<=pl.b\/∃j pj,(H AU.size).lo.has j/\Yt j=I pj/\pj.b=pl.b
 os:w.os=w0.os
 out:w.output=w0.output
 tape:w.tape=w0.tape
 drawn:w0.drawn<=w.drawn
def NQ {b:Bo} {x y:Nat} (h:y<x):Hy b x y=(b.getD x 0).testBit y:=by
 unfold Hy;rw[Aq (Bf h)];rfl
def Ie {L:Array Bool} {i:Nat} (h:i∈CQ .any AU L):i<L.size/\¬On L i/\∃o,AU[i]?=I o/\∀e∈o.after,ET .any e=Ag->On L e.on:=by
 obtain⟨a,o,d,f⟩:=mem_ready.1 h;have c:i<L.size:=BB λg=>by rw[Bh,Dr g] at a;cases a
 refine⟨c,λb=>?_,o,d,f⟩;rw[Bh,By c] at a;unfold On at b;rw[Bh,By c] at b;simp at a b;rw[a] at b;cases b
def Rv {L:Array Bool} {i:Nat} (d:LZ AU (On L)) (h:i∈CQ .any AU L):LZ AU (λj=>On L j\/j=i):=by
 obtain⟨_,_,o,f,g⟩:=Ie h;intro j k e a c hb b;rcases b with b|rfl
 .exact .inl (d j k e a c hb b)
 .rw[f] at a;cases a;exact .inl (g e c hb)
def Ic {L:Array Bool} {i:Nat} (c:LZ AU (On L)) (d:i∈CQ .any AU L) (e:j≠i) (h:Hy (Df AU).toList (max i j) (min i j)=Ag):(On L j↔j<i):=by
 rcases Sk e with a|b
 .rw[Nat.max_eq_left (Bf a),Apf (Bf a),NQ a] at h
  have:=LD (Rv c d) h (.inr B);exact⟨λ_=>a,λ_=>this.resolve_right e⟩
 .rw[KZ (Bf b),N4 (Bf b),NQ b] at h
  exact⟨λf=>Cf (LD c h f) (Ie d).2.1,λa=>G⟩
def L3 {i:Nat} (h:s.has i):s.hasB i=true:=by
 cases s with
 |no=>exact h.elim
 |one b=>have h:i=b:=h;subst h;show Am i i=Ag;simp
 |rest lo=>exact Aq h
 |
  pair b lo=>
  have h:i=b\/lo<=i:=h;show(Am i b||Ar lo i)=Ag;rcases h with h|h
  .subst h;simp
  .rw[Aq h,Bool.or_true]
def X4 {i nx':Nat} (h:s.has i) (d:nx<=i) (e:i<nx'):s.meets nx nx'=true:=by
 cases s with
 |no=>exact h.elim
 |
  one b=>
  have h:i=b:=h;subst h;show(Ar nx i&&AD i nx')=Ag;have a:AD i nx'=true:=by rw[AK];exact e
  rw[Aq d,a];rfl
 |
  rest lo=>
  have h:lo<=i:=h;show(AD nx nx'&&AD lo nx')=Ag;have c:AD nx nx'=true:=by rw[AK];omega
  have a:AD lo nx'=true:=by rw[AK];omega
  rw[c,a];rfl
 |
  pair b lo=>
  have h:i=b\/lo<=i:=h;show((Ar nx b&&AD b nx')||(AD nx nx'&&AD lo nx'))=Ag;rcases h with h|h
  .subst h
   have a:AD i nx'=true:=by rw[AK];exact e
   rw[Aq d,a];rfl
  .have c:AD nx nx'=true:=by rw[AK];omega
   have a:AD lo nx'=true:=by rw[AK];omega
   rw[c,a,Bool.and_self,Bool.or_true]
def Nv (r:G0 P τ call AU F H E R) {i:Nat} {d:Option Ai} (U:i<AU.size) (l:j<AU.size) (m:i≠j) (k:E i=.wr lo d)
 (b:(∃e,Ws E j e)\/E j=.aD\/(∃a,E j=.rd a/\lo.has a)\/∃a t,E j=.lk a t/\lo.has a/\ZU t d=Ah):
 Hy (Df AU).toList (max i j) (min i j)=true:=by
 rcases Sk m with f|g
 .rw[KZ (Bf f),N4 (Bf f)]
  refine r.sep i j f l ?_;rw[k];rcases b with⟨e,n,b⟩|b|⟨a,b,c⟩|⟨a,t,b,c,h⟩<;>rw[b]
  .rfl
  .rfl
  .exact L3 c
  .show(lo.hasB a&&!ZU t d)=Ag
   rw[L3 c,h];rfl
 .rw[Nat.max_eq_left (Bf g),Apf (Bf g)]
  refine r.sep j i g U ?_;rw[k];rcases b with⟨e,n,b⟩|b|⟨a,b,c⟩|⟨a,t,b,c,h⟩<;>rw[b]
  .rfl
  .rfl
  .exact L3 c
  .show(lo.hasB a&&!ZU t d)=Ag
   rw[L3 c,h];rfl
def OM (i j:Nat) (b:Bo) (h:Hy b (max i j) (min i j)=Ag):Hy b (max j i) (min j i)=true:=by
 rw[Nat.max_comm,Nat.min_comm];exact h
section
variable{Yt:Ren} {a0:FP} {w0:AM} {L:Array Bool} {ρ:Ren} {a:FP} {w:AM} {i:Nat}
def Xr (r:G0 P τ call AU F H E R) (CV:PK P AU F H E R Yt a0 w0 L ρ a w) (d:i∈CQ .any AU L) (U:i<AU.size) (e:j<AU.size) (c:j≠i) (b:Ws E i lo) (f:∃g,Ws E j g):(On L j↔j<i):=
 let⟨_,b⟩:=b
 Ic CV.closed d c (Nv r U e (Ne.symm c) b (.inl f))
def Arg (r:G0 P τ call AU F H E R) (CV:PK P AU F H E R Yt a0 w0 L ρ a w) (d:i∈CQ .any AU L) (U:i<AU.size) (e:j<AU.size) (f:(H i).nx<=id) (g:id<(H (i+1)).nx) (h:Wr H E j id):i<j/\¬On L j:=by
 obtain⟨p,lo,⟨q,k⟩,l⟩:=h;have b:i<j:=BB λm=>by have:=r.aA m G;omega
 refine⟨b,λn=>?_⟩;have o:Hy (Df AU).toList j i=true:=by
  refine r.sep i j b e ?_;rw[k];cases c:E i with
  |aK=>exact X4 l f g
  |rd a=>have:=(r.aE i U).rd a c;omega
  |lk a t=>have:=(r.aE i U).lk a t c;omega
  |bad=>have:=(r.aE i U).ok;rw[c] at this;cases this
  |aD=>rfl
  |wr s u=>rfl
 have:=Ic CV.closed d (show j≠i by omega) (by rw[KZ (Bf b),N4 (Bf b)];exact o);have:=this.1 n;omega
def Awn (r:G0 P τ call AU F H E R) (CV:PK P AU F H E R Yt a0 w0 L ρ a w) (f:i∈CQ .any AU L) (U:i<AU.size) (p:m<=AU.size) (z:id<(H m).nx)
 (d:((H i).nx<=id/\id<(H (i+1)).nx)\/Wr H E i id) (g:Cnd AU H E (L.setIfInBounds i Ag) m id):i<m/\id<(H (i+1)).nx/\(H m).t.get id=(H (i+1)).t.get id:=by
 have h:i<L.size:=by rw[CV.size];exact U
 have k:i<m:=by
  rcases d with⟨l,c⟩|b
  .exact BB λq=>by have:=r.aA q G;omega
  .exact(g i U b).1 ((I9 h).2 (.inr B))
 have n:id<(H (i+1)).nx:=by
  rcases d with⟨l,c⟩|b
  .exact c
  .exact AC b.1 (r.aE i U).nx
 refine⟨k,n,r.same k p n λj l c b=>?_⟩;have e:j<AU.size:=G;have o:On L j:=((I9 h).1 ((g j e b).2 c)).resolve_right G;rcases d with⟨s,u⟩|⟨_,lo,v,_⟩
 .exact(Arg r CV f U e s u b).2 o
 .obtain⟨_,x,y,_⟩:=b
  have:=(Xr r CV f U e G v ⟨x,y⟩).1 o;omega
def Aow (r:G0 P τ call AU F H E R) (CV:PK P AU F H E R Yt a0 w0 L ρ a w) (v:i∈CQ .any AU L) (U:i<AU.size) (x:Ws E i s) {c:Nat} {g:Pl}
 (f:s.has c) (A:c<(H i).nx) (k:ρ c=I g) (e:ρ id=I pl) (W:id<(H i).nx) (d:¬s.has id) (l:pl.b=g.b) (n:m<=AU.size) (o:id<(H m).nx) (p:Cnd AU H E L m id)
 (q:(H m).t.get id=I hb):hb.live=false:=by
 have Cw:∀b,s.top=I b->c=b->id≠c->hb.live=false:=by
  intro b C D d;subst D;rcases Sk d with K|M
  .exact CV.ord id c pl g hb m n e k K l o p q
  .obtain⟨u,N,y⟩:=(r.aE i U).live c s x C
   have:=CV.ord c id g pl u i (Bf U) k e M l.symm A (λj O Q=>?_) N
   .rw[this] at y;cases y
   .by_cases z:j=i
    .subst z;exact⟨λh=>Cf h (Ie v).2.1,λh=>G⟩
    .obtain⟨_,S,T,_⟩:=Q
     exact Xr r CV v U O z x ⟨S,T⟩
 cases s with
 |no=>exact f.elim
 |
  rest lo=>
  have f:lo<=c:=f;have d:¬lo<=id:=d;exact CV.ord id c pl g hb m n e k G l o p q
 |
  one b=>
  have f:c=b:=f;subst f;have d:¬id=c:=d;exact Cw c B B d
 |
  pair b lo=>
  have f:c=b\/lo<=c:=f;have d:¬(id=b\/lo<=id):=d;by_cases u:c=b
  .subst u
   exact Cw c B B (λV=>d (.inl V))
  .exact CV.ord id c pl g hb m n e k G l o p q
def PK.next (r:G0 P τ call AU F H E R) (CV:PK P AU F H E R Yt a0 w0 L ρ a w) (W:i∈CQ .any AU L) (U:i<AU.size) {o:C0} (ho:AU[i]?=I o) {y:Ren} {N:AM}
 (a2:∀t j,WT AU i t->WT AU j t->j≠i->(On L j↔j<i))
 (a3:(F i).set o.dst v=I (F (i+1))) (hv:o.dst.isSome=Ag->VR y v v')
 (old:∀id,id<(H i).nx\/(H (i+1)).nx<=id->y id=ρ id) (ad:ρ.le y)
 (a4:∀id pl,y id=I pl->∃pl',R AU.size id=I pl')
 (a5:∀id pl,y id=I pl->pl.b<N.heap.size)
 (a6:w.heap.size<=N.heap.size)
 (au:∀b,b<w.heap.size->(∀id pl,id<(H i).nx->(∃lo,Ws E i lo/\lo.has id)->ρ id=I pl->pl.b≠b)->N.heap[b]?=w.heap[b]?)
 (ae:∀id pl,(H i).nx<=id->id<(H (i+1)).nx->y id=I pl->w.heap.size<=pl.b\/∃j s lo,Ws E i lo/\lo.has j/\j<(H i).nx/\ρ j=I s/\s.b=pl.b)
 (a7:∀id pl hb,((H i).nx<=id/\id<(H (i+1)).nx)\/Wr H E i id->y id=I pl->(H (i+1)).t.get id=I hb->BR P y pl N hb)
 (a8:∀id c pl pl' hb,id<c->c<(H (i+1)).nx->((H i).nx<=id/\id<(H (i+1)).nx)\/Wr H E i id->y id=I pl->y c=I pl'->pl.b=pl'.b->(H (i+1)).t.get id=I hb->hb.live=Ah)
 (a9:N.os=w.os) (ba:N.output=w.output) (bb:N.tape=w.tape) (hdr:w.drawn<=N.drawn):
 PK P AU F H E R Yt a0 w0 (L.setIfInBounds i Ag) y (a.put o.dst v') N:=by
 have ab:i<L.size:=by rw[CV.size];exact U
 have hn:¬On L i:=(Ie W).2.1;have bl:=(r.aE i U).nx;have af:∀{j},j≠i->(On (L.setIfInBounds i Ag) j↔On L j):=λX=>(I9 ab).trans ⟨λh=>h.resolve_right X,.inl⟩;have bm:=r.aA (Al i) (Bf U);have av:∀{m id},¬(((H i).nx<=id/\id<(H (i+1)).nx)\/Wr H E i id)->Cnd AU H E (L.setIfInBounds i Ag) m id->(id<(H i).nx\/(H (i+1)).nx<=id)/\Cnd AU H E L m id:=by
  intro m id n z;refine⟨?_,λj K hw=>?_⟩
  .rcases A8 id (H i).nx with h|h
   .exact .inl h
   .exact .inr (Aci λA=>n (.inl ⟨h,A⟩))
  .have X:j≠i:=λe=>n (.inr (e▸hw))
   rw[←af X];exact z j K hw
 have aw:∀{id pl},ρ id=I pl->(H (i+1)).nx<=id->∃j,j<AU.size/\On L j/\i<j/\(H j).nx<=id/\id<(H (j+1)).nx:=by
  intro id pl e l;rcases CV.made id pl e with h|⟨j,q,g,h3,h4⟩
  .omega
  .refine⟨j,q,g,?_,h3,h4⟩
   exact BB λad=>by have:=r.aA (p:=j+1) (m:=i+1) G G;omega
 have am:∀{j lo},j<AU.size->On L j->i<j->Ws E i lo->∀an,¬Ws E j an:=by
  intro j lo K af ao f an bc;have:=(Xr r CV W U K G f ⟨an,bc⟩).1 af;omega
 refine⟨?_,?_,?_,?_,?_,a5,?_,?_,a4,?_,?_,?_,Ao CV.bX a6,?_,?_,a9.trans CV.os,ba.trans CV.out,bb.trans CV.tape,Ao CV.drawn hdr⟩
 .rw[Array.size_setIfInBounds];exact CV.size
 .have:=Rv CV.closed W
  intro j oj e bd x hb K;exact(I9 ab).2 (this j oj e bd x hb ((I9 ab).1 K))
 .rw[CV.sz]
  cases o.dst<;>simp[Act.put]
 ·
  intro t m u x z hu;by_cases ak:WT AU i t
  .have be:i<m:=(z i ak).1 ((I9 ab).2 (.inr B))
   obtain⟨o',ax,hd⟩:=ak;rw[ho] at ax;cases ax;rw[r.tm be x λj q g ag=>by
    have bf:On L j:=(af G).1 ((z j ag).2 g);have:=(a2 t j ⟨o,ho,hd⟩ ag G).1 bf;omega] at hu
   have hf:=(JG a3).2.2.2 t hd;rw[hf.2] at hu;cases hu;refine⟨v',?_,hv (by rw[hd];rfl)⟩;rw[hd];have:t<a.tmps.size:=by rw[←CV.sz,←(r.sz (Bf U)).1];exact hf.1
   simp[Act.put,this]
  .obtain⟨u',q,g⟩:=CV.tm t m u x (λj ag=>by
    have X:j≠i:=λe=>ak (e▸ag);rw[←af X];exact z j ag) hu
   refine⟨u',?_,g.mono ad⟩;cases hd:o.dst with
   |none=>exact q
   |
    some d=>
    have X:d≠t:=λe=>ak ⟨o,ho,by rw[hd,e]⟩;simp only[Act.put];rw[AY X];exact q
 .cases o.dst<;>exact CV.ds
 .intro id pl e
  by_cases l:(H i).nx<=id/\id<(H (i+1)).nx
  .exact .inr ⟨i,U,(I9 ab).2 (.inr B),l⟩
  .rw[old id G] at e
   exact(CV.made id pl e).imp (λh=>h) λ⟨j,q,g,h3⟩=>⟨j,q,(I9 ab).2 (.inl g),h3⟩
 .intro id l
  rw[old id (.inl G)];exact CV.ext id l
 ·
  intro id pl hb m x e l z O;by_cases n:((H i).nx<=id/\id<(H (i+1)).nx)\/Wr H E i id
  .obtain⟨_,_,hs⟩:=Awn r CV W U x l n z
   rw[hs] at O;exact a7 id pl hb n e O
  .obtain⟨al,ah⟩:=av n z
   rw[old id al] at e;have bg:=CV.mem id pl hb m x e l ah O;cases ap:hb.live with
   |false=>cases hb<;>simp[HB.live] at ap;trivial
   |
    true=>
    refine bg.mono ad (au _ (CV.aC id pl e) λbh bi g aa e2 C=>?_);obtain⟨lo,f,aa⟩:=aa;rcases al with S|bj
    .have:=Aow r CV W U f aa g e2 e S (λA=>n (.inr ⟨S,lo,f,A⟩)) C.symm x l ah O
     rw[this] at ap;cases ap
    .obtain⟨j,D,j2,T,j4,j5⟩:=aw e bj
     exact CV.cG id bh pl bi j D j4 j5 (am D j2 T f) e e2 (AC g (r.aA (Bf T) (Bf D))) C
 ·
  intro id c pl pl' hb m x e k S C l z O;by_cases n:((H i).nx<=id/\id<(H (i+1)).nx)\/Wr H E i id
  .obtain⟨_,bn,hs⟩:=Awn r CV W U x l n z
   rw[hs] at O;rcases A8 c (H (i+1)).nx with J|J
   .exact a8 id c pl pl' hb S J n e k C O
   .rw[old c (.inr J)] at k
    obtain⟨j,D,j2,T,j4,j5⟩:=aw k J;have ao:=r.aA (Bf T) (Bf D);rcases n with⟨k1,k2⟩|⟨k1,lo,f,k2⟩
    .rcases ae id pl k1 k2 e with ai|⟨M,s,lo,f,n1,n2,Q,V⟩
     .have:=CV.aC c pl' k;omega
     .exact Cf (V.trans C) (CV.cG c M pl' s j D j4 j5 (am D j2 T f) k Q G)
    .rw[old id (.inl k1)] at e
     exact Cf C (CV.cG c id pl' pl j D j4 j5 (am D j2 T f) k e G)
  .obtain⟨al,ah⟩:=av n z
   rw[old id al] at e;by_cases aj:(H i).nx<=c/\c<(H (i+1)).nx
   .have ay:id<(H i).nx:=G
    rcases ae c pl' aj.1 aj.2 k with ai|⟨M,s,lo,f,n1,n2,Q,V⟩
    .have:=CV.aC id pl e;omega
    .exact Aow r CV W U f n1 n2 Q e ay (λA=>n (.inr ⟨ay,lo,f,A⟩)) (C.trans V.symm) x l ah O
   .rw[old c G] at k
    exact CV.ord id c pl pl' hb m x e k S C l ah O
 ·
  intro id c pl pl' j K q g aq e k S;by_cases az:j=i
  .subst az
   rw[old c (.inl S)] at k;have:=CV.aC c pl' k;rcases ae id pl q g e with ai|⟨_,_,lo,f,_⟩
   .omega
   .exact Cf f (aq lo)
  .have bk:id<(H i).nx\/(H (i+1)).nx<=id:=by
    rcases A8 id (H i).nx with h|h
    .exact .inl h
    .exact .inr (Aci λA=>az (r.bK K U q g h A))
   rw[old id bk] at e;by_cases aj:(H i).nx<=c/\c<(H (i+1)).nx
   .have ao:i<j:=BB λad=>by have:=r.aA ad (Bf U);omega
    have bo:=r.aA (Bf ao) (Bf K);have:=CV.aC id pl e;rcases ae c pl' aj.1 aj.2 k with ai|⟨M,s,lo,f,n1,n2,Q,V⟩
    .omega
    .rw[←V];exact CV.cG id M pl s j K q g aq e Q G
   .rw[old c G] at k
    exact CV.cG id c pl pl' j K q g aq e k S
 ·
  intro b hb A;rw[au b (AC hb CV.bX) λid pl q aa e C=>?_]
  .exact CV.ae b hb A
  .obtain⟨lo,f,aa⟩:=aa
   have ar:(H AU.size).lo.has id:=r.lo_le (p:=i+1) U (Ae _) _ ((r.aE i U).wr lo f _ aa);rcases A8 id (H 0).nx with h|h
   .rw[CV.ext id h] at e;exact A id pl ar e C
   .rcases CV.new id pl h e with J|⟨j,s,D,j2,T⟩
    .omega
    .exact A j s D j2 (T.trans C)
 .intro id pl l e
  by_cases a1:(H i).nx<=id/\id<(H (i+1)).nx
  .rcases ae id pl a1.1 a1.2 e with ai|⟨M,s,lo,f,n1,n2,Q,V⟩
   .exact .inl (Ao CV.bX ai)
   .have ar:(H AU.size).lo.has M:=r.lo_le (p:=i+1) U (Ae _) _ ((r.aE i U).wr lo f _ n1)
    rcases A8 M (H 0).nx with h|h
    .rw[CV.ext M h] at Q;exact .inr ⟨M,s,ar,Q,V⟩
    .rw[←V];exact CV.new M s h Q
  .rw[old id G] at e;exact CV.new id pl l e
end
end
def MI {t:Nat}:∀(l:List C0) (i:Nat),NG t j i l=Ag->∀k o,l[k]?=I o->o.dst=I t->i+k=j
 |[],_,_,k,o,h,_=>by simp at h
 |
  x::l,i,b,k,o,h,c=>by
  simp only[NG,An,Dm] at b;cases k with
  |
   zero=>
   simp at h;subst h;rcases b.1 with a|a
   .have:=Af a;omega
   .rw[c] at a;simp at a
  |
   succ k=>
   simp at h;have:=MI l (i+1) b.2 k o h c;omega
def Aax {AU:Array C0} {g:Nat} {w:Bool} (h:QI AU.toList (I (g,w))=Ag):∃a t,AU[g]?=I a/\a.dst=I t/\∀j,WT AU j t->j=g:=by
 unfold QI at h;simp only[] at h;split at h
 case h_2=>cases h
 rename_i o b;split at h
 case h_2=>cases h
 rename_i t c;refine⟨o,t,by simpa using b,c,λj d=>?_⟩;obtain⟨e,f,i⟩:=d;have:=MI _ _ h j e (by simpa using f) i;omega
def WP {b:Type} {A:Array (List b)} {x:b}:∀{y:b},y∈A.getD j []->y∈(A.modify k (x::·)).getD j []:=by
 intro y a;rw[Bh] at*;rw[B3];by_cases h:k=j
 .rw[Bi h]
  cases c:A[j]? with
  |none=>rw[c] at a;simp at a
  |some l=>rw[c] at a;simp at a⊢;exact .inr a
 .rw[Bm h];exact a
def Yg {a:Type} {A:Array (List a)} {x:a} (b:k<A.size):x∈(A.modify k (x::·)).getD k []:=by
 rw[Bh,B3,Bi B,By b];simp
def wF (n:Nat) (w:Array (List (Tmp×Nat))) (x:C0×Nat):Array (List (Tmp×Nat)):=match x.1.dst with|some d=>w.modify (d%n) ((d,x.2)::·)|none=>w
def Ky {n:Nat}:∀(l:List (C0×Nat)) (W:Array (List (Tmp×Nat))),W.size=n->
 (∀k y,y∈W.getD k []->y∈(l.foldl (wF n) W).getD k [])/\
 (∀x∈l,∀d,x.1.dst=I d->d%n<n->(d,x.2)∈(l.foldl (wF n) W).getD (d%n) [])
 |[],W,_=>⟨λ_ _ h=>h,λx m=>by cases m⟩
 |
  x::l,W,g=>by
  rw[F7];cases c:x.1.dst with
  |
   none=>
   have i:wF n W x=W:=by simp[wF,c]
   rw[i];obtain⟨e,j⟩:=Ky l W g;refine⟨e,λy a d b f=>?_⟩;rcases List.mem_cons.1 a with rfl|a
   .rw[c] at b;cases b
   .exact j y a d b f
  |
   some d0=>
   have i:wF n W x=W.modify (d0%n) ((d0,x.2)::·):=by simp[wF,c]
   rw[i];obtain⟨e,j⟩:=Ky (n:=n) l (W.modify (d0%n) ((d0,x.2)::·)) (by rw[Array.size_modify];exact g);refine⟨λk y a=>e k y (WP a),λy a d b f=>?_⟩;rcases List.mem_cons.1 a with rfl|a
   .rw[c] at b;cases b
    exact e _ _ (Yg (by rw[g];exact f))
   .exact j y a d b f
structure Xp (AU:Array C0):Prop where
 lt:∀(i:Nat) (o:C0) (e:Edge),AU[i]?=I o->e∈o.after->ET .any e=Ag->e.on<i
 guard:∀(i:Nat) (o:C0) (g:Nat) (w:Bool),AU[i]?=I o->o.guard=I (g,w)->∃e∈o.after,e.on=g/\ET .any e=Ag
 tmp:∀(i:Nat) (o:C0) (t:Tmp),AU[i]?=I o->(o.dst=I t\/Operand.tmp t∈o.op.operands)->∀j,WT AU j t->j≠i->Hy (Df AU).toList (max i j) (min i j)=Ag
def Axx {types:Array KR} {AU:Array C0} {d:Bool} (h:Region.ok types AU d=Ag):Xp AU:=by
 unfold Region.ok at h;simp only[An] at h;obtain⟨⟨⟨⟨l,c⟩,_⟩,_⟩,_⟩:=h;have m:∀(i:Nat) (o:C0),AU[i]?=I o->(o.after.all (λe=>decide (e.on<i)||(match e.ground with|.gcOnly _=>e.on !=i&&decide (e.on<AU.size)|_=>Ah))&&
  (match o.guard with|none=>Ag|some (j,_)=>o.after.any (λe=>e.on==j&&ET .any e)&&((AU[j]?).bind (·.dst)).isSome))=true:=by
  intro i o b;rw[Array.all_eq_true_iff_forall_mem] at l;exact l (o,i) (by rw[Array.mk_mem_zipIdx_iff_getElem?];exact b)
 refine⟨λi o e b f hb=>?_,λi o g w b u=>?_,λi o t b v j x y=>?_⟩
 .have:=m i o b
  simp only[An] at this;have:=Array.all_eq_true_iff_forall_mem.1 this.1 e f;simp only[Dm,decide_eq_true_eq] at this;rcases this with h|h
  .exact h
  .unfold ET at hb
   cases z:e.ground<;>rw[z] at h hb<;>simp_all
 .have:=m i o b
  simp only[An,u] at this;obtain⟨k,A,a⟩:=Array.any_eq_true.1 this.2.1;have f:o.after[k]∈o.after:=Array.getElem_mem A;generalize o.after[k]=e at a f;simp only[An,beq_iff_eq] at a;exact⟨e,f,a.1,a.2⟩
 .unfold Region.temporariesOk at c
  simp only[] at c;rw[Jf] at c;obtain⟨C,p,D⟩:=x;have L:j<AU.size:=(Array.getElem?_eq_some_iff.1 p).1;have a:=c (o,i) (by rw[Qh];simpa using b);simp only[] at a;rw[Jf] at a;have q:=a t (by
   rcases v with h|h
   .simp[h]
   .refine List.mem_append_right _ (List.mem_filterMap.2 ⟨.tmp t,by simpa using h,B⟩))
  rw[Jf] at q;have E:=(Ky (n:=AU.size) AU.toList.zipIdx (Cz AU.size []) (by simp)).2 (C,j) (by rw[Qh];simpa using p) t D (Je _ G);have r:=q (t,j) E;simp only[bne_self_eq_false,Bool.false_or,Dm,beq_iff_eq] at r;have s:=r.resolve_left y;have F:max j i=max i j:=Nat.max_comm _ _;have H:min j i=min i j:=Nat.min_comm _ _;rw[F,H] at s;have K:min i j<max i j:=G;rw[NQ K];have:(Df AU).toList.getD (max i j) 0=(Df AU).getD (max i j) 0:=by
   rw[Bh,Ak,Is]
  rw[this];exact s
def RX (t:T Aa):Bo->T Aa
 |[]=>.nil
 |
  x::l=>match t.get x with
  |some v=>(RX t l).ins x v
  |none=>RX t l
def NJ (t:T Aa) (j:Nat):∀l:Bo,(RX t l).get j=if j∈l then t.get j else Z
 |[]=>by simp[RX,T.get_nil]
 |
  x::l=>by
  have a:=NJ t j l;simp[RX];cases b:t.get x with
  |
   none=>
   simp[a];by_cases h:j=x
   .subst h;simp[b]
   .simp[h]
  |
   some v=>
   simp[T.dA];by_cases h:j=x
   .subst h;simp[b]
   .simp[h,a]
def WD {AU:Array C0} {g:Option (Nat×Bool)} (h:∀j w t,g=I (j,w)->(AU[j]?).bind (·.dst)=I t->fr.tm.get t=Ec.tm.get t):E5 fr AU.toList g=E5 Ec AU.toList g:=by
 cases g with
 |none=>rfl
 |
  some x=>
  obtain⟨j,w⟩:=x;unfold E5;simp only[];cases a:AU.toList[j]? with
  |none=>rfl
  |
   some o=>
   simp[];cases b:o.dst with
   |none=>rfl
   |
    some t=>
    simp[];rw[h j w t B Jq]
section
variable{P:AN} {τ:Bb} {call:Be} {AU:Array C0} {F:Nat->Fr} {H:Nat->Y} {E:Nat->Hi} {R:Nat->Ren}
variable{Yt:Ren} {a0:FP} {w0:AM} {L:Array Bool} {ρ:Ren} {a:FP} {w:AM} {i:Nat}
def Ahe {o:C0} {y:Fr} (z:∀x∈o.op.operands,ev τ y x=ev τ (F i) x) (l:F9 τ call (F i) (H i).ad o.op (DK (F i) o) DP=I [.aE (F (i+1)) J]) (j:H (i+1)=(H i).aa J)
 (p:E i=CF τ (F i) o.op (H i) J.lo) (A:(E i).ok=Ag) (S:∀a t,E i≠.lk a t):∃c d:Y,c.nx=(H i).nx/\c.lo=.no/\F9 τ call y c o.op (DK (F i) o) DP=I [.aE (F (i+1)) d]/\d.nx=(H (i+1)).nx/\
  (∀id hb,c.t.get id=I hb->(H i).t.get id=I hb/\(E i=.aD\/(∃lo,Ws E i lo)\/E i=.rd id))/\
  (∀id,((H i).nx<=id/\id<(H (i+1)).nx)\/Wr H E i id->d.t.get id=(H (i+1)).t.get id)/\(∀lo,Ws E i lo->d.lo=lo)/\((∀lo,¬Ws E i lo)->∀id,id<(H i).nx->¬d.lo.has id):=by
 obtain⟨L,M,_⟩:=Afd l (p▸A);rw[←p] at L M;have u:(E i=.aD\/∃lo,Ws E i lo)->∃c d:Y,c.nx=(H i).nx/\c.lo=.no/\F9 τ call y c o.op (DK (F i) o) DP=I [.aE (F (i+1)) d]/\d.nx=(H (i+1)).nx/\
  (∀id hb,c.t.get id=I hb->(H i).t.get id=I hb/\(E i=.aD\/(∃lo,Ws E i lo)\/E i=.rd id))/\
  (∀id,((H i).nx<=id/\id<(H (i+1)).nx)\/Wr H E i id->d.t.get id=(H (i+1)).t.get id)/\(∀lo,Ws E i lo->d.lo=lo)/\((∀lo,¬Ws E i lo)->∀id,id<(H i).nx->¬d.lo.has id):=by
  intro w;refine⟨(H i).ad,J,B,B,by rw[L7 z];exact l,by rw[j];rfl,λid hb q=>⟨q,w.imp (λx=>x) .inl⟩,λid _=>by rw[j];rfl,λlo e=>((λs C=>let⟨g,N⟩:=C;(Xz (p.symm.trans N)).1:∀s,Ws E i s->s=J.lo) lo e).symm,λO=>L λs g C=>O s ⟨g,C⟩⟩
 cases f:E i with
 |aD=>rw[f] at u;exact u Jq
 |wr lo g=>rw[f] at u;exact u (.inr ⟨lo,g,f⟩)
 |lk a t=>exact Cf f Jq
 |bad=>rw[f] at A;cases A
 |
  aK=>
  obtain⟨v,nb,c⟩:=Zl (p.symm.trans f) l;have r:=c (H i).ad (DK (F i) o) DP B;rw[l] at r;obtain⟨D,m⟩:=Qw r.symm;have P:=c ⟨.nil,(H i).nx,.no⟩ (DK (F i) o) DP B;refine⟨⟨.nil,(H i).nx,.no⟩,Adb ⟨.nil,(H i).nx,.no⟩ nb,B,B,?_,?_,λid hb q=>Jq,λid K=>?_,λlo e=>(by obtain⟨g,e⟩:=e;rw[f] at e;cases e),λ_=>?_⟩
  .rw[L7 z,P];simp[DK,D]
  .rw[j,←m];cases nb<;>rfl
  .rcases K with⟨Q,n⟩|⟨_,lo,⟨g,k⟩,_⟩
   .rw[j,←m] at n
    rw[j,←m];cases nb with
    |none=>have n:id<(H i).nx:=n;omega
    |
     some b=>
     have n:id<(H i).nx+1:=n;have:id=(H i).nx:=G;subst this;show(T.ins T.nil (H i).nx b).get (H i).nx=((H i).t.ins (H i).nx b).get (H i).nx;rw[T.ao,T.ao]
   .rw[f] at k;cases k
  .cases nb<;>exact λ_ _ h=>h
 |
  rd b=>
  obtain⟨v,c⟩:=Agg (p.symm.trans f) l;have r:=c (H i).ad (DK (F i) o) DP B;rw[l] at r;obtain⟨D,m⟩:=Qw r.symm;have R:∃t:T HB,t.get b=(H i).t.get b/\∀id hb,t.get id=I hb->id=b:=by
   cases hb:(H i).t.get b with
   |none=>exact⟨.nil,B,λid hb h=>by cases h⟩
   |some x=>exact⟨T.nil.ins b x,T.ao _ _ _,λid hb h=>by
    rw[T.dA] at h;by_cases w:id=b
    .exact w
    .rw[Bm w,T.get_nil] at h;cases h⟩
  obtain⟨t,t1,t2⟩:=R;refine⟨⟨t,(H i).nx,.no⟩,⟨t,(H i).nx,.no⟩,B,B,?_,?_,λid hb q=>?_,λid K=>?_,λlo e=>(by obtain⟨g,e⟩:=e;rw[f] at e;cases e),λ_ _ _ h=>h⟩
  .rw[L7 z,(c ⟨t,(H i).nx,.no⟩ (DK (F i) o) DP t1)];simp[DK,D]
  .rw[j,←m];rfl
  .have:=t2 id hb q;subst this
   exact⟨by rw[←t1];exact q,.inr (.inr B)⟩
  .rcases K with⟨Q,n⟩|⟨_,lo,⟨g,k⟩,_⟩
   .have:(H (i+1)).nx=(H i).nx:=by rw[j,←m];rfl
    omega
   .rw[f] at k;cases k
def Uu {a t:Nat} (b:CF τ fr o h0 lo=.lk a t):∃m x,o=.lookup t m x Ah/\ev τ fr m=I (.map (I a)):=by
 unfold CF at b;cases c:Dj o with
 |true=>rw[c] at b;cases b
 |
  false=>
  rw[c] at b;simp[I0] at b;split at b
  .cases b
  .cases b
  .cases b
  .cases b
  .cases b
  .cases b
  .split at b
   .cases b
   .exact(B2.2.1 _ _ b).elim
  .rename_i t m x d
   split at b
   .rename_i r e
    cases d with
    |true=>cases b
    |false=>cases b;exact⟨m,x,B,e⟩
   .exact(B2.2.1 _ _ b).elim
  .split at b
   .exact(L4.2.1 _ _ b).elim
   .exact(B2.2.1 _ _ b).elim
  .split at b
   .cases b
   .cases b
   .exact(B2.2.1 _ _ b).elim
  .split at b
   .cases b
   .cases b
   .exact(B2.2.1 _ _ b).elim
  .exact(B2.2.1 _ _ b).elim
def far (r:G0 P τ call AU F H E R) (CV:PK P AU F H E R Yt a0 w0 L ρ a w) (p:id<(H AU.size).nx):∃m,m<=AU.size/\id<(H m).nx/\Cnd AU H E L m id:=by
 have Cw:∀k,k<=AU.size->∃m,m<=k/\(∀j,j<m->Wr H E j id->On L j)/\(m=k\/(Wr H E m id/\¬On L m)):=by
  intro k
  induction k with
  |zero=>intro _;exact⟨0,Ae _,λj f=>G,.inl B⟩
  |
   succ k q=>
   intro z;obtain⟨m,g,c,b⟩:=q G;rcases b with rfl|b
   .by_cases h:Wr H E m id/\¬On L m
    .exact⟨m,G,c,.inr h⟩
    .refine⟨m+1,Ae _,λj f d=>?_,.inl B⟩
     by_cases t:j=m
     .subst t;exact Classical.byContradiction λu=>h ⟨d,u⟩
     .exact c j G d
   .exact⟨m,G,c,.inr b⟩
 obtain⟨m,g,c,b⟩:=Cw AU.size Jq;refine⟨m,g,?_,λj f d=>⟨λi=>?_,λv=>c j v d⟩⟩
 .rcases b with rfl|b
  .exact p
  .exact b.1.1
 .rcases b with rfl|⟨b,l⟩
  .exact f
  .refine BB λn=>?_
   have x:m≠j:=λe=>l (e▸i);obtain⟨_,s,⟨A,y⟩,_⟩:=b;obtain⟨_,C,D,_⟩:=d;have o:=Nv r G f x y Jq;rw[KZ n,N4 n,NQ (G:m<j)] at o;exact l (LD CV.closed o i)
def VU (r:G0 P τ call AU F H E R) {t p q:Nat} (l:p<=q) (m:q<=AU.size) (g:id<(H p).nx) (c:∀k,p<=k->k<q->Wr H E k id->∃s,E k=.wr s (I t)):
 I3 τ t id ((H p).t.get id) ((H q).t.get id):=by
 induction q with
 |zero=>
  have:p=0:=G;subst this;exact I3.refl _ _ _
 |
  succ q h=>
  by_cases i:p=q+1
  .subst i;exact I3.refl _ _ _
  .refine(h G G λk a d=>c k a G).trans ?_
   by_cases b:Wr H E q id
   .obtain⟨s,e⟩:=c q G G b
    obtain⟨n,a,d⟩:=(r.aE q G).me s t e;obtain⟨_,o,⟨u,f⟩,j⟩:=b;rw[e] at f;cases f;subst a;subst j;exact d
   .rw[(r.aE q G).same id (AC g (r.aA G G)) b]
    exact I3.refl _ _ _
def Amg (T:BM P τ) (hc:C8 P τ call) (av:Xp AU) (r:G0 P τ call AU F H E R) (a9:∀g,g<τ.ng->Yt g=I ⟨g,0,0⟩) (CV:PK P AU F H E R Yt a0 w0 L ρ a w)
 (hr:i∈CQ .any AU L) {ro':Option Nat} {Q:Exit->FP->AM->Prop}:
 wpOpIn (Fw ro') 0 P AU Q i (λa' w'=>∃C2,PK P AU F H E R Yt a0 w0 (L.setIfInBounds i Ag) C2 a' w') a w:=by
 obtain⟨b8,aw,o,O,bm⟩:=Ie hr;have U:i<AU.size:=Gq;obtain⟨ba,bn⟩:=r.step i o O;obtain⟨aT,wT,ah⟩:=r.st i Jq;obtain⟨b9,ca,ay⟩:=r.st (i+1) U;have bo:=(r.aE i U).nx;have bp:∀t∈o.looksAt AU,∀j,WT AU j t->(On L j↔j<i):=by
  intro t u j hj;by_cases D:j=i
  .subst D;exact⟨λh=>Cf h aw,λh=>G⟩
  .unfold Ys at u
   rcases List.mem_append.1 u with u|u
   .obtain⟨x,S,bb⟩:=List.mem_filterMap.1 u
    have:x=.tmp t:=by cases x<;>simp at bb;rw[bb]
    subst this;exact Ic CV.closed hr D (av.tmp i o t O (.inr (by simpa using S)) j hj D)
   .cases n:o.guard with
    |none=>rw[n] at u;cases u
    |
     some gw=>
     obtain⟨g,bq⟩:=gw;rw[n] at u ba;obtain⟨og,t',br,hd,bs⟩:=Aax ba;simp[br,CC,hd,Option.toList_some,List.mem_singleton] at u;subst u;have:=bs j hj;subst this;obtain⟨e,he,al,hb⟩:=av.guard i o j bq O n;have bc:=bm e he hb;have ai:=av.lt i o e O he hb;rw[al] at bc ai;exact⟨λ_=>ai,λ_=>bc⟩
 have az:∀t j,WT AU i t->WT AU j t->j≠i->(On L j↔j<i):=by
  intro t j bt am bd;obtain⟨o',be,hd⟩:=bt;rw[O] at be;cases be;exact Ic CV.closed hr bd (av.tmp i o t O (.inl hd) j am bd)
 have ax:Tv (ρ.cut (R i)) ⟨RX (F i).tm (o.looksAt AU),(F i).sz,[]⟩ a:=by
  refine⟨by show(F i).sz=_;rw[(r.sz (Bf U)).1,CV.sz],λt v hv=>?_⟩;rw[NJ] at hv;by_cases u:t∈o.looksAt AU
  .rw[Bi u] at hv
   obtain⟨v',A,K⟩:=CV.tm t i v (Bf U) (bp t u) hv;obtain⟨_,_,h3⟩:=ah.aF.2 t v hv;exact⟨v',A,K.cut h3⟩
  .rw[Bm u] at hv;cases hv
 have bf:∀x∈o.op.operands,ev τ ⟨RX (F i).tm (o.looksAt AU),(F i).sz,[]⟩ x=ev τ (F i) x:=by
  intro x S;cases x with
  |
   tmp t=>
   show(RX (F i).tm (o.looksAt AU)).get t=(F i).tm.get t;have hm:t∈o.looksAt AU:=by unfold Ys;exact DW _ (List.mem_filterMap.2 ⟨.tmp t,by simpa using S,B⟩)
   rw[NJ,Bi hm]
  |_=>rfl
 have bg:E5 ⟨RX (F i).tm (o.looksAt AU),(F i).sz,[]⟩ AU.toList o.guard=E5 (F i) AU.toList o.guard:=by
  refine WD λj wn t n u=>?_;rw[NJ,Bi (by unfold Ys;exact List.mem_append_right _ (by simp only[n];simp[u]):t∈o.looksAt AU)]
 unfold wpOpIn;simp[O];rcases bn with⟨hw,J,an,hH,hE,bu⟩|⟨hw,aa,hH,hE⟩
 ·
  have a1:=Kn ax (bg.trans hw) o B;rw[Bi a1];have bv:∀c,o.op≠.defer c:=by
   intro c bw;rw[bw] at an;simp[F9,Ch] at an
  have bh:=Oper.semAt_eq ro' a.eval o bv;by_cases V:∃b t,E i=.lk b t
  ·
   obtain⟨b,t,V⟩:=V;obtain⟨mo,xo,cb,bx⟩:=Uu (hE.symm.trans V);have hb:b<(H i).nx:=by
    have hv:=EK ah.hk ah.aF bx;generalize aT.eval mo=z at hv;cases hv with|map e=>exact r.bi (Bf U) e
   have cc:=r.aA (Bf U) (Ae _);obtain⟨m,m1,m2,m3⟩:=far r CV (id:=b) G;have bi:∀k,k<AU.size->Wr H E k b->k≠i->¬(On L k↔k<i)->∃s,E k=.wr s (I t):=by
    intro k hk ab aj bz;obtain⟨_,s,⟨me,M⟩,W⟩:=ab;cases a2:ZU t me with
    |false=>exact Cf (Ic CV.closed hr aj (OM _ _ _ (Nv r hk U aj M (.inr (.inr (.inr ⟨b,t,V,W,a2⟩)))))) bz
    |
     true=>
     cases me with
     |none=>cases a2
     |some t'=>have:=Af a2;subst this;exact⟨s,M⟩
   have bj:¬Wr H E i b:=λ⟨_,s,⟨me,M⟩,_⟩=>by rw[V] at M;cases M
   have b0:I3 τ t b ((H m).t.get b) ((H i).t.get b):=by
    rcases A8 i m with a3|a3
    .refine(VU r (Bf a3) m1 hb λk A K ab=>?_).symm
     have aj:k≠i:=λe=>bj (e▸ab);exact bi k G ab aj λW=>by
      have:=W.1 ((m3 k G ab).2 K);omega
    .refine VU r a3 (Bf U) m2 λk A K ab=>?_
     have aj:k≠i:=λe=>bj (e▸ab);exact bi k G ab aj λW=>by
      have:=(m3 k G ab).1 (W.2 K);omega
   have b1:∃X:Ev.T HB,X.get b=(H m).t.get b/\∀id hb,X.get id=I hb->id=b:=by
    cases hb:(H m).t.get b with
    |none=>exact⟨.nil,B,λid hb h=>by cases h⟩
    |some x=>exact⟨Ev.T.nil.ins b x,Ev.T.ao _ _ _,λid hb h=>by
     rw[Ev.T.dA] at h;by_cases W:id=b
     .exact W
     .rw[Bm W,Ev.T.get_nil] at h;cases h⟩
   obtain⟨X,t1,t2⟩:=b1;obtain⟨v,hq⟩:=Afa (hE.symm.trans V) an;have A:=hq (H i).ad (DK (F i) o) DP (I3.refl _ _ _);have b2:=A.symm.trans an;obtain⟨aa,_⟩:=Qw b2;have h3:=hq ⟨X,(H AU.size).nx,.no⟩ (DK (F i) o) DP (by show I3 τ t b (X.get b) _;rw[t1];exact b0);have q3:F9 τ call ⟨RX (F i).tm (o.looksAt AU),(F i).sz,[]⟩ ⟨X,(H AU.size).nx,.no⟩ o.op (DK (F i) o) DP=I [.aE (F (i+1)) ⟨X,(H AU.size).nx,.no⟩]:=by
    rw[L7 bf,h3];simp only[DK,aa]
   have b3:∀id pl,ρ id=I pl->id<(H AU.size).nx:=λid pl e=>by
    obtain⟨pl',h⟩:=CV.bi id pl e;exact r.bi (Ae _) h
   have a4:C5 P τ ρ ⟨X,(H AU.size).nx,.no⟩ w:=by
    refine⟨⟨λid l=>?_,λid pl a5 e eH=>?_,CV.aC,λx y px py S ex ey ae a6 b4=>?_,λg n=>?_⟩,Ao r.ng (r.aA (Al _) (Ae _))⟩
    .have l:(H AU.size).nx<=id:=l
     cases ao:ρ id with
     |none=>rfl
     |some pl=>have:=b3 id pl ao;omega
    .have eH:X.get id=I a5:=eH
     have:=t2 id a5 eH;subst this;rw[t1] at eH;exact CV.mem id pl a5 m m1 e m2 m3 eH
    .have ae:X.get x=I S:=ae
     have:=t2 x S ae;subst this;rw[t1] at ae;exact CV.ord x y px py S m m1 ex ey a6 b4 m2 m3 ae
    .rw[CV.ext g (AC n r.ng)];exact a9 g n
   have ap:=ND T hc a4 (ax.mono (Ren.bO _ _)) q3;rw[←bh] at ap;have cd:=(r.aE i U).lk b t V;refine LG ap (λv' w' N=>?_) (λch w' N=>?_) (λw' N=>N)
   .obtain⟨af,v,A,o1,k1,k2,k3,k4,k5⟩:=N
    obtain⟨aa,rfl⟩:=P4 k4 k5;have q:=k3.br;refine⟨ρ,CV.next r hr U O az aa (λa7=>?_) (λ_ _=>rfl) (Ren.le_refl ρ) CV.bi (λid pl e=>AC (CV.aC id pl e) q.size) q.size (λb hb _=>q.ae b hb λ_ _ h=>h.elim) (λid pl A K e=>G) (λid pl hb p e n=>?_) (λid a8 pl pl' hb ai J p e e' al n=>?_) q.os q.out q.tape q.drawn⟩
    .obtain⟨d,hd⟩:=Option.isSome_iff_exists.1 a7
     obtain⟨_,_,h3⟩:=ay.aF.2 d v ((JG aa).2.2.2 d hd).2;refine(k1.cut h3).mono λid pl e=>?_;obtain⟨e1,_,e2⟩:=Ren.aM e;have l:id<(H (i+1)).nx:=r.bi U e2;rw[q.ext id (by show id<(H AU.size).nx;omega)] at e1;exact e1
    .rcases p with p|p
     .omega
     .obtain⟨_,s,⟨me,M⟩,_⟩:=p;rw[V] at M;cases M
    .rcases p with p|p
     .omega
     .obtain⟨_,s,⟨me,M⟩,_⟩:=p;rw[V] at M;cases M
   .obtain⟨_,_,_,_,_,_,_,_,_,hb,_⟩:=N;cases hb
  obtain⟨hq,ce,q1,q2,q3,q4,q5,q6,q7,q8⟩:=Ahe bf an hH hE bu λa t h=>V ⟨a,t,h⟩;have a4:C5 P τ (ρ.cut (R i)) hq w:=by
   refine⟨⟨λid l=>?_,λid pl hb e eH=>?_,λid pl e=>CV.aC id pl (Ren.bO _ _ _ _ e),λx y px py S ex ey ae a6 hb=>?_,λg n=>?_⟩,by rw[q1];exact Ao r.ng (r.aA (Al i) (Bf U))⟩
   .unfold Ren.cut
    rw[ah.hk.1.fresh id (by rw[q1] at l;exact l)];rfl
   .obtain⟨ag,pl',eR⟩:=Ren.aM e
    obtain⟨g1,g2⟩:=q5 id hb eH;have l:=r.bi (Bf U) eR;refine(CV.mem id pl hb i (Bf U) ag l (λj hj am=>?_) g1).cut (ah.hk.1.hr id pl' hb eR g1);by_cases D:j=i
    .subst D;exact⟨λh=>Cf h aw,λh=>G⟩
    .obtain⟨_,lo,⟨me,C⟩,aq⟩:=am
     refine Ic CV.closed hr D (OM _ _ _ (Nv r hj U D C ?_));rcases g2 with h|h|h
     .exact .inr (.inl h)
     .exact .inl h
     .exact .inr (.inr (.inl ⟨id,h,aq⟩))
   .obtain⟨ag,_,eR⟩:=Ren.aM ex
    obtain⟨g1,g2⟩:=q5 x S ae;refine CV.ord x y px py S i (Bf U) ag (Ren.bO _ _ _ _ ey) a6 hb (r.bi (Bf U) eR) (λj hj am=>?_) g1;by_cases D:j=i
    .subst D;exact⟨λh=>Cf h aw,λh=>G⟩
    .obtain⟨_,lo,⟨me,C⟩,aq⟩:=am
     refine Ic CV.closed hr D (OM _ _ _ (Nv r hj U D C ?_));rcases g2 with h|h|h
     .exact .inr (.inl h)
     .exact .inl h
     .exact .inr (.inr (.inl ⟨x,h,aq⟩))
   .have A:=CV.ext g (AC n r.ng)
    exact Ren.aN (A.trans (a9 g n)) (ah.hk.1.aS g n)
  have ap:=ND T hc a4 ax q3;rw[←bh] at ap;refine LG ap (λv' w' N=>?_) (λch w' N=>?_) (λw' N=>N)
  .obtain⟨af,v,A,o1,k1,k2,k3,k4,k5⟩:=N
   obtain⟨aa,rfl⟩:=P4 k4 k5;have q:=k3.br;rw[q1] at q
   let ar:Ren:=λid=>if id<(H (i+1)).nx then af.cut (R (i+1)) id else ρ id
   have bk:(af.cut (R (i+1))).le ar:=by
    intro id pl e;obtain⟨_,_,eR⟩:=Ren.aM e;show(if id<(H (i+1)).nx then af.cut (R (i+1)) id else ρ id)=I pl
    rw[Bi (r.bi U eR)];exact e
   have old:∀id,id<(H i).nx\/(H (i+1)).nx<=id->ar id=ρ id:=by
    intro id l;show(if id<(H (i+1)).nx then af.cut (R (i+1)) id else ρ id)=ρ id
    rcases l with l|l
    .rw[Bi G]
     unfold Ren.cut;rw[r.ext i U id l,q.ext id l];unfold Ren.cut;cases hR:R i id with
     |some pl=>simp
     |
      none=>
      simp only[Option.isSome_none,BE,if_false];cases ao:ρ id with
      |none=>rfl
      |some pl=>obtain⟨pl',h⟩:=CV.bi id pl ao;rw[(λh=>r.cX (Bf U) (Ae _) h:∀{id:Nat},id<(H i).nx->R AU.size id=R i id) l,hR] at h;cases h
    .rw[Bm G]
   have b5:∀id,(H i).nx<=id->id<(H (i+1)).nx->ρ id=none:=by
    intro id A K;cases ao:ρ id with
    |none=>rfl
    |
     some pl=>
     rcases CV.made id pl ao with h|⟨j,j1,j2,j3,j4⟩
     .have:=r.aA (Al i) (Bf U);omega
     .have:=r.bK j1 U j3 j4 A K;subst this;exact Cf j2 aw
   have aq:ρ.le ar:=by
    intro id pl e;by_cases l:id<(H i).nx\/(H (i+1)).nx<=id
    .rw[old id l];exact e
    .rw[b5 id G G] at e;cases e
   have ak:∀{id pl},ar id=I pl->id<(H (i+1)).nx->af id=I pl/\∃pl',R (i+1) id=I pl':=by
    intro id pl e l;have e:(if id<(H (i+1)).nx then af.cut (R (i+1)) id else ρ id)=I pl:=e
    rw[Bi l] at e;exact Ren.aM e
   have bl:∀{id},((H i).nx<=id/\id<(H (i+1)).nx)\/Wr H E i id->id<(H (i+1)).nx:=by
    intro id h;rcases h with h|h
    .exact h.2
    .exact AC h.1 bo
   refine⟨ar,CV.next r hr U O az aa (λa7=>?_) old aq (λid pl e=>?_) (λid pl e=>?_) q.size (λb hb W=>?_) (λid pl A K e=>?_) (λid pl hb p e n=>?_) (λid a8 pl pl' hb ai J p e e' al n=>?_) q.os q.out q.tape q.drawn⟩
   .obtain⟨d,hd⟩:=Option.isSome_iff_exists.1 a7
    obtain⟨_,_,h3⟩:=ay.aF.2 d v ((JG aa).2.2.2 d hd).2;exact(k1.cut h3).mono bk
   .by_cases l:id<(H (i+1)).nx
    .obtain⟨_,pl',h⟩:=ak e l
     exact⟨pl',by rw[r.cX U (Ae _) l];exact h⟩
    .rw[old id (.inr G)] at e;exact CV.bi id pl e
   .by_cases l:id<(H (i+1)).nx
    .exact k2.1.aC id pl (ak e l).1
    .rw[old id (.inr G)] at e;exact AC (CV.aC id pl e) q.size
   .refine q.ae b hb λid pl C e=>?_
    obtain⟨ag,_,eR⟩:=Ren.aM e;have l:=r.bi (Bf U) eR;refine W id pl l ?_ ag;by_cases au:∃lo,Ws E i lo
    .obtain⟨lo,ad⟩:=au
     exact⟨lo,ad,by rw[←q7 lo ad];exact C⟩
    .exact Cf C (q8 (λlo ad=>au ⟨lo,ad⟩) id l)
   .rcases q.new id pl A (ak e K).1 with h|⟨j,pj,j1,j2,j3⟩
    .exact .inl h
    .obtain⟨ag,_,eR⟩:=Ren.aM j2
     have l:=r.bi (Bf U) eR;by_cases au:∃lo,Ws E i lo
     .obtain⟨lo,ad⟩:=au
      exact .inr ⟨j,pj,lo,ad,by rw[←q7 lo ad];exact j1,l,ag,j3⟩
     .exact Cf j1 (q8 (λlo ad=>au ⟨lo,ad⟩) j l)
   .have l:=bl p
    obtain⟨e1,pl',e2⟩:=ak e l;have b6:=k2.1.hr id pl hb e1 (by rw[q6 id p];exact n);have b7:=ay.hk.1.hr id pl' hb e2 n;exact(b6.cut b7).mono bk B
   .have l:=bl p
    exact k2.1.ord id a8 pl pl' hb (ak e l).1 (ak e' J).1 (by rw[q6 id p];exact n) ai al
  .obtain⟨_,_,_,_,_,_,_,_,_,hb,_⟩:=N;cases hb
 ·
  have a1:=Kn ax (bg.trans hw) o B;rw[Bm (by rw[a1];simp)];refine⟨λf _=>Vb ro' f,ρ,?_⟩;have cf:(H (i+1)).nx=(H i).nx:=by rw[hH]
  refine CV.next r hr U O az aa (λ_=>OR) (λ_ _=>rfl) (Ren.le_refl ρ) CV.bi CV.aC (Ae _) (λ_ _ _=>rfl) (λid pl A K e=>G) (λid pl hb p e n=>?_) (λid a8 pl pl' hb ai J p e e' al n=>?_) B B B (Ae _)
  .rcases p with p|⟨_,lo,⟨me,C⟩,_⟩
   .omega
   .rw[hE] at C;cases C
  .rcases p with p|⟨_,lo,⟨me,C⟩,_⟩
   .omega
   .rw[hE] at C;cases C
def left(n:Nat) (L:Array Bool):Nat:=(BG n).countP λj=>!L.getD j Ah
def V1 {L:Array Bool} {i:Nat} (U:i<n) (c:i<L.size) (d:¬On L i):left n (L.setIfInBounds i Ag)<left n L:=by
 have Cw:∀l:Bo,i∈l->l.countP (λj=>!(L.setIfInBounds i Ag).getD j Ah)<l.countP (λj=>!L.getD j Ah):=by
  have e:∀l:Bo,l.countP (λj=>!(L.setIfInBounds i Ag).getD j Ah)<=l.countP (λj=>!L.getD j Ah):=λl=>
   List.countP_mono_left λj _ h=>by
    have:¬On L j:=λa=>(by simpa[On] using h:¬On (L.setIfInBounds i Ag) j) ((I9 c).2 (.inl a));simpa[On] using this
  intro l
  induction l with
  |nil=>intro h;cases h
  |
   cons x l f=>
   intro h;rw[Amu,Amu];by_cases b:x=i
   .subst b
    have g:(L.setIfInBounds x Ag).getD x Ah=true:=(I9 c).2 (.inr B);rw[g,(by simpa[On] using d:L.getD x Ah=Ah)];have:=e l;simp only[Qf,Kz,BE,if_false,if_true];omega
   .have:=f ((List.mem_cons.1 h).resolve_left λa=>b a.symm)
    rw[(getD_set_ne Ah λa=>b a.symm:(L.setIfInBounds i Ag).getD x Ah=L.getD x Ah)];omega
 exact Cw _ Jq
def Aua (c:Xp AU) (k:L.size=AU.size) (h:CQ .any AU L=[]):∀j,j<AU.size->On L j:=by
 intro j
 induction j using Nat.strongRecOn with
 |
  _ j d=>
  intro a;refine Classical.byContradiction λf=>?_;have b:j∈CQ .any AU L:=by
   refine mem_ready.2 ⟨?_,AU[j],By a,λe g hb=>?_⟩
   .have:L.getD j Ah=false:=by simpa[On] using f
    rw[Bh,By (G:j<L.size)] at this⊢;simpa using this
   .have i:=c.lt j AU[j] e (By a) g hb
    exact d e.on i G
  rw[h] at b;cases b
def J6 (T:BM P τ) (d:C8 P τ call):MR P τ call:=by
 intro ar AU K fr h a w ρ outs ro' af st hu;have ab:=Axx af;obtain⟨F,H,E,rfl,rfl,ag,_,ah,hk⟩:=Aao AU.toList 0 rfl [] fr h outs hu;obtain⟨R,r0,r⟩:=ACp T d st (λj o V=>ag j o (Al _) V) (λx y A hy d=>ah x y (Al _) A hy d);have Cw:∀(C:Nat) (L:Array Bool) (c:Ren) (a1:FP) (f:AM),PK P AU F H E R ρ a w L c a1 f->left AU.size L<=C->wpAnyIn (Fw ro') 0 P .any AU (QK P τ ρ w (H 0) K outs) C L a1 f:=by
  have Da:∀(L:Array Bool) (c:Ren) (a1:FP) (f:AM),PK P AU F H E R ρ a w L c a1 f->CQ .any AU L=[]->QK P τ ρ w (H 0) K outs .normal a1 f:=by
   intro L c a1 f CV k;have ai:=Aua ab CV.size k;have ad:∀id,Cnd AU H E L AU.size id:=λid j b _=>Jq;have s:∀id pl,c id=I pl->id<(H AU.size).nx:=by
    intro id pl e;rcases CV.made id pl e with h|⟨j,j1,j2,j3,j4⟩
    .exact AC h (r.aA (Al _) (Ae _))
    .exact AC j4 (r.aA j1 (Ae _))
   have aj:ρ.le c:=by
    intro id pl e;have:id<(H 0).nx:=BB λu=>by rw[st.hk.1.fresh id u] at e;cases e
    rw[CV.ext id this];exact e
   have W:=r.aA (Al _) (Ae AU.size);refine⟨c,F AU.size,H AU.size,outs,⟨⟨⟨λid D=>?_,λid pl hb e eH=>CV.mem id pl hb _ Jq e (s id pl e) (ad id) eH,CV.aC,λx y px X M N ey ak A hb=>CV.ord x y px X M _ Jq N ey A hb (s x px N) (ad x) ak,λg p=>?_⟩,Ao r.ng W⟩,⟨?_,λt v Q=>?_⟩,?_⟩,
    ⟨⟨CV.ext,CV.bX,CV.ae,CV.new,W,CV.os,CV.out,CV.tape,CV.drawn⟩,W,r.lo_le Jq Jq,λid D al=>?_⟩,λ_ M=>M,hk⟩
   .cases am:c id with
    |none=>rfl
    |some pl=>have:=s id pl am;omega
   .rw[CV.ext g (AC p r.ng)];exact st.hk.1.aS g p
   .show(F AU.size).sz=_
    rw[(r.sz (Ae _)).1];exact CV.sz
   .exact CV.tm t AU.size v Jq (λj b=>⟨λ_=>let⟨o,V,_⟩:=b;(Array.getElem?_eq_some_iff.1 V).1,λu=>ai j u⟩) Q
   .show DR c (F AU.size).ds a1.defers
    rw[(r.sz (Ae _)).2,CV.ds];exact st.ds.mono aj
   .refine r.same Jq Jq D λj _ b an=>?_
    obtain⟨_,lo,hE,ao⟩:=an;exact al (r.lo_le b (Ae _) _ ((r.aE j b).wr lo hE _ ao))
  intro C
  induction C with
  |
   zero=>
   intro L c a1 f CV hl;have k:CQ .any AU L=[]:=by
    cases ap:CQ .any AU L with
    |nil=>rfl
    |
     cons i l=>
     have k:i∈CQ .any AU L:=by rw[ap];exact Av
     obtain⟨O,S,_⟩:=Ie k;have:=V1 (n:=AU.size) (by rw[←CV.size];exact O) O S;omega
   exact⟨k,Da L c a1 f CV k⟩
  |
   succ C ih=>
   intro L c a1 f CV hl;refine⟨Da L c a1 f CV,λi k=>?_⟩;obtain⟨O,S,_⟩:=Ie k;have s:=V1 (n:=AU.size) Jq O S;refine wpOpIn_mono (λa2 w2 u=>?_) (Amg T d ab r st.hk.1.aS CV k);obtain⟨FS,aq⟩:=u;exact ih _ FS a2 w2 aq G
 refine wpIn_region_any T.mixed (Cw _ _ ρ a _ ?_ ?_)
 .have aa:∀j,¬On (Cz AU.size Ah) j:=by
   intro j b;unfold On at b;rw[Bh] at b;by_cases s:j<AU.size
   .rw[By (by simpa using s)] at b;simp at b
   .rw[Dr (by simpa using s)] at b;simp at b
  have z:∀id pl,ρ id=I pl->id<(H 0).nx:=λid pl e=>BB λu=>by rw[st.hk.1.fresh id u] at e;cases e
  have ae:∀{m id},m<=AU.size->Cnd AU H E (Cz AU.size Ah) m id->∀j,0<=j->j<m->¬Wr H E j id:=λq d j _ b hw=>aa j ((d j G hw).2 b);refine⟨by simp,λj o e _ _ _ b=>Cf b (aa j),st.aF.1,λt m v q d Q=>?_,B,st.hk.1.aC,λid pl e=>.inl (z id pl e),λ_ _=>rfl,λid pl e=>?_,λid pl hb m q e D d p=>?_,λx y px X M m q N ey A hb D d p=>?_,λid au pl pl' j b O S _ e _ _=>?_,Ae _,λ_ _ _=>rfl,λid pl D e=>?_,B,B,B,Yr _⟩
  .rw[r.tm (Al m) q λj _ b hw=>aa j ((d j hw).2 b)] at Q
   exact st.aF.2 t v Q
  .refine⟨pl,?_⟩
   rw[r.cX (Al _) (Ae _) (z id pl e),r0];exact e
  .rw[r.same (Al m) q (z id pl e) (ae q d)] at p
   exact(st.hk.1.hr id pl hb e p).mono (Ren.le_refl ρ) B
  .rw[r.same (Al m) q (z x px N) (ae q d)] at p
   exact st.hk.1.ord x y px X M N ey p A hb
  .have:=z id pl e
   have:=r.aA (Al j) (Bf b);omega
  .have:=z id pl e;omega
 .unfold left
  exact Ao List.countP_le_length (by simp)
end
def S3 {LU:AH->AH->Option Int} {x:AH}:∀{l l':List AH},Xk LU x l=I l'->l'.Perm (x::l)
 |[],l',h=>by simp only[Xk,Option.some.injEq] at h;subst h;exact .refl _
 |
  y::l,l',h=>by
  simp only[Xk] at h;split at h
  case h_2=>cases h
  rcases XD h with h|h
  .cases h;exact .refl _
  .split at h
   case h_2=>cases h
   rename_i b a;cases h;exact((S3 a).cons y).trans (.swap x y l)
def Rc {LU:AH->AH->Option Int}:∀{l l':List AH},Pc LU l=I l'->l'.Perm l
 |[],l',h=>by simp only[Pc,Option.some.injEq] at h;subst h;exact .refl _
 |
  x::l,l',h=>by
  simp only[Pc] at h;split at h
  case h_2=>cases h
  rename_i b a;exact(S3 h).trans ((Rc a).cons x)
def Ry {LU:AH->AH->Option Int}:∀{l:List AH},MQ LU l=Ag->∀(i j:Nat) (x y:AH),l[i]?=I x->l[j]?=I y->∃c,LU x y=I c/\(c<0↔i<j)
 |[],_,i,j,x,y,U,_=>by simp at U
 |
  z::l,h,i,j,x,y,U,f=>by
  simp only[MQ,An] at h;obtain⟨⟨h0,o⟩,q⟩:=h;have p:∀{m:List AH},Ot LU z m=Ag->∀(k:Nat) (u:AH),m[k]?=I u->(∃c,LU z u=I c/\c<0)/\∃c,LU u z=I c/\¬c<0:=by
   intro m
   induction m with
   |nil=>intro _ k u g;simp at g
   |
    cons v m r=>
    intro b k u g;simp only[Ot] at b;split at b
    case h_2=>cases b
    rename_i c d a s;simp only[An] at b;cases k with
    |
     zero=>
     cases g;refine⟨⟨c,a,GJ.1 b.1.1⟩,d,s,λe=>?_⟩;have:=GJ.2 e;rw[this] at b;simp at b
    |succ k=>exact r b.2 k u (by simpa using g)
  cases i with
  |
   zero=>
   cases U;cases j with
   |
    zero=>
    cases f;split at h0
    case h_2=>cases h0
    rename_i c a;refine⟨c,a,λe=>?_,λe=>G⟩;have:=GJ.2 e;rw[this] at h0;cases h0
   |
    succ j=>
    obtain⟨⟨c,a,n⟩,_⟩:=p o j y (by simpa using f);exact⟨c,a,λ_=>G,λ_=>n⟩
  |
   succ i=>
   cases j with
   |
    zero=>
    cases f;obtain⟨_,c,a,n⟩:=p o i x (by simpa using U);exact⟨c,a,λe=>Cf e n,λe=>G⟩
   |
    succ j=>
    obtain⟨c,a,t⟩:=Ry q i j x y (by simpa using U) (by simpa using f);exact⟨c,a,G⟩
section
variable{P:AN} {τ:Bb} {ρ:Ren} {h:Y} {w:AM}
def XU (T:BM P τ) (m:C8 P τ call) {g:Au} (hb:EV τ g=Ag) {a b:AH} {c:Int} (d:Nd call g nx a b=I c) (n:a.all plainCell=Ag) (hb':b.all plainCell=Ag)
 (W:AM) (j:C5 P τ ρ ⟨.nil,nx,.no⟩ W):Calls P g #[.agg ⟨a⟩,.agg ⟨b⟩] W λe w'=>e=.returned (.int .i64 c)/\∃q o,w'=Go.Sort.grow (W.drewN q) o:=by
 unfold Nd at d;split at d
 case h_2=>cases d
 rename_i O J p;obtain⟨r,d⟩:=C1 d;cases d;have s:LR ρ [.agg ⟨a⟩,.agg ⟨b⟩] [.agg ⟨a⟩,.agg ⟨b⟩]:=.cons (.agg (LR.ak n)) (.cons (.agg (LR.ak hb')) .nil);have h:=m (.func g) (.func g) _ _ _ _ _ _ ρ W j (.func g) s p;unfold EV at hb;split at hb
 case h_2=>cases hb
 rename_i fn k;obtain⟨cd,t⟩:=Option.isSome_iff_exists.1 hb;have u:=MuLone.run_callFunc_enter (P:=P) (T.fn _ _ k).1 ((T.fn _ _ k).2 hb) t ⟨[.agg ⟨a⟩,.agg ⟨b⟩]⟩ W;unfold Hk at h;simp only[LW] at h;rw[u] at h;refine(callsIn_wide.1 h).mono λe w' i=>?_;cases e with
 |outgrown=>exact i.elim
 |panicked Q=>obtain⟨_,_,_,_,_,_,_,_,_,hb,_⟩:=i;cases hb
 |
  returned v'=>
  obtain⟨C2,v,R,S,w,V,x,y,z⟩:=i;cases y;have:=z (List.mem_singleton.2 rfl);have:=List.mem_singleton.1 this;cases this;cases w;refine⟨B,w'.drawn-W.drawn,w'.heap.extract W.heap.size w'.heap.size,?_⟩;have f:=x.br;have A:∀b,b<W.heap.size->w'.heap[b]?=W.heap[b]?:=λb hb=>f.ae b hb λid pl C e=>by
   have D:id<nx:=BB λE=>by rw[j.1.fresh id E] at e;cases e
   exact Cf C (GO r D)
  have F:w'.heap=W.heap++w'.heap.extract W.heap.size w'.heap.size:=by
   apply JN;intro b;rcases A8 b W.heap.size with l|H
   .rw[KP l,A b l]
   .rw[Array.getElem?_append_right H,Array.getElem?_extract]
    have X:=f.size;by_cases hb:b<w'.heap.size
    .rw[Bi G];congr 1;omega
    .rw[Bm G,Dr G]
  have K:=f.os;have L:=f.out;have M:=f.tape;have N:=f.drawn;cases w' with
  |
   mk i tp dr os aa=>
   simp only at F K L M N;simp only[Go.Sort.grow,World.drewN];congr 1;omega
end
def IL {c:Type}:∀(l:List (List c)),(∀g∈l,g.length=k)->∀j,j<l.length*k->l.flatten[j]?=(l[j/k]?).bind λg=>g[j%k]?
 |[],_,j,h=>by simp at h
 |
  g::l,a,j,h=>by
  have d:g.length=k:=a g Av;have e:0<k:=by
   rcases KQ k with h0|h0
   .subst h0;simp at h
   .exact h0
  rw[JR];by_cases b:j<k
  .rw[AB G,Nat.div_eq_of_lt b,JQ b];rfl
  .rw[Bq G,d]
   have J:j-k<l.length*k:=by
    simp only[AO,Dw,Nat.one_mul] at h;omega
   rw[IL l (λf i=>a f (Az _ i)) (j-k) J];have m:j/k=(j-k)/k+1:=Nat.div_eq_sub_div e G;have n:j%k=(j-k)%k:=by rw[Nat.mod_eq_sub_mod G]
   rw[m,n,B5]
def IU {b:Type}:∀(l:List (List b)),(∀g∈l,g.length=k)->l.flatten.length=l.length*k
 |[],_=>by simp
 |
  g::l,a=>by
  rw[JR,Aj,IU l λc d=>a c (Az _ d),a g Av,AO,Dw,Nat.one_mul];omega
def SC {a:Type} [Inhabited a] (Cr:a->AH) (d:Array a) (h:j<d.size*k):(Go.Sort.flatK Cr k d)[j]! =(Cr d[j/k]!)[j%k]!:=by
 unfold Go.Sort.flatK;rw[getElem!_pos (ZA _ _) j (by simpa using h)];simp
def Sa (h:plainCell v=Ag):v.oneCell'=true:=by
 unfold plainCell at h;split at h<;>first
  |rfl
  |cases h
def LK {c:Ev.T Aa}:∀{n off:Nat} {b:List AH},HF k c off n=I b->b.length=n/\(∀g∈b,g.length=k)/\∀(j:Nat) v,b.flatten[j]?=I v->c.get (off+j)=I v
 |0,off,b,h=>by cases h;exact⟨B,(λg d=>by cases d),λj v a=>by simp at a⟩
 |
  n+1,off,b,h=>by
  rw[HF] at h;split at h
  .rename_i g l d f
   cases h;obtain⟨i,m,o⟩:=LK f;obtain⟨p,q⟩:=FN _ _ _ _ d;refine⟨by rw[AO,i],λx e=>?_,λj v a=>?_⟩
   .rcases List.mem_cons.1 e with rfl|e
    .exact p
    .exact m x e
   .rw[JR] at a
    rcases A8 j g.length with r|s
    .rw[AB r] at a
     exact q j v a
    .rw[Bq s] at a
     have:=o _ v a;rw[show off+k+(j-g.length)=off+j by omega] at this;exact this
  .cases h
section
variable{P:AN} {τ:Bb}
open Go.Sort Go.Proofs Go.Shelf
def Ami (T:BM P τ) {D:Go.Shelf.Ren} (L:SlLaysF0.n6 P D) (he:D.t 24=e) (aE:∀w,(isAgg e).run P w=.ok Ag w) (aa:EV τ (D.f 6)=Ag) (hc:C8 P τ call) {ρ:Go.Ev.Ren} (H:C5 P τ ρ h w) (E:LR ρ args AP) (d:IA τ e call args h=I (v,J)) (k kp:Aa->Y->RR) (outs:List EO) (ap:k v J=I outs):
 Hk P (callFunc (D.f 6) ⟨AP⟩) w (Ho P τ ρ w h k kp outs):=by
 have aq:∀x y w,(callFunc (D.f 6) ⟨[x,y]⟩).run P w=.ok (.enter (D.f 6) ⟨[x,y]⟩) w:=λx y w=>by
  unfold EV at aa;split at aa
  case h_2=>cases aa
  rename_i fn R;obtain⟨cd,ai⟩:=Option.isSome_iff_exists.1 aa;exact MuLone.run_callFunc_enter (T.fn _ _ R).1 ((T.fn _ _ R).2 aa) ai _ w
 unfold IA at d;split at d
 case h_3=>cases d
 case h_1=>
  rename_i p cap fv;cases d;cases E with|cons s E=>
  cases E with|cons hy E=>
  cases E;have Da:∀p' aj ak,Hk P (callFunc (D.f 6) ⟨[.slice p' 0 aj,ak]⟩) w (Ho P τ ρ w h k kp outs):=λp' aj ak=>by
   unfold Hk;rw[aq];refine callsIn_wide.2 (Calls.mono (AnyF.slices_SortFunc_none L p' aj ak w) λen w' hp=>?_);obtain⟨rfl,rfl⟩:=hp;exact⟨ρ,_,_,outs,.tuple .nil,H,RF.refl H,ap,λ_ s=>s⟩
  cases s with
  |az l c=>exact Da _ _ _
  |slice e1 e2=>exact Da _ _ _
 rename_i id len cap g _;split at d
 case h_2=>cases d
 rename_i c N e' x i eH U;split at d
 case h_2=>cases d
 rename_i W hg;obtain⟨K,d⟩:=C1 d;obtain⟨K,X⟩:=Dh K;obtain⟨K,q4⟩:=Dh K;obtain⟨K,q3⟩:=Dh K;obtain⟨K,q1⟩:=Dh K;obtain⟨g0,q0⟩:=Dh K;have q0:=Ac q0;have q1:=Af q1;have q3:0<len:=by simpa[AK] using q3
 have q4:=Ac q4;subst q1;obtain⟨q2,al,s3⟩:=LK hg;split at d
 case h_2=>cases d
 rename_i r a8;obtain⟨a9,d⟩:=C1 d;cases d;cases E with|cons s E=>
 cases E with|cons hy E=>
 cases E;cases s with|@slice _ _ _ _ _ pl o' e1 e2=>
 cases hy with|func R ba bb=>
 cases R;cases ba;cases bb;have ho:o'=pl.o:=by have:=e2 G;omega
 subst ho;have bc:=T.aj _ _ U;obtain⟨C,fz,g1,b2,b3,b4,b5,b6⟩:=H.1.hr _ _ _ e1 eH;have b9:W.flatten.length=len*i.size:=by rw[IU W al,q2]
 have ar:fz.1=fz.2:=by
  rcases b5 with h|⟨h,_⟩|⟨F,S,h3⟩
  .exact h
  .cases h
  .omega
 have bd:∀j v,W.flatten[j]?=I v->C[pl.o+j]?=I v:=λj v hv=>by
  have:=s3 j v hv;rw[Ba] at this;obtain⟨_,v',d1,d2⟩:=b4 j v this;obtain⟨y,be,bf⟩:=List.mem_flatten.1 (AZ hv);rw[d2.aO (List.all_eq_true.1 (List.all_eq_true.1 g0 y be) v bf)] at d1;exact d1
 have ae:=Rc a8;have am:r.length=len:=by rw[ae.length_eq,q2]
 have af:∀x∈r,x.length=i.size:=λx s=>al x (ae.subset s);have ag:∀x∈r,x.all plainCell=true:=λx s=>List.all_eq_true.1 g0 x (ae.subset s);have bg:=Ry a9
 let Cr:Fin len->AH:=λj=>r.getD j.1 []
 haveI:Inhabited (Fin len):=⟨⟨0,q3⟩⟩
 have ab:∀j:Fin len,r[j.1]?=I (Cr j):=λj=>by
  show r[j.1]?=I (r.getD j.1 []);have:j.1<r.length:=by rw[am];exact j.2
  rw[Ak,Ab this];rfl
 have ad:∀j:Fin len,Cr j∈r:=λj=>AZ (ab j);have bh:r=(KC len).map Cr:=by
  apply List.ext_getElem?;intro j;rw[AX];by_cases o:j<len
  .rw[Ab (l:=KC len) (by simpa using o)]
   have:=ab ⟨j,o⟩;simp only at this;rw[this];simp
  .rw[CD G,CD (by simp;omega)];rfl
 obtain⟨m',au,av⟩:=HH Cr (l:=W) (m:=KC len) (by rw[←bh];exact ae.symm);have aw:m'.length=len:=by rw[av.length_eq];simp
 let V:Fin len->Fin len->Int:=λx y=>(Nd call g h.nx (Cr x) (Cr y)).getD 0
 have ax:∀x y,Nd call g h.nx (Cr x) (Cr y)=I (V x y)/\(V x y<0↔x<y):=λx y=>by
  obtain⟨c,ay,bi⟩:=bg x.1 y.1 _ _ (ab x) (ab y);have:V x y=c:=by show(Nd call g h.nx (Cr x) (Cr y)).getD 0=c;rw[ay];rfl
  rw[this];exact⟨ay,bi⟩
 have ah:∀x y,ltOf V x y=decide (x<y):=λx y=>by
  unfold ltOf;exact decide_eq_decide.2 (ax x y).2
 have hO:SWO (ltOf V):=⟨λx=>by rw[ah];simp,λx y z F S=>by rw[ah] at*;simp at*;omega,λx y z F S=>by rw[ah] at*;simp at*;omega⟩;have eg:∀args w,(callFunc g args).run P w=.ok (.enter g args) w:=by
  intro args w;unfold EV at X;split at X
  case h_2=>cases X
  rename_i fn R;obtain⟨cd,ai⟩:=Option.isSome_iff_exists.1 X;exact MuLone.run_callFunc_enter (T.fn _ _ R).1 ((T.fn _ _ R).2 X) ai args w
 have bj:∀m dk os,(sortWorldK Cr i.size w pl.b pl.o m dk os).heap.size=w.heap.size+os.size:=λm dk os=>by
  unfold sortWorldK;rw[size_grow];unfold putRowK;rw[Go.Sort.size_putRow];rfl
 have bk:=H.1.aC id pl e1;have bl:CmpLays P g #[] Cr i.size V pl.b pl.o m'.toArray.size w:=by
  intro m os dk ca x y;have bm:C5 P τ ρ ⟨.nil,h.nx,.no⟩ (sortWorldK Cr i.size w pl.b pl.o m dk os):=
   ⟨⟨H.1.fresh,λid pl hb e eH=>(by cases eH),λid pl e=>by rw[bj];have:=H.1.aC id pl e;omega,λx y px py s ex ey bn=>(by cases bn),H.1.aS⟩,H.2⟩
  have:=XU T hc X (ax x y).1 (ag _ (ad x)) (ag _ (ad y)) _ bm;simpa using this
 have hH:HoldsK Cr i.size w pl.b pl.o m'.toArray:=by
  intro j o;rw[size_flatK] at o;simp only[List.size_toArray] at o;have az:0<i.size:=by
   rcases KQ i.size with h0|h0
   .rw[h0] at o;simp at o
   .exact h0
  have M:j/i.size<m'.length:=Nat.div_lt_of_lt_mul (by rw[UI];exact o);have hf:W.flatten[j]?=I ((flatK Cr i.size m'.toArray)[j]!):=by
   rw[IL W al j (by rw[au,A4];exact o),au,AX,Ab M];have a0:j%i.size<(Cr m'[j/i.size]).length:=by rw[af _ (ad _)];exact Je _ az
   simp only[Ek,CC];rw[Ab a0];rw[SC Cr _ (by simpa using o),getElem!_pos m'.toArray (j/i.size) (by simpa using M)];simp only[List.getElem_toArray];rw[getElem!_pos (Cr m'[j/i.size]) (j%i.size) a0]
  refine⟨?_,?_⟩
  .unfold WX
   simp only[g1];rw[bd j _ hf];rfl
  .unfold World.frozen?
   simp only[g1];have:=ar;simp only[Bool.and_eq_false_imp,decide_eq_true_eq,decide_eq_false_iff_not];omega
 subst he;have a1:=AnyQ.slices_SortFunc L i.size aE (λw=>run_sizeOf bc w) Cr (λx=>af _ (ad x)) (λx u d=>Sa (List.all_eq_true.1 (ag _ (ad x)) u d)) V hO g #[] pl.b pl.o (cap+Hl Z pl) m'.toArray w eg bl hH bk (by simp;omega);unfold Hk;rw[aq];have an:m'.toArray.size=len:=by simp[aw]
 rw[an] at a1;refine callsIn_wide.2 (Calls.mono a1 λen w' hp=>?_);obtain⟨rfl,q,n,os,a2,bo,rfl⟩:=hp;have Q:q.size=len:=by rw[a2.1,an]
 have bp:q.toList.Perm m':=by
  have:=a2.2.2;simp only[Array.toList_extract,List.extract_eq_take_drop,DL,Ajb] at this
  rwa [Bj (by simp[Q]),Bj (by simp[aw])] at this
 have bq:q.toList=KC len:=by
  refine List.Perm.eq_of_pairwise (le:=λa b:Fin len=>a<=b) (λa b _ _ F S=>Fin.le_antisymm F S) ?_ ?_ (bp.trans av)
  .rw[F8]
   intro a b ha hb a3;have br:a<q.size:=by simpa using ha
   have hb':b<q.size:=by simpa using hb
   have:=bo a b (Al _) a3 G;rw[ah,getElem!_pos q a br,getElem!_pos q b hb'] at this;simp only[decide_eq_false_iff_not] at this;have:=Fin.not_lt.1 this;simpa using this
  .rw[F8]
   intro a b ha hb a3;simp[Fin.le_def];omega
 have bs:=holdsK_putRowK Cr i.size (Go.Sort.ahead w n) pl.b pl.o m'.toArray q (holdsK_ahead Cr i.size w n pl.b pl.o _ hH) (by rw[Q,an]);have bt:r.flatten.length=len*i.size:=by rw[IU r af,am]
 have bu:∀j u,r.flatten[j]?=I u->(putCells (_root_.id:Aa->Aa) pl.o (flatK Cr i.size q) C)[pl.o+j]?=I u:=by
  intro j u d;have o:j<len*i.size:=by
   have:=(List.getElem?_eq_some_iff.1 d).1;omega
  have az:0<i.size:=by
   rcases KQ i.size with h0|h0
   .rw[h0] at o;simp at o
   .exact h0
  have M:j/i.size<len:=Nat.div_lt_of_lt_mul (by rw[UI];exact o);have F:=(bs j (by rw[size_flatK,Q];exact o)).1;have bv:(flatK Cr i.size q)[j]! =u:=by
   rw[IL r af j (by rw[am];exact o),ab ⟨j/i.size,M⟩] at d;simp only[CC] at d;rw[SC Cr _ (by rw[Q];exact o),getElem!_pos q (j/i.size) (by rw[Q];exact M)];have:q[j/i.size]'(by rw[Q];exact M)=⟨j/i.size,M⟩:=by
    have S:q.toList[j/i.size]?=(KC len)[j/i.size]?:=by rw[bq]
    rw[Is,By (by rw[Q];exact M),Ab (by simpa using M)] at S;simpa using S
   rw[this];rw[UJ,d];rfl
  rw[bv] at F;unfold WX putRowK putRow mapBlock at F;simp only[B3,if_true] at F;have bw:(Go.Sort.ahead w n).heap[pl.b]?=I (Obj.cells C (D.t 24) fz):=g1;rw[bw] at F;simpa[onCells] using F
 let A:World:=putRowK Cr i.size (Go.Sort.ahead w n) pl.b pl.o q
 have a4:sortWorldK Cr i.size w pl.b pl.o n q os=grow A os:=rfl;have a5:A.heap.size=w.heap.size:=by
  show(putRow _ _ _ _ _).heap.size=_;rw[Go.Sort.size_putRow];rfl
 have bx:∀b,b≠pl.b->A.heap[b]?=w.heap[b]?:=λb hb=>by
  show(w.heap.modify pl.b _)[b]?=_;rw[B3,Bm (Ne.symm hb)]
 have bz:A.heap[pl.b]?=I (.cells (putCells (_root_.id:Aa->Aa) pl.o (flatK Cr i.size q) C) (D.t 24) fz):=by
  show(w.heap.modify pl.b _)[pl.b]?=_;rw[B3,Bi B,g1];rfl
 have ao:(putCells (_root_.id:Aa->Aa) pl.o (flatK Cr i.size q) C).size=C.size:=by simp[putCells]
 have b0:BR P ρ pl A (.cells (Ev.T.laid r.flatten 0 c) N (D.t 24) 0 0 x):=by
  refine⟨_,fz,bz,by rw[ao];exact b2,λi' b1=>by rw[ao];exact b3 i' b1,λj u d=>?_,.inl ar,λs=>by rw[ao];exact b6 s⟩;rw[Ev.T.an] at d;by_cases o:0<=j/\j<0+r.flatten.length
  .rw[Bi o] at d
   simp only[DL] at d;obtain⟨x,b7,b8⟩:=List.mem_flatten.1 (AZ d);exact⟨G,u,bu j u d,VR.av (List.all_eq_true.1 (ag x b7) _ b8)⟩
  .rw[Bm o] at d
   rw[bt] at o;have:(putCells (_root_.id:Aa->Aa) pl.o (flatK Cr i.size q) C)[pl.o+j]?=C[pl.o+j]?:=by
    unfold putCells;rw[Acj,size_flatK,Q];cases hC:C[pl.o+j]? with
    |none=>rfl
    |some x=>rw[Ek,Bm G]
   rw[this];exact b4 j u d
 obtain⟨k1,O⟩:=H.write (w':=A) (hdr:=GW _ _) e1 eH B a5 bx b0 B B B;have a6:∀b,b<A.heap.size->(grow A os).heap[b]?=A.heap[b]?:=λb hb=>by
  show(A.heap++os)[b]?=_;rw[KP hb]
 have a7:A.heap.size<=(grow A os).heap.size:=by rw[size_grow];omega
 refine⟨ρ,_,_,outs,.tuple .nil,?_,⟨?_,AF.put _ _ _⟩,ap,λ_ s=>s⟩
 .rw[a4];exact k1.grow a7 a6
 .rw[a4]
  exact⟨O.ext,Ao O.size a7,λb hb hh=>by rw[a6 b (by rw[a5];exact hb)];exact O.ae b hb hh,O.new,O.nx,O.os,O.out,O.tape,O.drawn⟩
end
section
variable{P:AN} {τ:Bb} {call:Be} {L:Nat} {ro:Option Nat}
def keyOf (o:C0):Option Tmp×Op:=(o.dst,o.op)
def Jv (τ:Bb) (call:Be) (kp:Aa->Fr->Y->RR) (k:Fr->Y->RR):List (Option Tmp×Op)->Fr->Y->RR
 |[],fr,h=>k fr h
 |(d,op)::l,fr,h=>F9 τ call fr h op (λv J=>match fr.set d v with|some Ec=>Jv τ call kp k l Ec J|none=>Z) (λv J=>kp v fr J)
def Ny:Op->Bool
 |.defer _=>Ah
 |_=>Ag
def Te {AU:List C0} {kp:Aa->Fr->Y->RR} {k:Fr->Y->RR}:∀(l:List C0),(l.all λo=>o.guard.isNone&&Ny o.op)=Ag->∀(fr:Fr) (h:Y),EX τ call ro AU kp k l fr h=Jv τ call kp k (l.map keyOf) fr h
 |[],_,fr,h=>rfl
 |
  o::l,a,fr,h=>by
  simp only[Jh,An] at a;have c:o.guard=none:=by simpa using a.1.1
  have d:=Te (kp:=kp) (k:=k) (AU:=AU) l a.2;simp only[EX,Bp,keyOf,Jv,c,E5];have e:IB τ call ro fr h o (λEc J=>EX τ call ro AU kp k l Ec J) (λv J=>kp v fr J)=
   F9 τ call fr h o.op (λv J=>match fr.set o.dst v with|some Ec=>EX τ call ro AU kp k l Ec J|none=>Z) (λv J=>kp v fr J):=by
   unfold IB;have b:=a.1.2;cases f:o.op<;>first
    |rfl
    |(rw[f] at b;cases b)
  rw[e];congr 1;funext v J;cases fr.set o.dst v with
  |none=>rfl
  |some Ec=>exact d Ec J
def Kx {AU:Array C0} (a:(AU.toList.all λo=>o.guard.isNone&&Ny o.op)=Ag) (K:Kt) (fr:Fr) (h:Y):
 B7 τ call L ro (.region id AU Ah) K fr h=Jv τ call K.p K.n (AU.toList.map keyOf) fr h:=Te AU.toList a fr h
def Fr.lay (fr:Fr) (t:Tmp) (v:Aa):Fr:=⟨fr.tm.ins t v,fr.sz,fr.ds⟩
def Fr.bB {t:Tmp} (h:t<fr.sz):fr.set (I t) v=I (fr.lay t v):=by
 unfold Fr.set;have:AD t fr.sz=true:=by rw[AK];exact h
 simp only[this];rfl
def Fr.a6 (fr:Fr) (t:Tmp) (v:Aa) (j:Tmp):(fr.lay t v).tm.get j=if j=t then I v else fr.tm.get j:=T.dA _ _ _ _
abbrev Vj:Kt:={n:=λfr h=>I [.aE fr h],x:=λ_ _ _=>Z,r:=λ_ _=>Z,p:=λ_ _ _=>Z}
def Aoe:Op->Bool
 |.call _|.next ..|.panic _=>Ah
 |_=>Ag
def Aaq {o:Op} (a:Aoe o=Ag) {fr:Fr} {h:Y} {k kp:Aa->Y->RR}:F9 τ call fr h o k kp=(match Ch τ fr h o with|some (v,J)=>k v J|none=>Z):=
 Gk (λc e=>by subst e;cases a) (λi s e=>by subst e;cases a) (λx e=>by subst e;cases a)
def GI {kp:Aa->Fr->Y->RR} {k:Fr->Y->RR} {t:Tmp} {op:Op} {l:List (Option Tmp×Op)} {fr:Fr} {h J:Y} {v:Aa} (a:Aoe op=Ag) (b:Ch τ fr h op=I (v,J)) (c:t<fr.sz):
 Jv τ call kp k ((I t,op)::l) fr h=Jv τ call kp k l (fr.lay t v) J:=by
 simp only[Jv];rw[Aaq a,b];simp only[];rw[Fr.bB c]
def R7 {kp:Aa->Fr->Y->RR} {k:Fr->Y->RR} {t:Tmp} {b:Builtin} {xs:Array BU} {a:Array Ai} {l:List (Option Tmp×Op)} {fr:Fr} {h J:Y} {vs:AH} {v:Aa}
 (c:O8 τ fr xs.toList=I vs) (d:Bx τ b a.toList vs h=I (v,J)) (e:t<fr.sz):
 Jv τ call kp k ((I t,.call ⟨.builtin b,xs,a⟩)::l) fr h=Jv τ call kp k l (fr.lay t v) J:=by
 simp only[Jv,F9,Ju,c,d];rw[Fr.bB e]
def Aaz {fr:Fr} {h:Y} {x:BU} {v:Aa} (a:ev τ fr x=I v):Ch τ fr h (.move x)=I (v,h):=by simp only[Ch,a,CN]
def Pv {fr:Fr} {h:Y} {x:BU} {v:Aa} (a:ev τ fr x=I v):Ch τ fr h (.assign x)=I (v,h):=by simp only[Ch,a,CN]
def F1 {fr:Fr} {t:Tmp} {v:Aa}:ev τ (fr.lay t v) (.tmp t)=I v:=by show(fr.lay t v).tm.get t=_;rw[Fr.a6,Bi B]
def Aas {fr:Fr} {t j:Tmp} {v:Aa} (h:j≠t):ev τ (fr.lay t v) (.tmp j)=ev τ fr (.tmp j):=by show(fr.lay t v).tm.get j=fr.tm.get j;rw[Fr.a6,Bm h]
end
def S0:A9:=⟨λ_=>Z,λ_=>Z,λ_=>Z,λ_=>Z,λ_=>Z⟩
section
variable{P:AN} {τ:Bb}
structure YB (τ:Bb) (fc:Au) (fn:BC) (A0 A1:Array C0) (ts tsl t3:Ai) (o:Nat):Prop where
 get:τ.fn.get fc=I fn
 body:∃i0 i1,fn.body=I (.seq (.region i0 A0 Ah) (.seq (.region i1 A1 Ah) .ret))
 nt:fn.ntmps=8
 rs:fn.results.toList=[.tmp 2]
 a0:A0.toList.map keyOf=[(I 2,.assign (.const (.int .i64 0)))]
 g0:(A0.toList.all λo=>o.guard.isNone&&Ny o.op)=Ag
 a1:A1.toList.map keyOf=[(I 3,.move (.tmp 0)),(I 4,.nilCheck (.tmp 3)),(I 5,.fieldAddr ts (.tmp 4) 1),(I 6,.load tsl (.tmp 5)),(I 7,.call ⟨.builtin .cap,#[.tmp 6],#[tsl]⟩),(I 2,.assign (.tmp 7))]
 g1:(A1.toList.all λo=>o.guard.isNone&&Ny o.op)=Ag
 fl:∃fs fl i2,τ.ds.get ts=I (.struct fs)/\fs.toList[1]?=I fl/\τ.aj.get fl.type=I i2/\i2.size≠0/\fl.offset=o
 sl:∃e,τ.ds.get tsl=I (.slice e)
def Ahv {l:Au} {fn:BC} {D w:Array C0} {K s t3:Ai} {o:Nat} (a:YB τ l fn D w K s t3 o) {lo:Nat} {c:T Aa} {x:Bool} {g:Nat}
 (hb:h.t.get id=I (.cells c n e lo U x)) (M:c.get o=I v) (N:v=.slice Z 0 g\/∃b f len,v=.slice (I ⟨b,f,I 0⟩) len g) (L m:Nat) (k kp:Aa->Y->RR):
 B8 τ S0 L (m+1) (.func l) [AG id 0] h k kp=k (.int .i64 (AQ g)) h:=by
 obtain⟨O,E,P⟩:=a.body;obtain⟨fs,u,Q,f1,f2,f3,f4,f5⟩:=a.fl;obtain⟨te,y⟩:=a.sl;have R:GA [AG id 0] fn.ntmps=I ⟨T.laid [AG id 0] 0 .nil,8,[]⟩:=by rw[a.nt];rfl
 have h0:B8 τ S0 L (m+1) (.func l) [AG id 0] h k kp=DY τ S0 (B8 τ S0 L m) L l [AG id 0] h k kp:=rfl;rw[h0];unfold DY;simp only[a.get,P,R]
 let f0:Fr:=⟨T.laid [AG id 0] 0 .nil,8,[]⟩
 have S:ev τ f0 (.tmp 0)=I (AG id 0):=by
  show(T.laid [AG id 0] 0 .nil).get 0=_;rw[T.an];rfl
 generalize V:(Kt.mk _ _ _ _:Kt)=d;have W:d.r=λfr h=>Iw τ S0.dv fn.results.toList fr k fr.ds h:=by rw[←V]
 show B7 τ (B8 τ S0 L m) L Z (.region O D Ah) {n:=λfr h=>B7 τ (B8 τ S0 L m) L Z (.seq (.region E w Ah) .ret) d fr h,x:=d.x,r:=d.r,p:=d.p} f0 h=_;rw[Kx a.g0,a.a0];refine(GI (v:=.int .i64 0) (J:=h) B (by exact Pv B) (show 2<8 by decide)).trans ?_
 let F:Fr:=f0.lay 2 (.int .i64 0)
 show B7 τ (B8 τ S0 L m) L Z (.region E w Ah) {n:=λfr h=>B7 τ (B8 τ S0 L m) L Z .ret d fr h,x:=d.x,r:=d.r,p:=d.p} F h=_;rw[Kx a.g1,a.a1];refine(GI (v:=AG id 0) (J:=h) B (by exact Aaz ((Aas (by decide)).trans S)) (show 3<8 by decide)).trans ?_
 let z:Fr:=F.lay 3 (AG id 0)
 refine(GI (v:=AG id 0) (J:=h) B (by
  have q:ev τ z (.tmp 3)=I (AG id 0):=F1;show Ch τ z h _=_;simp only[Ch,q,AG]) (show 4<8 by decide)).trans ?_
 let A:Fr:=z.lay 4 (AG id 0)
 refine(GI (v:=AG id (0+u.offset)) (J:=h) B (by
  have i:ev τ A (.tmp 4)=I (AG id 0):=F1;have j:Am Q.size 0=false:=Bool.eq_false_iff.2 λX=>f4 (Af X);show Ch τ A h _=_;simp only[Ch,i,AG,GM,f1,f2,f3,j,I0,CN]) (show 5<8 by decide)).trans ?_
 let C:Fr:=A.lay 5 (AG id (0+u.offset))
 refine(GI (v:=v) (J:=h) B (by
  have i:ev τ C (.tmp 5)=I (AG id (0+u.offset)):=F1;have j:Bw τ s h id (0+u.offset)=I v:=by
   simp only[Bw,hb,y,J5,I0];rw[Ba,f5];exact M
  show Ch τ C h _=_;simp only[Ch,i,AG,j,CN]) (show 6<8 by decide)).trans ?_
 let H:Fr:=C.lay 6 v
 refine(R7 (vs:=[v]) (v:=.int .i64 (AQ g)) (J:=h) (by
  have i:ev τ H (.tmp 6)=I v:=F1;show O8 τ H [.tmp 6]=_;simp only[O8,i]) (by
  have j:ZM τ [s] [v]=I (.int .i64 (AQ g)):=by
   rcases N with rfl|⟨b,f,len,rfl⟩
   .simp only[ZM,y]
   .simp only[ZM,y]
  show Bx τ .cap [s] [v] h=_;simp only[Bx,j]) (show 7<8 by decide)).trans ?_
 refine(GI (v:=.int .i64 (AQ g)) (J:=h) B (by exact Pv F1) (show 2<8 by decide)).trans ?_;show d.r _ h=_;rw[W];show Iw τ S0.dv fn.results.toList _ k [] h=_;rw[a.rs];have q:∀fr:Fr,(fr.lay 2 (.int .i64 (AQ g))).tm.get 2=I (.int .i64 (AQ g)):=λfr=>by rw[Fr.a6,Bi B]
 simp only[Iw,Ng,q,Ff]
structure Agd (τ:Bb) (A:Array C0) (fc:Au) (tb tc td:Tmp) (t3:Ai):Prop where
 a:∃tys,A.toList.map keyOf=[(I tc,.call ⟨.value (.func fc),#[.tmp tb],tys⟩),(I td,.binOp .eql t3 (.tmp tc) (.const (.int .i64 0)) t3)]
 g:(A.toList.all λo=>o.guard.isNone&&Ny o.op)=Ag
 ne:tc≠td
def XX (T:BM P τ) (aq:JX P τ S0) {W:Au} {fn:BC} {A0 A1 A:Array C0} {ts ar t3 t3':Ai} {o:Nat} {L r y:Tmp} (hf:YB τ W fn A0 A1 ts ar t3 o) (hr:Agd τ A W L r y t3'):
 J1 P τ (HG L r y o) (.region j A Ah):=by
 intro ρ h Ec h0 J a w st m K outs X;unfold HG at m;split at m
 case h_2=>cases m
 rename_i id ai;split at m
 case h_2=>cases m
 rename_i c n e lo U x hb;obtain⟨au,ha⟩:=hr.a;have aj:∀(b:Bool) (v:Aa) (D:Nat) (O:Ev.T Aa),r<h.sz->y<h.sz->O.get o=I v->(v=.slice Z 0 D\/∃b f len,v=.slice (I ⟨b,f,I 0⟩) len D)->Am D 0=b->
  (∀pl,ρ id=I pl->BR P ρ pl w (.cells O n e lo U x))->K.n ⟨(UT h.tm r).ins y (.bool b),h.sz,h.ds⟩ h0=I outs->(Code.region j A Ah).wpIn (Fw Z) 0 P (QK P τ ρ w h0 K outs) a w:=by
  intro b v D O Q R k hc av aw X
  let s:Y:=⟨h0.t.ins id (.cells O n e lo U x),h0.nx,.no⟩
  have ax:s.t.get id=I (.cells O n e lo U x):=Ev.T.ao _ _ _;have ay:C5 P τ ρ s w:=by
   refine⟨⟨st.hk.1.fresh,λi pl hb' E M=>?_,st.hk.1.aC,λi j pi pj aa E ej N ak al=>?_,st.hk.1.aS⟩,st.hk.2⟩
   .have M:(h0.t.ins id _).get i=I hb':=M
    rw[Ev.T.dA] at M;by_cases d:i=id
    .rw[Bi d] at M;cases M;subst d;exact aw pl E
    .rw[Bm d] at M;exact st.hk.1.hr i pl hb' E M
   .have N:(h0.t.ins id _).get i=I aa:=N
    rw[Ev.T.dA] at N;by_cases d:i=id
    .rw[Bi d] at N;cases N;subst d
     have:=st.hk.1.ord i j pi pj _ E ej hb ak al;cases this
    .rw[Bm d] at N;exact st.hk.1.ord i j pi pj aa E ej N ak al
  have am:=JL T aq (Va T S0) (λc hc=>J6 T hc) 5 3
  let f1:Fr:=h.lay r (.int .i64 (AQ D))
  let f2:Fr:=f1.lay y (.bool b)
  have az:B7 τ (B8 τ S0 5 3) 5 Z (.region j A Ah) Vj h s=I [.aE f2 s]:=by
   rw[Kx hr.g,ha];have g1:ev τ h (.tmp L)=I (AG id 0):=ai;have a0:Jv τ (B8 τ S0 5 3) Vj.p Vj.n [(I r,.call ⟨.value (.func W),#[.tmp L],au⟩),(I y,.binOp .eql t3' (.tmp r) (.const (.int .i64 0)) t3')] h s=
    Jv τ (B8 τ S0 5 3) Vj.p Vj.n [(I y,.binOp .eql t3' (.tmp r) (.const (.int .i64 0)) t3')] f1 s:=by
    have a2:O8 τ h (#[Operand.tmp L]:Array BU).toList=I [AG id 0]:=by
     show O8 τ h [.tmp L]=_;simp only[O8,g1]
    rw[Jv];simp only[F9,Ju,a2];show B8 τ S0 5 (2+1) (.func W) ([]++[AG id 0]++[]) s _ _=_;have:([]:AH)++[AG id 0]++[]=[AG id 0]:=rfl;rw[this,Ahv hf ax k hc];rw[Fr.bB Q]
   rw[a0];refine(GI (v:=.bool b) (J:=s) B (by
    have q:ev τ f1 (.tmp r)=I (.int .i64 (AQ D)):=F1;have q':Jo τ .eql t3' (.tmp r) (.const (.int .i64 0)) (.int .i64 (AQ D)) (.int .i64 0)=I (.bool (Am D 0)):=rfl;have a3:ev τ f1 (.const (.int .i64 0))=I (.int .i64 0):=rfl;show Ch τ f1 s _=_;simp only[Ch,q,a3,q',CN,av]) (by exact R)).trans ?_
   rfl
  refine wpIn_mono (GP T am (J6 T am) 5 (.region j A Ah) (by intro d;cases d) (ro:=Z) (ro':=Z) (⟨ay,st.aF,st.ds⟩:St P τ ρ h s a w) trivial az) λen a1 w1 hq=>?_;obtain⟨ae,fr1,h1,o1,k1,k2,k3,F⟩:=hq;cases en with
  |
   normal=>
   cases F;have:=List.mem_singleton.1 (k3 (List.mem_singleton.2 rfl));cases this;have H:=k2.br;have a4:ae=ρ:=by
    funext i;rcases A8 i h0.nx with a5|an
    .exact H.ext i a5
    .rw[k1.hk.1.fresh i an,st.hk.1.fresh i an]
   subst a4;have ao:∀b,b<w.heap.size->w1.heap[b]?=w.heap[b]?:=λb hb=>H.ae b hb λ_ _ d=>d.elim;have a6:C5 P τ ae h0 w1:=st.hk.grow H.size ao;refine⟨ae,⟨(UT h.tm r).ins y (.bool b),h.sz,h.ds⟩,h0,outs,⟨a6,⟨k1.aF.1,λt v k=>?_⟩,k1.ds⟩,⟨⟨λ_ _=>rfl,H.size,λb hb _=>ao b hb,λi pl aa E=>(by rw[st.hk.1.fresh i aa] at E;cases E),Ae _,H.os,H.out,H.tape,H.drawn⟩,AF.refl _⟩,λ_ hx=>hx,X⟩;have k:((UT h.tm r).ins y (.bool b)).get t=I v:=k;refine k1.aF.2 t v ?_;show(f1.lay y (.bool b)).tm.get t=I v;rw[Ev.T.dA] at k;rw[Fr.a6];by_cases ht:t=y
   .rw[Bi ht] at k⊢;exact k
   .rw[Bm ht] at k⊢
    rw[V8] at k;split at k
    .cases k
    .rename_i d
     rw[Fr.a6,Bm d];exact k
  |exit id=>cases F
  |ret=>cases F
  |panic ch=>obtain⟨_,_,_,_,F⟩:=F;cases F
  |goto l=>exact F.elim
  |outgrown=>exact F.elim
 split at m
 .rename_i k
  obtain⟨S,m⟩:=C1 m;obtain⟨Q,R⟩:=Dh S;cases m;exact aj Ag _ 0 c (by rwa [AK] at Q) (by rwa [AK] at R) k (.inl B) B (λpl e=>st.hk.1.hr id pl _ e hb) X
 .rename_i a7 len cap k
  obtain⟨S,m⟩:=C1 m;obtain⟨S,R⟩:=Dh S;obtain⟨q0,Q⟩:=Dh S;have q0:=Ac q0;cases m;have a8:∃pl,ρ id=I pl:=by
   obtain⟨v',_,s⟩:=st.aF.2 L _ ai;cases s with|ptr e=>exact⟨_,e⟩
  obtain⟨pl,ap⟩:=a8;obtain⟨C,fz,r1,r2,r3,r4,r5,r6⟩:=st.hk.1.hr id pl _ ap hb;obtain⟨ro,v',rv,rr⟩:=r4 o _ k;obtain⟨af,ag,ab⟩:=a7;generalize a9:v'=z at rr;cases rr with|@slice _ _ _ _ _ ad o' e1 e2=>
  refine aj Ah (.slice (I ⟨af,ag,I 0⟩) len (cap+Hl ab ad)) (cap+Hl ab ad) (c.ins o (.slice (I ⟨af,ag,I 0⟩) len (cap+Hl ab ad))) (by rwa [AK] at Q) (by rwa [AK] at R) (Ev.T.ao _ _ _) (.inr ⟨_,_,_,B⟩) (Bool.eq_false_iff.2 λd=>by have:=Af d;omega) (λpl' e=>?_) X;rw[ap] at e;cases e;refine⟨C,fz,r1,r2,r3,λi u V=>?_,r5,r6⟩;rw[Ev.T.dA] at V;by_cases ah:i=o
  .rw[Bi ah] at V;cases V;subst ah
   refine⟨ro,_,rv,?_⟩;rw[a9];have:=VR.slice (ρ:=ρ) (id:=af) (off:=ag) (sp:=I 0) (len:=len) (cap:=cap+Hl ab ad) (o':=o') e1 (λd=>e2 (by simp[Hl] at d⊢;omega));simpa[Hl] using this
  .rw[Bm ah] at V;exact r4 i u V
 .cases m
end
def Agn {a b:Int} (h:Aeh a b=Ag):a=b:=by
 unfold Aeh at h;split at h
 .rw[Af h]
 .rw[Af h]
 .cases h
def Ahf {a b:Option Nat} (h:Aep a b=Ag):a=b:=by
 unfold Aep at h;split at h
 .rfl
 .rw[Af h]
 .cases h
def Xw {a:Option Nat} (h:isO a b=Ag):a=I b:=by
 cases a with
 |none=>cases h
 |some x=>rw[Af h]
def Ain {a b:Bd} (h:Gp a.data.toList b.data.toList=Ag):a=b:=by
 rw[J0] at h;have:=eq_of_beq h;obtain⟨⟨a⟩⟩:=a;obtain⟨⟨b⟩⟩:=b;simp at this;rw[this]
def F0 {f:Aa->Aa->Bool} (d:∀a b e,f a b=Ag->VR ρ b e->VR FS a e):∀{c l l':AH},Ln f c l=Ag->LR ρ l l'->LR FS c l'
 |[],[],_,_,.nil=>.nil
 |
  a::c,b::l,_,h,.cons hb g=>by
  simp only[Ln,An] at h;exact .cons (d a b _ h.1 hb) (F0 d h.2 g)
 |[],_::_,_,h,_=>by cases h
 |_::_,[],_,h,_=>by cases h
def Ks {m:Nat->Option Nat} (f:∀i j pl,m i=I j->ρ j=I pl->FS i=I pl):∀(n:Nat) (e v v':Aa),K9 m n e v=Ag->VR ρ v v'->VR FS e v':=by
 intro n
 induction n with
 |zero=>intro e v v' h;cases h
 |
  succ n d=>
  intro e v v' h g;unfold K9 at h;split at h<;>(try simp only[An] at h)<;>first|(cases h;done)|(
   cases g
   first
    |(constructor;done)
    |exact .agg (F0 (λa b c=>d a b c) h Gs)
    |exact .tuple (F0 (λa b c=>d a b c) h Gs)
    |exact .map (f _ _ _ (Xw h) Gs)
    |(cases eq_of_beq h;exact .bool _)
    |(rw[Ain h];exact .string _)
    |(rw[Ly h.1,Agn h.2];exact .int _ _)
    |(rw[Af h.1,Af h.2];exact .az _ _)
    |(cases Af h.2;exact .ptr (f _ _ _ (Xw h.1) Gs))
    |(cases Af h.1;exact .iface (d _ _ _ h.2 Gs))
    |(cases ‹Yw _ _ _›;cases Af h.1.1;exact .func (.func _) (F0 (λa b c=>d a b c) h.1.2 Gs) (F0 (λa b c=>d a b c) h.2 Gs))
    |(
     obtain⟨⟨⟨⟨k,l⟩,o⟩,p⟩,q⟩:=h;cases Af l;cases Ahf o;cases Af p;cases Af q;exact .slice (f _ _ _ (Xw k) Gs) Gs))
def JI {f:Aa->Option Aa} (d:∀a b e,f a=I b->VR FS a e->VR ρ b e):∀{c l l':AH},PI f c=I l->LR FS c l'->LR ρ l l'
 |[],l,_,h,.nil=>by simp only[PI,Option.some.injEq] at h;subst h;exact .nil
 |
  a::c,l,_,h,.cons hb g=>by
  simp only[PI] at h;split at h
  case h_2=>cases h
  rename_i u r i j;cases h;exact .cons (d a u _ i hb) (JI d j g)
def L8 {m:Nat->Option Nat} (f:∀i j pl,m i=I j->FS i=I pl->ρ j=I pl):∀(n:Nat) (e v v':Aa),Qs m n e=I v->VR FS e v'->VR ρ v v':=by
 intro n
 induction n with
 |zero=>intro e v v' h;cases h
 |
  succ n d=>
  intro e v v' h g;unfold Qs at h;split at h<;>first|(cases h;cases g;constructor;done)|(
   split at h<;>first|(cases h;done)|(
    cases h;cases g
    first
     |exact .ptr (f _ _ _ Gs Gs)
     |exact .slice (f _ _ _ Gs Gs) Gs
     |exact .map (f _ _ _ Gs Gs)
     |exact .iface (d _ _ _ Gs Gs)
     |exact .agg (JI (λa b c=>d a b c) Gs Gs)
     |exact .tuple (JI (λa b c=>d a b c) Gs Gs)
     |(cases ‹Yw _ _ _›;exact .func (.func _) (JI (λa b c=>d a b c) Gs Gs) (JI (λa b c=>d a b c) Gs Gs))))|cases h
def LQ {f:Aa->Aa->Bool} {c:T Aa}:∀{l:AH} {i:Nat},Kh f c l i=Ag->∀(j:Nat) b,l[j]?=I b->∃v,c.get (i+j)=I v/\f b v=Ag
 |[],_,_,j,b,e=>by simp at e
 |
  a::l,i,h,j,b,e=>by
  simp only[Kh,An] at h;cases j with
  |
   zero=>
   cases e;obtain⟨d,_⟩:=h;split at d
   case h_2=>cases d
   rename_i v g;exact⟨v,g,d⟩
  |
   succ j=>
   obtain⟨v,d,k⟩:=LQ h.2 j b (by simpa using e);refine⟨v,?_,k⟩;rw[←d];congr 1;omega
def Pr {f:Aa->Aa->Bool} (c:∀a b e,f a b=Ag->VR ρ b e->VR FS a e):∀{d l l':List Ap},TL f d l=Ag->ER ρ l l'->ER FS d l'
 |[],[],_,_,.nil=>.nil
 |
  a::d,b::l,_,h,.cons g i j k=>by
  simp only[TL,An] at h;obtain⟨⟨⟨m,n⟩,o⟩,p⟩:=h;exact .cons (c _ _ _ m g) (c _ _ _ n i) ((Af o).trans j) (Pr c p k)
 |[],_::_,_,h,_=>by cases h
 |_::_,[],_,h,_=>by cases h
def Tn {m:Nat->Option Nat} (b:∀i j pl,m i=I j->FS i=I pl->ρ j=I pl):∀{c l l':List Ap},Acm m c=I l->ER FS c l'->ER ρ l l'
 |[],l,_,h,.nil=>by simp only[Acm,Option.some.injEq] at h;subst h;exact .nil
 |
  a::c,l,_,h,.cons d e f g=>by
  simp only[Acm] at h;split at h
  case h_2=>cases h
  rename_i k v r n o p;cases h;exact .cons (L8 b 6 _ _ _ n d) (L8 b 6 _ _ _ o e) f (Tn b p g)
def We {f:Aa->Option Aa}:∀{b l:AH},PI f b=I l->l.length=b.length/\∀(i:Nat) v,l[i]?=I v->∃c,b[i]?=I c/\f c=I v
 |[],l,h=>by simp only[PI,Option.some.injEq] at h;subst h;exact⟨B,λi v d=>by simp at d⟩
 |
  a::b,l,h=>by
  simp only[PI] at h;split at h
  case h_2=>cases h
  rename_i u r e g;cases h;obtain⟨j,k⟩:=We g;refine⟨by simp[j],λi v d=>?_⟩;cases i with
  |zero=>cases d;exact⟨a,B,e⟩
  |succ i=>obtain⟨c,m,n⟩:=k i v (by simpa using d);exact⟨c,by simpa using m,n⟩
section
variable{P:AN} {τ:Bb} {w:AM}
def Rh {m:Nat->Option Nat} (r:∀i j pl,m i=I j->ρ j=I pl->FS i=I pl) {b:CB} (h:Hv m b (I hb)=Ag) (s:BR P ρ pl w hb):BR P FS pl w b.oB:=by
 cases b with
 |
  cells l e lo U x=>
  cases hb<;>simp only[Hv] at h<;>first
   |(cases h;done)
   |skip
  rename_i c n Q R S x';simp only[An] at h;obtain⟨⟨⟨⟨⟨f,g⟩,k⟩,o⟩,t⟩,y⟩:=h;have f:=Af f;have g:=Af g;have k:=Af k;have o:=Af o;subst f;subst g;subst k;subst o;obtain⟨C,z,p,q,A,D,E,F⟩:=s;refine⟨C,z,p,q,A,λi v d=>?_,E,λH=>F ?_⟩
  .rw[T.an] at d
   by_cases U:0<=i/\i<0+l.length
   .rw[Bi U] at d
    simp only[DL] at d;obtain⟨u,K,L⟩:=LQ y i v d;obtain⟨_,v',M,N⟩:=D i u (by rw[←K];congr 1;omega);exact⟨G,v',M,Ks r 6 v u v' L N⟩
   .rw[Bm U,T.get_nil] at d;cases d
  .subst H;simpa using t
 |
  map es V=>
  cases hb<;>simp only[Hv] at h<;>first
   |(cases h;done)
   |skip
  rename_i C3 W;simp only[An] at h;have f:=Af h.1;subst f;obtain⟨es2,p,q⟩:=s;exact⟨es2,p,Pr (λa b O=>Ks r 6 a b O) h.2 q⟩
def Z4 {m:Nat->Option Nat} (k:∀i j pl,m i=I j->FS i=I pl->ρ j=I pl) {b c:CB} (h:Acs m b=I c) (n:BR P FS pl w b.oB):BR P ρ pl w c.oB:=by
 cases b with
 |
  cells l e lo U x=>
  simp only[Acs] at h;split at h
  case h_2=>cases h
  rename_i l' q;cases h;obtain⟨d,r⟩:=We q;obtain⟨C,s,f,g,t,u,y,z⟩:=n;refine⟨C,s,f,by rw[d];exact g,λi U=>by rw[d];exact t i U,λi v a=>?_,y,λA=>by rw[d];exact z A⟩;rw[T.an] at a;by_cases o:0<=i/\i<0+l'.length
  .rw[Bi o] at a
   simp only[DL] at a;obtain⟨p,D,E⟩:=r i v a;obtain⟨L,v',F,H⟩:=u i p (by rw[T.an,Bi G];simpa using D);exact⟨G,v',F,L8 k 6 p v v' E H⟩
  .rw[Bm o,T.get_nil] at a;cases a
 |
  map es M=>
  simp only[Acs] at h;split at h
  case h_2=>cases h
  rename_i C3 K;cases h;obtain⟨es2,f,g⟩:=n;exact⟨es2,f,Tn k K g⟩
def CB.live (b:CB):b.oB.live=true:=by cases b<;>rfl
def Jz:∀(l:List CB) (i:Nat) (t:T HB) (j:Nat),(Nj l i t).get j=if i<=j/\j<i+l.length then(l[j-i]?).map CB.oB else t.get j
 |[],i,t,j=>by rw[Bm (by simp)];rfl
 |
  b::l,i,t,j=>by
  show(Nj l (i+1) (t.ins i b.oB)).get j=_;rw[Jz l (i+1)];by_cases h:i<=j/\j<i+(b::l).length
  .rw[Bi h]
   simp only[AO] at h;by_cases e:j=i
   .subst e
    rw[Bm G,T.ao];simp
   .rw[Bi G]
    obtain⟨d,rfl⟩:∃d,j=i+1+d:=⟨j-i-1,G⟩;rw[show i+1+d-(i+1)=d by omega,show i+1+d-i=d+1 by omega];rfl
  .rw[Bm h]
   simp only[AO] at h;rw[Bm G,T.aP _ _ G]
def M6 {m:Nat->Option Nat} {t:T HB}:∀{l:List CB} {i:Nat},Om m t l i=Ag->∀(j:Nat) b,l[j]?=I b->∃k,m (i+j)=I k/\Hv m b (t.get k)=Ag
 |[],_,_,j,b,d=>by simp at d
 |
  a::l,i,h,j,b,d=>by
  simp only[Om,An] at h;cases j with
  |
   zero=>
   cases d;obtain⟨c,_⟩:=h;split at c
   case h_2=>cases c
   rename_i k e;exact⟨k,e,c⟩
  |
   succ j=>
   obtain⟨k,c,f⟩:=M6 h.2 j b (by simpa using d);exact⟨k,by rw[←c];congr 1;omega,f⟩
def M0 {lo:Nat}:∀{l:Bo},LX lo U l=Ag->(∀x∈l,lo<=x/\x<U)/\l.Nodup
 |[],_=>⟨λx b=>(by cases b),Jg⟩
 |
  a::l,h=>by
  simp only[LX,An] at h;obtain⟨⟨⟨c,d⟩,e⟩,f⟩:=h;obtain⟨g,i⟩:=M0 f;refine⟨λx b=>?_,List.nodup_cons.2 ⟨λj=>?_,i⟩⟩
  .rcases List.mem_cons.1 b with rfl|b
   .exact⟨Ac c,by rwa [AK] at d⟩
   .exact g x b
  .have:=List.all_eq_true.1 e a j
   simp at this
end
section
variable{P:AN} {τ:Bb}
def App (τ:Bb) (M:E2):Y:=⟨Nj M.outs (τ.ng+M.ins.length) (Ia τ M).t,τ.ng+M.ins.length+M.outs.length,.no⟩
structure JZ (P:AN) (τ:Bb) (f:Au) (M:E2):Prop where
 go:∀(ρ:Ren) (w:AM) (AP:AH),C5 P τ ρ (Ia τ M) w->LR ρ M.args AP->
 Hk P (callFunc f ⟨AP⟩) w λe w'=>∃C2 v',e=.returned v'/\VR C2 M.res v'/\C5 P τ C2 (App τ M) w'/\Mj ρ w (τ.ng+M.ins.length) C2 w' (τ.ng+M.ins.length+M.outs.length) .no
def Wg:∀(l:List (Nat×CB)) (g:Nat) (hb:HB),(ZV l).get g=I hb->∃b,(g,b)∈l/\hb=b.oB
 |[],g,hb,h=>by cases h
 |
  (a,b)::l,g,hb,h=>by
  have h:((ZV l).ins a b.oB).get g=I hb:=h;rw[T.dA] at h;by_cases e:g=a
  .rw[Bi e] at h;cases h;subst e;exact⟨b,Av,B⟩
  .rw[Bm e] at h
   obtain⟨c,d,f⟩:=Wg l g hb h;exact⟨c,Az _ d,f⟩
def Re {c:Nat} {m:Nat->Option Nat} {t:T HB}:∀{l:List (Nat×CB)},QL c m t l=Ag->∀g b,(g,b)∈l->g<c/\Hv m b (t.get g)=Ag
 |[],_,g,b,h=>by cases h
 |
  (d,e)::l,h,g,b,a=>by
  simp only[QL,An] at h;rcases List.mem_cons.1 a with a|a
  .cases a;exact⟨by have:=h.1.1;rwa [AK] at this,h.1.2⟩
  .exact Re h.2 g b a
def GF {a:Nat} {pl:Bo} (h:i<a):De a pl i=I i:=by
 unfold De;have:AD i a=true:=by rw[AK];exact h
 rw[this];rfl
def HU {a:Nat} {pl:Bo} (h:¬i<a):De a pl i=pl[i-a]?:=by
 unfold De;have:AD i a=false:=Bool.eq_false_iff.2 λb=>by rw[AK] at b;exact h b
 rw[this];rfl
def Abn (o:C5 P τ ρ h w) {M:E2} {pl:Bo} (ag:pl.length=M.ins.length) (N:LX τ.ng h.nx pl=Ag) (hb:Om (De τ.ng pl) h.t M.ins τ.ng=Ag) (O:QL τ.ng (De τ.ng pl) h.t M.gs=Ag):
 C5 P τ (λi=>(De τ.ng pl i).bind ρ) (Ia τ M) w:=by
 obtain⟨f1,f2⟩:=M0 N;have Q:∀i j pl',De τ.ng pl i=I j->ρ j=I pl'->(λi=>(De τ.ng pl i).bind ρ) i=I pl':=λi j pl' d l=>by simp only[d,CC,l]
 have s:∀i hb',(Ia τ M).t.get i=I hb'->∃b j,hb'=b.oB/\De τ.ng pl i=I j/\Hv (De τ.ng pl) b (h.t.get j)=true:=by
  intro i hb' e;have e:(Nj M.ins τ.ng (ZV M.gs)).get i=I hb':=e;rw[Jz] at e;by_cases U:τ.ng<=i/\i<τ.ng+M.ins.length
  .rw[Bi U] at e
   obtain⟨b,R,rfl⟩:=Option.map_eq_some_iff.1 e;obtain⟨k,p,u⟩:=M6 hb (i-τ.ng) b R;exact⟨b,k,B,by rw[←p];congr 1;omega,u⟩
  .rw[Bm U] at e
   obtain⟨b,b1,rfl⟩:=Wg _ _ _ e;obtain⟨S,T⟩:=Re O i b b1;exact⟨b,i,B,GF S,T⟩
 have v:∀b j,Hv (De τ.ng pl) b (h.t.get j)=Ag->∃hb',h.t.get j=I hb'/\hb'.live=true:=by
  intro b j q;cases C:h.t.get j with
  |none=>rw[C] at q;cases b<;>cases q
  |
   some hb'=>
   refine⟨hb',B,?_⟩;rw[C] at q;cases hb'<;>first
    |rfl
    |(cases b<;>cases q)
 refine⟨⟨λi U=>?_,λi pl' hb' e V=>?_,λi pl' e=>?_,λi j x y U n z W ah D=>?_,λg E=>?_⟩,GW _ _⟩
 .have U:τ.ng+M.ins.length<=i:=U
  show(De τ.ng pl i).bind ρ=Z;rw[HU G,CD G];rfl
 .obtain⟨b,j,rfl,d,l⟩:=s i hb' V
  have e:(De τ.ng pl i).bind ρ=I pl':=e;rw[d] at e;simp only[CC] at e;obtain⟨A,r,_⟩:=v b j l;rw[r] at l;exact Rh Q l (o.1.hr j pl' A e r)
 .have e:(De τ.ng pl i).bind ρ=I pl':=e
  obtain⟨j,_,l⟩:=Option.bind_eq_some_iff.1 e;exact o.1.aC j pl' l
 .exfalso
  obtain⟨b,a,rfl,d,l⟩:=s i U W;obtain⟨A,r,F⟩:=v b a l;have n:(De τ.ng pl i).bind ρ=I x:=n;have z:(De τ.ng pl j).bind ρ=I y:=z;rw[d] at n;simp only[CC] at n;obtain⟨c,f,H⟩:=Option.bind_eq_some_iff.1 z;rcases FD a c with X|aa|ab
  .have:=o.1.ord a c x y A n H r X D
   rw[this] at F;cases F
  .subst aa
   by_cases K:i<τ.ng
   .rw[GF K] at d;cases d
    by_cases m:j<τ.ng
    .rw[GF m] at f;cases f;omega
    .rw[HU m] at f
     have:=(f1 i (AZ f)).1;omega
   .have m:¬j<τ.ng:=G
    rw[HU K] at d;rw[HU m] at f;have l1:=(List.getElem?_eq_some_iff.1 d).1;have:=(Ajk l1 f2).1 (d.trans f.symm);omega
  .by_cases m:j<τ.ng
   .rw[GF m] at f;cases f
    rw[GF (show i<τ.ng by omega)] at d;cases d;omega
   ·
    have ad:j-τ.ng<M.ins.length:=by
     rw[HU m] at f;have:=(List.getElem?_eq_some_iff.1 f).1;omega
    have ae:(Ia τ M).t.get j=I (M.ins[j-τ.ng]).oB:=by
     show(Nj M.ins τ.ng (ZV M.gs)).get j=_;rw[Jz,Bi G,Ab ad];rfl
    obtain⟨b',c',_,p,u⟩:=s j _ ae;rw[f] at p;cases p;obtain⟨af,k3,L⟩:=v b' c u;have:=o.1.ord c a y x af H n k3 ab D.symm;rw[this] at L;cases L
 .show(De τ.ng pl g).bind ρ=_
  rw[GF E];exact o.1.aS g E
def To {m:Nat->Option Nat}:∀{l l':List CB},U7 m l=I l'->l'.length=l.length/\∀(i:Nat) c,l'[i]?=I c->∃b,l[i]?=I b/\Acs m b=I c
 |[],l',h=>by simp only[U7,Option.some.injEq] at h;subst h;exact⟨B,λi c a=>by simp at a⟩
 |
  b::l,l',h=>by
  simp only[U7] at h;split at h
  case h_2=>cases h
  rename_i c r d e;cases h;obtain⟨f,g⟩:=To e;refine⟨by simp[f],λi j a=>?_⟩;cases i with
  |zero=>cases a;exact⟨b,B,d⟩
  |succ i=>obtain⟨k,n,o⟩:=g i j (by simpa using a);exact⟨k,by simpa using n,o⟩
def Pm {st:List (Nat×Nat)}:∀(n i:Nat) {l:Bo},L0 st i n=I l->l.length=n
 |0,i,l,h=>by simp only[L0,Option.some.injEq] at h;subst h;rfl
 |
  n+1,i,l,h=>by
  simp only[L0] at h;split at h
  case h_2=>cases h
  rename_i a r c b;cases h;simp[Pm n (i+1) b]
def Agr {M:E2} (hM:JZ P τ f M) (o:C5 P τ ρ h w) (hl:LR ρ args AP) (n:QG τ M args h=I (v,J)) (k kp:Aa->Y->RR) (outs:List EO) (ab:k v J=I outs):
 Hk P (callFunc f ⟨AP⟩) w (Ho P τ ρ w h k kp outs):=by
 unfold QG at n;split at n
 case h_2=>cases n
 rename_i pl ad;simp only[] at n;obtain⟨x,n⟩:=C1 n;obtain⟨x,q4⟩:=Dh x;obtain⟨x,q3⟩:=Dh x;obtain⟨q1,q2⟩:=Dh x;split at n
 case h_2=>cases n
 rename_i v0 bs hv ae;simp only[Option.some.injEq,Prod.mk.injEq] at n;obtain⟨rfl,rfl⟩:=n;have af:=Pm _ _ ad;have ag:=Abn o af q1 q3 q4;have ah:LR (λi=>(De τ.ng pl i).bind ρ) M.args AP:=F0 (λa b E=>Ks (λi j pl' d l=>by simp only[d,CC,l]) 6 a b E) q2 hl;refine(hM.go _ w AP ag ah).mono λe w' he=>?_;obtain⟨C2,v',rfl,g1,F,p⟩:=he;obtain⟨b1,b2⟩:=To ae;have R:∀b,b<w.heap.size->w'.heap[b]?=w.heap[b]?:=λb hb=>p.ae b hb λ_ _ m=>m.elim;have S:∀i pl',τ.ng+M.ins.length<=i->C2 i=I pl'->w.heap.size<=pl'.b:=λi pl' U e=>by
  rcases p.new i pl' U e with h|⟨_,_,m,_⟩
  .exact h
  .exact m.elim
 let y:Ren:=λi=>if i<h.nx then ρ i else if i<h.nx+M.outs.length then C2 (τ.ng+M.ins.length+(i-h.nx)) else Z
 have H:ρ.le y:=λi pl' e=>by
  have:i<h.nx:=BB λm=>by rw[o.1.fresh i m] at e;cases e
  show(if i<h.nx then ρ i else _)=_
  rw[Bi this];exact e
 have T:∀i j pl',XC (τ.ng+M.ins.length) M.outs.length (De τ.ng pl) h.nx i=I j->C2 i=I pl'->y j=I pl':=by
  intro i j pl' d l;unfold XC at d;by_cases U:i<τ.ng+M.ins.length
  .have K:AD i (τ.ng+M.ins.length)=true:=by rw[AK];exact U
   rw[K] at d;simp only[D1] at d;have s:=p.ext i U;rw[l] at s;have s:I pl'=(De τ.ng pl i).bind ρ:=s;rw[d] at s;simp only[CC] at s;exact H j pl' s.symm
  .have K:AD i (τ.ng+M.ins.length)=false:=Bool.eq_false_iff.2 λm=>by rw[AK] at m;exact U m
   rw[K] at d;simp only[I0] at d;by_cases V:i<τ.ng+M.ins.length+M.outs.length
   .have L:AD i (τ.ng+M.ins.length+M.outs.length)=true:=by rw[AK];exact V
    rw[L] at d;simp only[D1,Option.some.injEq] at d;subst d;show(if h.nx+(i-(τ.ng+M.ins.length))<h.nx then _ else if h.nx+(i-(τ.ng+M.ins.length))<h.nx+M.outs.length then C2 (τ.ng+M.ins.length+(h.nx+(i-(τ.ng+M.ins.length))-h.nx)) else Z)=_
    rw[Bm G,Bi G];rw[show τ.ng+M.ins.length+(h.nx+(i-(τ.ng+M.ins.length))-h.nx)=i by omega];exact l
   .have L:AD i (τ.ng+M.ins.length+M.outs.length)=false:=Bool.eq_false_iff.2 λm=>by rw[AK] at m;exact V m
    rw[L] at d;cases d
 have N:∀j,(Nj bs h.nx h.t).get j=if h.nx<=j/\j<h.nx+bs.length then(bs[j-h.nx]?).map CB.oB else h.t.get j:=λj=>Jz bs h.nx h.t j
 have u:∀i pl',y i=I pl'->(i<h.nx/\ρ i=I pl')\/(h.nx<=i/\i<h.nx+M.outs.length/\C2 (τ.ng+M.ins.length+(i-h.nx))=I pl'):=by
  intro i pl' e;have e:(if i<h.nx then ρ i else if i<h.nx+M.outs.length then C2 (τ.ng+M.ins.length+(i-h.nx)) else Z)=I pl':=e
  by_cases d:i<h.nx
  .rw[Bi d] at e;exact .inl ⟨d,e⟩
  .rw[Bm d] at e
   by_cases l:i<h.nx+M.outs.length
   .rw[Bi l] at e;exact .inr ⟨G,l,e⟩
   .rw[Bm l] at e;cases e
 have W:∀i,i<M.outs.length->∃b,M.outs[i]?=I b/\(App τ M).t.get (τ.ng+M.ins.length+i)=I b.oB:=λi U=>by
  refine⟨M.outs[i],Ab U,?_⟩;show(Nj M.outs (τ.ng+M.ins.length) (Ia τ M).t).get _=_;rw[Jz,Bi G,Ds,Ab U];rfl
 have ai:C5 P τ y ⟨Nj bs h.nx h.t,h.nx+M.outs.length,h.lo⟩ w':=by
  refine⟨⟨λi U=>?_,λi pl' hb e q=>?_,λi pl' e=>?_,λi j C z U ei X A aj aa=>?_,λg hg=>?_⟩,Ao o.2 (GW _ _)⟩
  .have U:h.nx+M.outs.length<=i:=U
   show(if i<h.nx then _ else if i<h.nx+M.outs.length then _ else Z)=Z
   rw[Bm G,Bm G]
  .have q:(Nj bs h.nx h.t).get i=I hb:=q
   rw[N] at q;rcases u i pl' e with⟨d,l⟩|⟨d,l,r⟩
   .rw[Bm G] at q
    exact(o.1.hr i pl' hb l q).mono H (R _ (o.1.aC i pl' l))
   .rw[Bi (by rw[b1];omega)] at q
    obtain⟨c,c1,rfl⟩:=Option.map_eq_some_iff.1 q;obtain⟨b,d1,d2⟩:=b2 _ c c1;obtain⟨E,d3,d4⟩:=W (i-h.nx) G;rw[d1] at d3;cases d3;exact Z4 T d2 (F.1.hr _ pl' _ r d4)
  .rcases u i pl' e with⟨d,l⟩|⟨d,l,r⟩
   .exact AC (o.1.aC i pl' l) p.size
   .exact F.1.aC _ pl' r
  .have A:(Nj bs h.nx h.t).get i=I U:=A
   rw[N] at A;rcases u i C ei with⟨d,l⟩|⟨d,l,r⟩
   .rw[Bm G] at A
    rcases u j z X with⟨O,D⟩|⟨O,D,Q⟩
    .exact o.1.ord i j C z U l D A aj aa
    .have:=S _ z G Q
     have:=o.1.aC i C l;omega
   .rcases u j z X with⟨O,D⟩|⟨O,D,Q⟩
    .omega
    .obtain⟨E,d3,d4⟩:=W (i-h.nx) G
     have:=F.1.ord _ _ C z _ r Q d4 G aa;rw[CB.live] at this;cases this
  .exact H _ _ (o.1.aS g hg)
 refine⟨y,v0,_,outs,L8 T 6 _ _ _ hv g1,ai,⟨⟨λi U=>?_,p.size,λb hb _=>R b hb,λi pl' U e=>?_,GW _ _,p.os,p.out,p.tape,p.drawn⟩,?_⟩,ab,λ_ hx=>hx⟩
 .show(if i<h.nx then ρ i else _)=_
  rw[Bi U]
 .rcases u i pl' e with⟨d,_⟩|⟨d,l,r⟩
  .omega
  .exact .inl (S _ pl' G r)
 .refine⟨GW _ _,WS.le_refl _,λi U _=>?_⟩
  show(Nj bs h.nx h.t).get i=_;rw[N,Bm G]
def Tm (q:C8 P τ call) {M:E2} {o:List EO} (ai:call (.func f) M.args (Ia τ M) (λv h=>I [.val v h]) (λ_ _=>Z)=I o) (k:∀v h,.val v h∈o->∃pl,Ub τ M pl v h=Ag):JZ P τ f M:=by
 refine⟨λρ w AP n hl=>?_⟩;have aj:=q (.func f) (.func f) _ _ _ _ _ _ ρ w n (.func f) hl ai;refine(show Hk P (callFunc f ⟨AP⟩) w _ from aj).mono λe w' H=>?_;cases e with
 |outgrown=>exact H.elim
 |panicked ch=>obtain⟨_,_,_,_,_,_,_,_,_,hb,_⟩:=H;cases hb
 |
  returned v'=>
  obtain⟨d,v,h,o1,k1,K,k3,k4,k5⟩:=H;cases k4;obtain⟨pl,k⟩:=k v h (k5 (List.mem_singleton.2 rfl));unfold Ub at k;simp only[] at k;obtain⟨k,q5⟩:=Dh k;obtain⟨k,q4⟩:=Dh k;obtain⟨k,q3⟩:=Dh k;obtain⟨q1,q2⟩:=Dh k;have q2:=Af q2;obtain⟨f1,f2⟩:=M0 q3;have l:=k3.br;have aa:∀id,id<τ.ng+M.ins.length->¬h.lo.has id:=λid u=>GO q1 u;have ab:∀b,b<w.heap.size->w'.heap[b]?=w.heap[b]?:=λb hb=>l.ae b hb λid pl' L e=>by
   have u:id<τ.ng+M.ins.length:=BB λJ=>by rw[n.1.fresh id J] at e;cases e
   exact Cf L (aa id u)
  have ad:∀i pl',τ.ng+M.ins.length<=i->d i=I pl'->w.heap.size<=pl'.b:=λi pl' U e=>by
   rcases l.new i pl' U e with J|⟨j,r,L,p,_⟩
   .exact J
   .have u:j<τ.ng+M.ins.length:=BB λJ=>by rw[n.1.fresh j J] at p;cases p
    exact Cf L (aa j u)
  let m:=De (τ.ng+M.ins.length) pl
  let x:Ren:=λi=>(m i).bind d
  have N:∀i j pl',m i=I j->d j=I pl'->x i=I pl':=λi j pl' h1 O=>by show(m i).bind d=_;rw[h1];exact O
  have Q:∀i,i<τ.ng+M.ins.length->m i=I i:=λi U=>GF U;have y:∀i,¬i<τ.ng+M.ins.length->m i=pl[i-(τ.ng+M.ins.length)]?:=λi U=>HU U;have R:∀i b,M.outs[i]?=I b->∃j hb,m (τ.ng+M.ins.length+i)=I j/\h.t.get j=I hb/\Hv m b (I hb)=Ag/\hb.live=true:=by
   intro i b hb;obtain⟨j,E,s⟩:=M6 q5 i b hb;cases z:h.t.get j with
   |none=>rw[z] at s;cases b<;>cases s
   |
    some hb'=>
    rw[z] at s;refine⟨j,hb',E,z,s,?_⟩;cases hb'<;>first
     |rfl
     |(cases b<;>cases s)
  have ae:∀i,(App τ M).t.get i=if τ.ng+M.ins.length<=i/\i<τ.ng+M.ins.length+M.outs.length then(M.outs[i-(τ.ng+M.ins.length)]?).map CB.oB else(Ia τ M).t.get i:=λi=>Jz _ _ _ _
  have S:∀i pl',i<τ.ng+M.ins.length->x i=I pl'->ρ i=I pl':=λi pl' U e=>by
   have e:(m i).bind d=I pl':=e;rw[Q i U] at e;simp only[CC] at e;rw[l.ext i U] at e;exact e
  have af:ρ.le x:=λi pl' e=>by
   have U:i<τ.ng+M.ins.length:=BB λJ=>by rw[n.1.fresh i J] at e;cases e
   refine N i i pl' (Q i U) ?_;rw[l.ext i U];exact e
  have F:∀i pl',¬i<τ.ng+M.ins.length->x i=I pl'->∃j,pl[i-(τ.ng+M.ins.length)]?=I j/\d j=I pl':=λi pl' U e=>by
   have e:(m i).bind d=I pl':=e;rw[y i U] at e;exact Option.bind_eq_some_iff.1 e
  refine⟨x,v',B,Ks N 6 _ _ _ q4 k1,⟨⟨λi U=>?_,λi pl' hb e A=>?_,λi pl' e=>?_,λi j C r U ei p T ak ag=>?_,λg hg=>af _ _ (n.1.aS g hg)⟩,by show τ.ng<=τ.ng+M.ins.length+M.outs.length;omega⟩,
   ⟨λi U=>?_,l.size,λb hb _=>ab b hb,λi pl' U e=>?_,GW _ _,l.os,l.out,l.tape,l.drawn⟩⟩
  .have U:τ.ng+M.ins.length+M.outs.length<=i:=U
   show(m i).bind d=Z;rw[y i G,CD G];rfl
  .rw[ae] at A
   by_cases U:τ.ng+M.ins.length<=i/\i<τ.ng+M.ins.length+M.outs.length
   .rw[Bi U] at A
    obtain⟨b,b1,rfl⟩:=Option.map_eq_some_iff.1 A;obtain⟨j,hb',E,s,j3,_⟩:=R _ b b1;have e:(m i).bind d=I pl':=e;rw[show τ.ng+M.ins.length+(i-(τ.ng+M.ins.length))=i by omega] at E;rw[E] at e;exact Rh N j3 (K.1.hr j pl' hb' e s)
   .rw[Bm U] at A
    have al:i<τ.ng+M.ins.length:=by
     refine BB λJ=>?_;have e:(m i).bind d=I pl':=e;rw[y i G,CD G] at e;cases e
    have e':=S i pl' al e;exact(n.1.hr i pl' hb e' A).mono af (ab _ (n.1.aC i pl' e'))
  .have e:(m i).bind d=I pl':=e
   obtain⟨j,_,O⟩:=Option.bind_eq_some_iff.1 e;exact K.1.aC j pl' O
  .rw[ae] at T
   by_cases V:i<τ.ng+M.ins.length
   .rw[Bm G] at T
    have ah:=S i C V ei;by_cases D:j<τ.ng+M.ins.length
    .exact n.1.ord i j C r U ah (S j r D p) T ak ag
    .obtain⟨c,q,W⟩:=F j r D p
     have:=ad c r (f1 c (AZ q)).1 W;have:=n.1.aC i C ah;omega
   .exfalso
    have D:¬j<τ.ng+M.ins.length:=G;obtain⟨a,X,ea⟩:=F i C V ei;obtain⟨c,q,W⟩:=F j r D p;have li:=(List.getElem?_eq_some_iff.1 X).1;have lj:=(List.getElem?_eq_some_iff.1 q).1;obtain⟨a',am,a1,a2,_,a4⟩:=R (i-(τ.ng+M.ins.length)) _ (Ab G);obtain⟨c',an,c1,c2,_,c4⟩:=R (j-(τ.ng+M.ins.length)) _ (Ab G);rw[show τ.ng+M.ins.length+(i-(τ.ng+M.ins.length))=i by omega,y i V,X] at a1;rw[show τ.ng+M.ins.length+(j-(τ.ng+M.ins.length))=j by omega,y j D,q] at c1;cases a1;cases c1;have:=K.1.inj a c C r am an ea W a2 c2 a4 c4 ag;subst this;have:=(Ajk li f2).1 (X.trans q.symm);omega
  .show(m i).bind d=ρ i
   rw[Q i U];exact l.ext i U
  .have U:¬i<τ.ng+M.ins.length:=Nat.not_lt.2 U
   obtain⟨j,z,p⟩:=F i pl' U e;exact .inl (ad j pl' (f1 j (AZ z)).1 p)
def Ahy (b:C8 P τ call) {M:E2} (a:Ue τ call f M=Ag):JZ P τ f M:=by
 unfold Ue at a;split at a
 .rename_i c
  refine Tm b c λv h d=>?_;have:=List.all_eq_true.1 a _ d;simp only[] at this;split at this
  .exact⟨_,this⟩
  .cases this
 .cases a
end
section
def Ej {c d:Type} {x:Except String c} {f:c->Except String d} {b:d} (h:(x>>=f)=.ok b):∃a,x=.ok a/\f a=.ok b:=by
 cases x with
 |error e=>cases h
 |ok a=>exact⟨a,B,h⟩
def XV {b:Bool} {m:String} {u:Unit} (h:CheckCode.require b m=.ok u):b=true:=by
 unfold CheckCode.require at h;cases b with
 |true=>rfl
 |false=>cases h
def Abv {c:Type} {x:Except String c} {f:String->String} {a:c} (h:x.mapError f=.ok a):x=.ok a:=by
 cases x with
 |error e=>cases h
 |ok b=>cases h;rfl
def Zt {c:Type} {f:c->Except String Unit}:∀{l:List c},l.forM f=.ok ()->∀x∈l,f x=.ok ()
 |[],_,_,b=>Cf b (KX)
 |
  a::l,h,x,b=>by
  replace h:(f a>>=λ_=>l.forM f)=.ok ():=h;obtain⟨⟨⟩,d,e⟩:=Ej h;cases b with
  |head=>exact d
  |tail _ b=>exact Zt e x b
def XO {f:BC}:∀(c:DC) (b l:Bo),CheckCode.code P f b l c=.ok ()->CR P c:=by
 intro c
 induction c with
 |
  region id AU m=>
  intro b l h k;subst k;simp only[CheckCode.code,CheckCode.region] at h;obtain⟨_,_,h⟩:=Ej h;obtain⟨_,_,h⟩:=Ej h;exact XV h
 |
  seq x y a d=>
  intro b l h;simp only[CheckCode.code] at h;obtain⟨⟨⟩,e,i⟩:=Ej h;exact⟨a _ _ e,d _ _ i⟩
 |
  cond n x y a d=>
  intro b l h;simp only[CheckCode.code] at h;obtain⟨_,_,h⟩:=Ej h;obtain⟨⟨⟩,e,i⟩:=Ej h;exact⟨a _ _ e,d _ _ i⟩
 |block id c j=>intro b l h;simp only[CheckCode.code] at h;exact j _ _ h
 |loop c j=>intro b l h;simp only[CheckCode.code] at h;exact j _ _ h
 |scope c j=>intro b l h;simp only[CheckCode.code] at h;exact j _ _ h
 |
  rangeFunc g ps x y a d=>
  intro b l h;simp only[CheckCode.code] at h;obtain⟨_,_,h⟩:=Ej h;obtain⟨_,_,h⟩:=Ej h;obtain⟨_,_,h⟩:=Ej h;obtain⟨⟨⟩,e,i⟩:=Ej h;exact⟨a _ _ e,d _ _ i⟩
 |_=>intro b l h;exact trivial
def IT (h:P.check=.ok ()) {fn:BC} {c:DC} (b:P.funcs[f]?=I fn) (hb:fn.body=I c):CR P c:=by
 unfold Program.check at h;obtain⟨⟨⟩,d,_⟩:=Ej h;have e:f<P.funcs.size:=by
  rcases A8 f P.funcs.size with h|h
  .exact h
  .rw[Dr h] at b;cases b
 have a:=Zt d f (List.mem_range.2 e);unfold CheckCode.funcAt at a;rw[b] at a;replace a:=Abv a;unfold CheckCode.func at a;obtain⟨_,_,a⟩:=Ej a;obtain⟨_,_,a⟩:=Ej a;obtain⟨_,_,a⟩:=Ej a;rw[hb] at a;simp only at a;obtain⟨_,_,a⟩:=Ej a;obtain⟨⟨⟩,g,_⟩:=Ej a;exact XO c _ _ g
end
section
variable{P:AN} {τ:Bb}
def Ve (P:AN) (f:Au) (e:Array Aa->Sem Aa):Prop:=
 ∃fn,P.funcs[f]?=I fn/\(fn.name== "runtime.NumGoroutine")=Ah/\fn.body.isNone=Ag/\Extern.findNext fn=Z/\Extern.find fn=I e
def J8 (P:AN) (f:Au):KS->Prop
 |.aU=>Ve P f Extern.AbiNoEscape.same
 |.indexByte=>Ve P f Extern.BytealgIndexByte.indexByte
 |.count=>Ve P f Extern.BytealgCount.count
 |.makeNoZero e=>∃ps t,Ve P f (Extern.BytealgMakeNoZero.makeNoZero ps #[t])/\P.underlying t=I (.slice e)/\∃i,P.info? e=I i/\i.size=1
 |_=>False
def Nx {e:Array Aa->Sem Aa} (h:Ve P f e) {args:Array Aa} (a:(e args).run P w=.ok v w'):
 (callFunc f args).run P w=.ok (.value v) w':=by
 obtain⟨fn,b,c,d,g,i⟩:=h;rw[run_callFunc_extern b c d g i,a];rfl
def Aio (s:Bd) (c:UInt8):firstIdx s c=(match s.data.toList.findIdx? (·==c) with|some i=>(i:Int)|none=>-1):=by
 have b:∀i,i<s.size->s[i]! =s.data.toList[i]?.getD default:=by
  intro i U;have d:i<s.data.toList.length:=by simpa using U
  rw[getElem!_pos s i U,Ab d];rfl
 have Cw:(BG s.size).find? (λi=>s[i]! ==c)=s.data.toList.findIdx? (·==c):=by
  have l:s.size=s.data.toList.length:=by simp
  cases a:s.data.toList.findIdx? (·==c) with
  |
   none=>
   rw[List.findIdx?_eq_none_iff] at a;rw[List.find?_eq_none];intro i U;have U:=List.mem_range.1 U;rw[b i U,Ab G];have:=a s.data.toList[i] (Bu _);simpa using this
  |
   some k=>
   rw[List.findIdx?_eq_some_iff_getElem] at a;obtain⟨e,f,g⟩:=a;rw[List.find?_range_eq_some];refine⟨?_,List.mem_range.2 G,?_⟩
   .rw[b k G,Ab e];exact f
   .intro j h
    rw[b j G,Ab G];have:=g j h;simpa using this
 unfold firstIdx;rw[Cw];cases s.data.toList.findIdx? (·==c)<;>rfl
def S5 (c:UInt8):∀(l:Bl) (n:Nat),l.foldl (λn x=>if x==c then n+1 else n) n=n+Lib.countByte l c
 |[],n=>by simp[Lib.countByte]
 |
  b::l,n=>by
  rw[F7,S5 c l];unfold Lib.countByte;rw[List.count_cons];split<;>simp_all<;>omega
def Afc (T:BM P τ) {e:KS} (k:J8 P f e) (j:C5 P τ ρ h w) (a:LR ρ args AP) (b:R6 τ e args h=I (v,J)):
 B6 P τ ρ h w (callFunc f ⟨AP⟩) v J:=by
 unfold R6 at b;split at b
 .cases b
  cases a with|cons g a=>cases a with|nil=>
  exact B6.pure j (Nx k B) g
 .rename_i s c
  cases a with|cons g a=>cases a with|cons l a=>cases a with|nil=>
  cases g;cases l;have d:=run_indexByte_string (P:=P) s c w;rw[Aio] at d;have m:c.toNat.toUInt8=UInt8.ofNat c.toNat:=rfl;rw[m] at d;split at b
  .rename_i i U
   rw[U] at d;cases b;exact B6.pure j (Nx k d) (.int _ _)
  .rename_i U
   rw[U] at d;cases b;exact B6.pure j (Nx k d) (.int _ _)
 .rename_i s c
  cases a with|cons g a=>cases a with|cons l a=>cases a with|nil=>
  cases g;cases l;cases b;have d:=Lib.run_countString (P:=P) s c w;have m:Lib.countByte s.data.toList c.toNat.toUInt8=s.data.toList.foldl (λn x=>if x==UInt8.ofNat c.toNat then n+1 else n) 0:=(by rw[S5,Ba])
  rw[m] at d;exact B6.pure j (Nx k d) (.int _ _)
 .rename_i e n
  replace b:=C1 b;obtain⟨hb,b⟩:=b;have hb:=Hb hb;cases b;cases a with|cons g a=>cases a with|nil=>
  cases g;obtain⟨ps,t,q,r,i,u,y⟩:=k;obtain⟨cs,d,C,_⟩:=Lib.run_makeNoZero (P:=P) w ps t e r n G;have D:=Ren.aG (j.1.fresh h.nx (Ae _)) ⟨w.heap.size,0,cs.size-n⟩;obtain⟨z,A⟩:=j.drew.drew.alloc (.cells cs e) (.cells .nil n e 0 0 Ah) (cs.size-n) (by
   refine⟨cs,(0,0),Ca w.drew.drew _,by simp;omega,λE o=>?_,λi v p=>?_,.inl B,λh=>(by cases h)⟩
   .rw[u] at o;cases o;rw[y];simp;omega
   .rw[Ev.T.get_nil] at p;cases p)
  refine B6.made (Nx q d) (GD (Ren.ar _ _) B n cs.size (by simp;omega)) z ?_ (WS.le_refl _);exact A.aT.aT
 .cases b
end
section
variable{P:AN} {τ:Bb}
def IP (P:AN) (f:Au):Prop:=
 ∃(fn:BC) (t u s:Tmp) (T:Ai) (b:DC) (a c d e g h i j:Nat) (k l m:String) (n o p:Array Edge) (q:Array Ai),
  P.funcs[f]?=I fn/\(fn.name== "runtime.NumGoroutine")=Ah/\fn.results=#[]/\t<fn.ntmps/\u<fn.ntmps/\P.underlying T=I (.interface #[])/\
  fn.body=I (.seq (.region a #[⟨I t,.call ⟨.builtin .recover,#[],q⟩,g,k,n,Z⟩] Ah)
   (.block c (.seq (.region d #[⟨I u,.binOp .eql T (.tmp t) (.const .nilIface) j,h,l,o,Z⟩] Ah)
    (.cond (.tmp u) (.region e #[⟨I s,.assign (.tmp t),i,m,p,Z⟩] Ah) b))))
def Axt (T:BM P τ) (d:IP P f) (AP:Array Aa) (w:AM):
 (callFunc f AP).run P w=.ok (.enter f AP) w/\
 CallsDIn Fence.wide 0 P f AP .returning w λe g w'=>(∃v,e=.returned v)/\settle g=.returning/\w'=w:=by
 obtain⟨fn,t,u,s,h,b,y,z,A,C,D,E,F,H,K,L,M,N,O,Q,R,a,i,j,k,l,m,hb⟩:=d;have n:fn.name≠ "runtime.NumGoroutine":=by simpa using i
 refine⟨by simp[callFunc,a,n,hb,Amr],?_⟩;refine callsDIn_of_wpSIn a hb (by simp[Fence.wide]) λo cs p=>?_;apply wpSIn_seq;apply wpSIn_region;have c:fn.ntmps<=(AP++Cz (fn.ntmps-AP.size) undef).size:=by rw[Ajf,ZB];omega
 have q:t<(AP++Cz (fn.ntmps-AP.size) undef).size:=AC k c;have r:u<(AP++Cz (fn.ntmps-AP.size) undef).size:=AC l c;generalize(AP++Cz (fn.ntmps-AP.size) undef)=S at*;simp[wpOpsSIn,go_sem,recoverD,p,Exit.thenS];refine wpSIn_of_wpIn B (wpIn_block (wpIn_seq (wpIn_region ?_)));simp[wpOpsIn,go_sem,Exit.then,q]
 have x:(binOp .eql h .nilIface .nilIface).run P w=.ok (.bool Ag) w:=by
  have:=LI (w:=w) m;simp only[binOp,Op.equal,AI];simp[Op.equal,this]
 rw[x];simp only[Aw,Oper.uponIn_value];refine wpIn_cond_true (by simp[Act.eval,Act.put,r]) (wpIn_region ?_);simp[wpOpsIn,go_sem,Exit.inBlock,bodyPostS,results,j];exact⟨.returning,by cases o;simp_all,B⟩
def Alh (T:BM P τ) {dv:Au->Option (AH->Y->Option Y)} (h:∀f g,dv f=I g->IP P f/\g=λ_ h=>I h):Aqn P τ dv:=by
 intro f g b args AP h0 J ρ w a m c;obtain⟨d,rfl⟩:=h f g b;cases c;obtain⟨i,j⟩:=Axt T d ⟨AP⟩ w;refine⟨i,j.mono ?_⟩;rintro e n w' ⟨k,l,rfl⟩;exact⟨k,l,ρ,a,RF.refl a⟩
end
section
variable{P:AN}
def Aiu {b c:Type} (f:b->Option c):∀(t:T b) (i:Nat),(Adf f t).get i=(t.get i).bind f:=by
 intro t
 induction t with
 |nil=>intro i;rfl
 |
  node l v r d e=>
  intro i;show(T.node (Adf f l) (v.bind f) (Adf f r)).get i=_;cases i with
  |zero=>rw[T.aB,T.aB]
  |
   succ j=>
   rw[T.au,T.au];by_cases a:j%2=0
   .rw[Bi a,Bi a];exact d _
   .rw[Bm a,Bm a];exact e _
def Ud {i:KR} (h:P.types.toList[t]?=I i):P.info? t=I i:=by
 have a:P.types[t]?=I i:=by simpa using h
 have b:¬P.types.size<=t:=λc=>by rw[Dr c] at a;cases a
 have:P.info? t=P.types[t]?:=by simp[Tables.info?,b]
 rw[this,a]
def Ary {j:T KS} {e:Bo} {k:Nat} (l:P.funcs.toList.all (λx=>!x.body.isSome||!(x.name== "runtime.NumGoroutine"))=Ag)
 (m:e.all (λt=>!P.stoodInHeld t&&!P.eqGuardType P.depth t)=Ag) (n:P.follows .mixedOrders=Ag):BM P (Aod P j e k):={
 fn:=λf x hx=>by
  replace hx:(T.table 14 P.funcs.toList).get f=I x:=hx;have b:=T.a2 _ _ _ _ hx;refine⟨by simpa using b,λhb=>?_⟩;have c:=List.all_eq_true.1 l x (AZ b);rw[hb] at c;simpa using c
 ds:=λt d a=>by
  replace a:(Adf _ (T.table 14 P.types.toList)).get t=I d:=a;rw[Aiu] at a;cases U:(T.table 14 P.types.toList).get t with
  |none=>rw[U] at a;cases a
  |
   some i=>
   rw[U] at a;have b:=T.a2 _ _ _ _ U;have c:P.info? t=I i:=Ud b;unfold Program.underlying;rw[c];simp only[CC] at a;obtain⟨o⟩:=i;cases o with
   |
    named p u=>
    simp only at a⊢;cases g:(T.table 14 P.types.toList).get u with
    |none=>rw[g] at a;cases a
    |
     some i=>
     rw[g] at a;have b:=T.a2 _ _ _ _ g;have c:P.info? u=I i:=Ud b;rw[c];exact a
   |_=>exact a
 aj:=λt i U=>by
  replace U:(T.table 14 P.types.toList).get t=I i:=U;have b:=T.a2 _ _ _ _ U;exact Ud b
 eq:=λt h=>by
  replace h:e.any (Am t)=true:=h;obtain⟨x,hx,b⟩:=List.any_eq_true.1 h;have:=Af b;subst this;have:=List.all_eq_true.1 m _ hx;simpa using this
 mixed:=n}
end
def Mv {b:Type} (f:Nat):List (Nat×b)->Option b
 |[]=>Z
 |(g,a)::l=>bif Am g f then I a else Mv f l
def atC (fn:BC) (i:Nat):Code:=match fn.body with
 |some c=>(IC c).getD i .skip
 |none=>.skip
section
variable{P:AN} {τ:Bb}
def JH {c:Type} {f:Nat} {a:c}:∀{l:List (Nat×c)},Mv f l=I a->(f,a)∈l
 |
  (g,b)::l,h=>by
  simp only[Mv] at h;cases hb:Am g f with
  |
   true=>
   rw[hb] at h;have:=Af hb;subst this;cases h;exact Av
  |false=>rw[hb] at h;exact Az _ (JH h)
def Ayj (T:BM P τ) {f:Nat} {x:Lc} {b:BC} (e:P.funcs[f]?=I b) (h:J1 P τ x (atC b i)) (fn:BC) (c a:DC) (g:τ.fn.get f=I fn) (hb:fn.body=I c) (j:(IC c)[i]?=I a):
 J1 P τ x a:=by
 have d:=(T.fn _ _ g).1;rw[e] at d;cases d;unfold atC at h;rw[hb] at h;have:(IC c).getD i .skip=a:=by rw[Ak,j];rfl
 simp only[this] at h;exact h
def Kf {a:Type} {f:Nat}:∀{l:List (Nat×a)},(∀p∈l,p.1≠f)->Mv f l=Z
 |[],_=>rfl
 |
  p::l,h=>by
  rw[Mv,show Am p.1 f=Ah from Bool.eq_false_iff.2 λe=>h p Av (Af e),Kf λq b=>h q (Az _ b)];rfl
structure MO (P:AN) (τ:Bb) (f:Au) (g:Be->AH->Y->Jl):Prop where
 go:∀(call:Be),C8 P τ call->∀(args AP:AH) (h J:Y) (v:Aa) (ρ:Ren) (w:AM),C5 P τ ρ h w->LR ρ args AP->g call args h=I (v,J)->
 ∀(k kp:Aa->Y->RR) (outs:List EO),k v J=I outs->Hk P (callFunc f ⟨AP⟩) w (Ho P τ ρ w h k kp outs)
def QY:∀{l:List E2},(∀M∈l,JZ P τ f M)->MO P τ f (Vh τ l)
 |[],_=>⟨λ_ _ _ _ _ _ _ _ _ _ _ a=>by cases a⟩
 |
  M::l,c=>⟨λcall g args AP h J v ρ w d e a=>by
  simp only[Vh] at a;cases b:QG τ M args h with
  |some r=>rw[b] at a;cases a;exact Agr (c M Av) d e b
  |none=>rw[b] at a;exact (QY λM i=>c M (Az _ i)).go call g _ _ _ _ _ _ _ d e a⟩
def TJ (P:AN) (τ:Bb) (f e:Nat):Prop:=∃a:Go.Shelf.Ren,Go.Proofs.SlLaysF0.n6 P a/\a.f 6=f/\a.t 24=e/\(∀w,(isAgg e).run P w=.ok Ag w)/\EV τ f=Ag
def Akn (T:BM P τ) {S:A9} (a:JX P τ S) (L n:Nat):C8 P τ (QJ τ S L n):=by
 rw[Aig];exact JL T a (Va T S) (λc b=>J6 T b) L n
end
def TD:DC->List (Nat×Array C0)
 |.region i AU _=>[(i,AU)]
 |.seq a b=>TD a++TD b
 |.cond _ a b=>TD a++TD b
 |.block _ c=>TD c
 |.loop c=>TD c
 |.scope c=>TD c
 |_=>[]
def AAj (c:DC) (i:Nat):Nat:=((TD c).getD i (0,#[])).1
def Ajz (c:DC) (i:Nat):Array Oper:=((TD c).getD i (0,#[])).2
def VL (τ:Bb) (t:Ai) (i o:Nat):Bool:=match τ.ds.get t with
 |
  some (.struct b)=>(match b.toList[i]? with
  |
   some a=>(match τ.aj.get a.type with
   |some c=>!(Am c.size 0)&&Am a.offset o
   |none=>Ah)
  |none=>Ah)
 |_=>Ah
def bs (l:Bo):AH:=l.map λn=>.int .u8 (.ofNat n)
section
variable{P:AN} {τ:Bb}
def Ahq {o:Nat} (h:VL τ t i o=Ag):∃b a c,τ.ds.get t=I (.struct b)/\b.toList[i]?=I a/\τ.aj.get a.type=I c/\c.size≠0/\a.offset=o:=by
 unfold VL at h;split at h
 case h_2=>cases h
 rename_i b e;split at h
 case h_2=>cases h
 rename_i a f;split at h
 case h_2=>cases h
 rename_i c g;obtain⟨d,j⟩:=Dh h;refine⟨b,a,c,e,f,g,λk=>?_,Af j⟩;rw[k] at d;cases d
def Axw (T:BM P τ) (b:∀f e,τ.ex.get f=I e->J8 P f e) (d:P.check=.ok ()):JX P τ S0:={
 ov:=λf g a=>by cases a
 dv:=λf g a=>by cases a
 ex:=λf e i args AP h J v ρ w hk j k=>Afc T (b f e i) hk j k
 cr:=λf fn c l hb=>IT d (T.fn _ _ l).1 hb
 rc:=λf g a=>by cases a
 hk:=λf g a=>by cases a}
def Aue (T:BM P τ) (f:JX P τ S0) {c:DC} {a:Au} {fn:BC} {g h t3 t3':Ai} {o:Nat} {b d e:Tmp} {i j:Array C0} (k:c=.region (AAj c 0) (Ajz c 0) Ah)
 (l:YB τ a fn i j g h t3 o) (m:Agd τ (Ajz c 0) a b d e t3'):J1 P τ (HG b d e o) c:=
 (Cs (J1 P τ _) k).mpr (XX T f l m)
def Ht:∀M∈([]:List E2),JZ P τ f M:=λM a=>Cf a (KX)
def ES {M:E2} {l:List E2} (h:JZ P τ f M) (b:∀M∈l,JZ P τ f M):∀N∈M::l,JZ P τ f N:=λN a=>by
 cases a with
 |head=>exact h
 |tail _ a=>exact b N a
def Arc {t:Nat} (h:(match P.info? t with|some i=>Am i.size 1|none=>Ah)=Ag):∃a,P.info? t=I a/\a.size=1:=by
 split at h
 .rename_i i U;exact⟨i,U,Af h⟩
 .cases h
def XH {t:Nat} (h:(match P.underlying t with|some (.struct _)=>Ag|_=>Ah)=Ag) (w:AM):(isAgg t).run P w=.ok Ag w:=by
 split at h
 .rename_i b a;simp[isAgg,run_underlying a]
 .cases h
end
def YA (f:JO Unit->Option AH):List (JO Unit)->Option (List AH)
 |[]=>I []
 |
  d::l=>match f d,YA f l with
  |some a,I r=>I (a::r)
  |_,_=>Z
def YK (P:AN) (f:Ai->JO Unit->Option AH):Nat->List Field->List (JO Unit)->Option AH
 |_,[],[]=>I []
 |
  off,b::c,d::ds=>match f b.type d with
  |
   some a=>bif Am b.offset off&&Am a.length (P.cellsOf b.type) then(match YK P f (off+P.cellsOf b.type) c ds with
   |some r=>I (a++r)
   |none=>Z) else Z
  |none=>Z
 |_,_,_=>Z
def Vd (P:AN):Nat->Ai->JO Unit->Option AH
 |0,_,_=>Z
 |
  n+1,t,d=>match P.underlying t with
  |some (.int _)=>(match d with|.lit (.int k m)=>I [.int k m]|_=>Z)
  |some .bool=>(match d with|.lit (.bool b)=>I [.bool b]|_=>Z)
  |some .string=>(match d with|.lit (.string l)=>I [.string ⟨⟨l⟩⟩]|_=>Z)
  |
   some (.array m e)=>(match d with
   |
    .agg ds=>(match YA (Vd P n e) ds with
    |some a=>bif Am (P.cellsOf t) (m*P.cellsOf e)&&a.all (λl=>Am l.length (P.cellsOf e)) then I a.flatten else Z
    |none=>Z)
   |_=>Z)
  |
   some (.struct c)=>(match d with
   |
    .agg ds=>(match YK P (Vd P n) 0 c.toList ds with
    |some l=>bif Am (P.cellsOf t) l.length then I l else Z
    |none=>Z)
   |_=>Z)
  |_=>Z
section
variable{P:AN}
def S8 {f:JO Unit->Option AH}:∀{ds:List (JO Unit)} {b:List AH},YA f ds=I b->b.length=ds.length/\∀(i:Nat) (d:JO Unit),ds[i]?=I d->∃l,b[i]?=I l/\f d=I l
 |[],b,h=>by cases h;exact⟨B,λi d c=>by simp at c⟩
 |
  d::ds,b,h=>by
  simp only[YA] at h;split at h
  case h_2=>cases h
  rename_i a r e g;cases h;obtain⟨j,k⟩:=S8 g;refine⟨by simp[j],λi m c=>?_⟩;cases i with
  |zero=>cases c;exact⟨a,B,e⟩
  |succ i=>rw[B5] at c⊢;exact k i m c
def Afg {d:Type} {c:Nat}:∀{a:List (List d)} {cs:List d},cs.length=a.length*c->(∀i l,a[i]?=I l->(cs.drop (i*c)).take c=l)->cs=a.flatten
 |[],cs,b,_=>by simp at b;simp[b]
 |
  l::a,cs,b,h=>by
  have h0:=h 0 l B;simp at h0;have e:cs.drop c=a.flatten:=Afg (c:=c) (by simp[b,Dw]) (λi x f=>by
   have:=h (i+1) x (by simpa using f);rw[GR,UK c,←Nat.succ_mul];exact this)
  rw[JR,←h0,←e,FO]
def DU {base:Nat} {k:Nat->Bool} {n:Bool} {f:Ai->JO Unit->Option AH}
 (o:∀(t:Ai) (cs l:AH) (x:JO Unit×List IY),DataW.trod (λ_=>()) P w base k n m t cs=I x->f t x.1=I l->cs=l) (cs:AH):
 ∀(c:List Field) (xs:List (JO Unit×List IY)) (off:Nat) (l:AH),xs.length=c.length->
  (∀(i:Nat) (b:Field),c[i]?=I b->DataW.trod (λ_=>()) P w base k n m b.type ((cs.drop b.offset).take (P.cellsOf b.type))=xs[i]?)->
  YK P f off c (xs.map (·.1))=I l->(cs.drop off).take l.length=l
 |[],[],off,l,_,_,h=>by cases h;simp
 |
  b::c,x::xs,off,l,d,p,h=>by
  simp only[Bp,YK] at h;split at h
  case h_2=>cases h
  rename_i a s;obtain⟨u,h⟩:=C1 h;obtain⟨e,g⟩:=Dh u;have e:=Af e;have g:=Af g;split at h
  case h_2=>cases h
  rename_i r v;cases h;have y:=p 0 b B;have j:=o _ _ _ _ y s;have q:=DU o cs c xs _ r (by simpa using d) (λi z A=>by have:=p (i+1) z (by simpa using A);simpa using this) v;rw[←g] at j q;rw[e] at j;rw[Aj,List.take_add,j,GR,q]
 |[],_::_,_,_,d,_,_=>by simp at d
 |_::_,[],_,_,d,_,_=>by simp at d
def Aij {base:Nat} {L:Nat->Bool} {M:Bool}:∀(n p:Nat) (t:Ai) (cs l:AH) (x:JO Unit×List IY),DataW.trod (λ_=>()) P w base L M p t cs=I x->Vd P n t x.1=I l->cs=l:=by
 intro n
 induction n with
 |zero=>intro p t cs l x _ h;cases h
 |
  succ n A=>
  intro p t cs l x o h;simp only[Vd] at h;split at h
  .rename_i k g
   obtain⟨m,rfl,rfl,_⟩:=DataW.trod_int g o;cases h;rfl
  .rename_i g
   obtain⟨b,rfl,rfl⟩:=DataW.trod_bool g o;cases h;rfl
  .rename_i g
   obtain⟨s,rfl,rfl,_⟩:=DataW.trod_string g o;cases h;rfl
  .rename_i m e g
   obtain⟨xs,q,rfl,rfl,u,v,U⟩:=DataW.trod_array g o;simp only at h;split at h
   case h_2=>cases h
   rename_i C N;obtain⟨y,h⟩:=C1 h;cases h;obtain⟨j,D⟩:=Dh y;have j:=Af j;obtain⟨E,O⟩:=S8 N;simp only[A4] at E;refine Afg (c:=P.cellsOf e) (by rw[u,j,E,v]) λi a z=>?_;have Q:i<m:=by
    have:i<C.length:=by
     rcases A8 i C.length with h|h
     .exact h
     .rw[CD h] at z;cases z
    omega
   have F:=U i Q;obtain⟨d,H⟩:∃d,xs[i]?=I d:=⟨xs[i]'G,Ab G⟩;obtain⟨a',K,R⟩:=O i d.1 (by rw[AX,H];rfl);rw[z] at K;cases K;rw[H] at F;exact A _ _ _ _ _ F R
  .rename_i S g
   obtain⟨xs,q,rfl,rfl,u,v,U⟩:=DataW.trod_struct g o;simp only at h;split at h
   case h_2=>cases h
   rename_i r T;obtain⟨y,h⟩:=C1 h;cases h;have j:=Af y;have:=DU (λt cs l x j D=>A _ t cs l x j D) cs S.toList xs 0 l (by simpa using v) (λi f V=>U i f (by simpa using V)) T;rw[Ajb,←j,←u,CS] at this;exact this
  .cases h
end
section
variable{P:AN} {w:AM}
def LC {a:Array Obj} {x:Obj} (h:i<a.size):(a.push x)[i]?=a[i]?:=by
 rw[Ajj,Bm G]
def Abe {g:Nat} {b:Global} (a:P.globals[g]?=I b):∃zero,((begin P (λ_ _=>0) default).world.heap[g]?).bind Obj.row?=I (zero,b.type):=by
 have c:g<P.globals.size:=by
  rcases A8 g P.globals.size with h|h
  .exact h
  .rw[Dr h] at a;cases a
 have d:P.globals[g]=b:=by
  rw[By c] at a;exact Option.some.inj a
 unfold begin;simp only;rw[LC (by simp;omega),LC (by simp;omega),LC (by simp;omega),LC (by simp;omega),LC (by simp;omega),Acj,a];simp only[Ek,CC];split
 .exact⟨_,B⟩
 .exact⟨_,B⟩
def NT (c:w.ShapedOpen P) {g:Nat} {a:Global} (b:P.globals[g]?=I a):∃cs,w.heap[g]?=I (.cells cs a.type):=by
 obtain⟨zero,d⟩:=Abe b;have e:g<P.globals.size:=by
  rcases A8 g P.globals.size with h|h
  .exact h
  .rw[Dr h] at b;cases b
 obtain⟨cs,f,_⟩:=c.1 g zero a.type e d;exact⟨cs,f⟩
def SD:∀{e:List (String×JO Unit)} {ps:List IY},DataW.LaidVars P w e ps->∀{b:String} {d:JO Unit},(b,d)∈e->
 ∃g t cs c p,P.globalNamed b=I g/\(P.globals[g]?).map (·.type)=I t/\w.var? P b=I cs/\DataW.trod (λ_=>()) P w 0 (λ_=>Ag) Ah c t cs.toList=I (d,p)
 |[],_,_,_,_,a=>Cf a (KX)
 |
  (n,d0)::r,ps,h,b,d,a=>by
  obtain⟨g,t,cs,c,p,q,f,i,j,k,l,_⟩:=h;cases a with
  |head=>exact⟨g,t,cs,c,p,f,i,j,k⟩
  |tail _ a=>exact SD l a
def FK (m:w.ShapedOpen P) {c:List (String×JO Unit)} (o:laidMet P c w) {b:String} {d:JO Unit} (q:(b,d)∈c) {g:Nat} {a:Global} (e:P.globalNamed b=I g) (f:P.globals[g]?=I a) (r:Vd P n a.type d=I l):w.heap[g]?=I (.cells ⟨l⟩ a.type):=by
 obtain⟨ps,s,_⟩:=o;obtain⟨z,t,cs,u,p,h,i,j,v⟩:=SD s q;rw[e] at h;cases h;rw[f] at i;cases i;obtain⟨x,k⟩:=NT m f;have y:w.var? P b=I x:=by simp only[World.var?,e,CC,k]
 rw[y] at j;cases j;have:=Aij n u a.type cs.toList l _ v r;rw[k,←this]
def Jr (a:Nat):Ren:=λi=>if i<a then I ⟨i,0,0⟩ else Z
def H9 (P:AN) (w:AM):List (Nat×CB)->Prop
 |[]=>True
 |(g,b)::l=>(∃vs e,b=.cells vs e 0 0 Ag/\vs.all plainCell=Ag/\w.heap[g]?=I (.cells ⟨vs⟩ e))/\H9 P w l
def Io:∀{l:List (Nat×CB)},H9 P w l->∀{g:Nat} {b:CB},(g,b)∈l->∃vs e,b=.cells vs e 0 0 Ag/\vs.all plainCell=Ag/\w.heap[g]?=I (.cells ⟨vs⟩ e)
 |[],_,_,_,a=>Cf a (KX)
 |
  _::_,h,_,_,a=>by
  cases a with
  |head=>exact h.1
  |tail _ a=>exact Io h.2 a
end
section
variable{P:AN} {τ:Bb}
structure QR (w w':AM):Prop where
 size:w.heap.size<=w'.heap.size
 same:∀b,b<w.heap.size->w'.heap[b]?=w.heap[b]?
 os:w'.os=w.os
 out:w'.output=w.output
 tape:w'.tape=w.tape
def QR.kept (h:QR w w') (c:IY->Prop):w.keptBut w' c:=by
 refine⟨h.os,h.out,λi U=>?_⟩;rw[h.same i U];split
 .rename_i b a;rw[b] at a;cases a;exact⟨rfl,rfl,rfl,λ_ _=>rfl⟩
 .rename_i b a;rw[b] at a;cases a;exact .inr ⟨rfl,rfl⟩
 .rfl
def Alf {P:AN} (h:P.funcs.any Func.goes=Ah) (f:Au):P.goes f=false:=by
 have a:∀g:Au,(P.funcs[g]?).any Func.goes=false:=λg=>by
  cases b:P.funcs[g]? with
  |none=>rfl
  |
   some fn=>
   rw[Array.any_eq_false] at h;obtain⟨c,d⟩:=Array.getElem?_eq_some_iff.1 b;have:=h g c;rw[d] at this;simpa using this
 unfold Program.goes;rw[h,Bool.and_false,Bool.or_false,List.any_eq_false];intro g _;simp[a g]
def Aby {P:AN} {c:OpenClaim} (h:P.funcs.any Func.goes=Ah) (a:c.start=.entering):Ah=c.goesBy P:=by
 unfold OpenClaim.goesBy Program.goesAt Program.goesFrom;rw[a];cases P.funcNamed c.func with
 |none=>rfl
 |some f=>simp[Alf h f]
end
def Ajs:Be:=λ_ _ _ _ _=>Z
def rcG (τ:Bb) (fn:BC) (c:DC) (t:Tmp):AH->Aa->Y->Option Y:=λb v h=>match GA b fn.ntmps with
 |
  some a=>(match B7 τ Ajs 1 Z c {n:=λfr h=>I [.aE fr h],x:=λ_ _ _=>Z,r:=λ_ _=>Z,p:=λ_ _ _=>Z} ⟨a.tm.ins t v,a.sz,a.ds⟩ h with
  |some [.aE Ec J]=>bif Ec.ds.isEmpty then I J else Z
  |_=>Z)
 |none=>Z
section
variable{P:AN} {τ:Bb}
def YU:C8 P τ Ajs:=λ_ _ _ _ _ _ _ _ _ _ _ _ _ a=>by cases a
def Aft (T:BM P τ) {fn:BC} {c:DC} {t k ty:Nat} {m:String} {n:Array Edge} {o:Array Ai} (g:τ.fn.get f=I fn)
 (hb:fn.body=I (.seq (.region k #[⟨I t,.call ⟨.builtin .recover,#[],o⟩,ty,m,n,Z⟩] Ah) c)) (p:fn.results=#[]) (q:t<fn.ntmps) (r:CR P c)
 (args AP:AH) (v v':Aa) (h J:Y) (ρ:Ren) (w:AM) (s:C5 P τ ρ h w) (u:LR ρ args AP) (x:VR ρ v v') (a:rcG τ fn c t args v h=I J):
 (callFunc f ⟨AP⟩).run P w=.ok (.enter f ⟨AP⟩) w/\
 CallsDIn Fence.wide 0 P f ⟨AP⟩ (.panicking [{v:=v',recovered:=Ah}]) w λe y w'=>(∃v,e=.returned v)/\settle y=.returning/\∃C2,C5 P τ C2 J w'/\RF ρ w h C2 w' J:=by
 unfold rcG at a;split at a
 case h_2=>cases a
 rename_i d z;split at a
 case h_2=>cases a
 rename_i Ec O A;replace a:=C1 a;obtain⟨C,a⟩:=a;cases a;obtain⟨f1,f2⟩:=NW u z;have D:fn.body.isSome=true:=by rw[hb];rfl
 refine⟨MuLone.run_callFunc_enter (P:=P) (T.fn _ _ g).1 ((T.fn _ _ g).2 D) hb ⟨AP⟩ w,?_⟩;refine callsDIn_of_wpSIn (T.fn _ _ g).1 hb (by simp[Fence.wide]) λQ cs E=>?_;apply wpSIn_seq;apply wpSIn_region;have F:fn.ntmps<=((⟨AP⟩:Array Aa)++Cz (fn.ntmps-(⟨AP⟩:Array Aa).size) undef).size:=by rw[Ajf,ZB];omega
 have st:St P τ ρ ⟨d.tm.ins t v,d.sz,d.ds⟩ h {tmps:=((⟨AP⟩:Array Aa)++Cz (fn.ntmps-(⟨AP⟩:Array Aa).size) undef).setIfInBounds t v',defers:=[]} w:=
  ⟨s,TR.put f1 x (by rw[show d.sz=_ from f1.1];exact AC q F),by show DR ρ d.ds [];rw[f2];exact .nil⟩
 generalize((⟨AP⟩:Array Aa)++Cz (fn.ntmps-(⟨AP⟩:Array Aa).size) undef)=R at*;simp[wpOpsSIn,go_sem,recoverD,E,Exit.thenS];refine wpSIn_of_wpIn B ?_;refine wpIn_mono (GP T YU (J6 T YU) 1 c r (ro:=Z) (ro':=Z) st trivial A) λe a1 S H=>?_;obtain⟨K,fr1,V,W,j,L,M,b⟩:=H;cases e with
 |
  normal=>
  cases b;have:=M Av;cases List.mem_singleton.1 this;have i:=j.ds;rw[List.isEmpty_iff.1 C] at i;have N:a1.defers=[]:=by generalize a1.defers=l at i;cases i;rfl
  refine⟨N,_,B,.tuple #[],?_,⟨_,B⟩,B,K,j.hk,L⟩;simp[results,p]
 |exit id=>cases b
 |goto l=>exact b.elim
 |ret=>cases b
 |panic X=>obtain⟨_,_,_,_,b⟩:=b;cases b
 |outgrown=>exact b.elim
end
section
variable{P:AN} {τ:Bb}
open Classical in
def Avl (h:Y) (v:Aa):Aa->Y->RR:=λv' J=>if v'=v/\J.lo.ag h.nx=Ag then I [] else Z
def Z8 (n:C8 P τ call) {o:List EO} (p:call (.func f) args h.ad (Avl h v) (λ_ _=>Z)=I o) (m:DG v=Ag) (i:C5 P τ ρ h w) (q:LR ρ args AP) {k:Aa->Y->RR} (r:k v h=I outs):Hk P (callFunc f ⟨AP⟩) w (Ho P τ ρ w h k kp outs):=by
 refine(n (.func f) (.func f) args AP h.ad _ _ _ ρ w i (.func f) q p).mono λs w' j=>?_;cases s with
 |outgrown=>exact j
 |panicked L=>obtain⟨_,_,_,_,_,_,_,_,_,hb,_⟩:=j;cases hb
 |
  returned v'=>
  obtain⟨M,N,t,O,u,Q,x,l,R⟩:=j;unfold Avl at l;split at l
  case isFalse=>cases l
  rename_i d;obtain⟨rfl,y⟩:=d;have a:=x.br;have z:∀c pl',t.lo.has c->ρ c=I pl'->False:=λc pl' A g=>by
   rcases A8 c h.nx with d|d
   .exact GO y d A
   .rw[i.1.fresh c d] at g;cases g
  have hb:∀b,b<w.heap.size->w'.heap[b]?=w.heap[b]?:=λb hb=>a.ae b hb λC D E F=>(z C D E F).elim;have e:=u.aL m;subst e;exact⟨ρ,_,_,outs,.ak m,i.grow a.size hb,⟨⟨λ_ _=>rfl,a.size,λb hb' _=>hb b hb',λc pl' H g=>(by rw[i.1.fresh c H] at g;cases g),Ae _,a.os,a.out,a.tape,a.drawn⟩,AF.refl _⟩,r,λ_ K=>K⟩
end
end
end
end Go.Ev
