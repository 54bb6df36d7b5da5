/-
  A part of the proof.
-/
import Derived.Test.YthifijhldmpodaaGreatDoorQ4
import Derived.Test.YthifijhldmpodaaGreatDoorQ1
set_option maxRecDepth 100000
set_option maxHeartbeats 40000000
set_option linter.all false
open Bool renaming false->Ah,true->Ag,eq_false_iff->MK,or_eq_false_iff->Iy,and_eq_true->An,and_true->Mh
open Go renaming Addr->BD,Code->DC,Func->BC,FuncId->Au,IntKind->Cq,MapEntry->Ap,TypeId->Ai,TypeInfo->KR,Value->Aa
open Option renaming none->Z,some->I
open List renaming getD_eq_getElem?_getD->Ak,getElem?_eq_getElem->Ab,take_of_length_le->Bj,take_append_drop->FO,getElem?_set->Iu,getElem?_of_mem->Iz,pairwise_iff_getElem->F8,mem_of_getElem?->AZ,getElem?_drop->Eg,getElem?_append_right->Bq,getElem?_map->AX,getElem?_append_left->AB,nil_append->IW,length_nil->Acd,take_append_of_le_length->UR,count_append->K0,getElem_mem->Bu,getElem?_eq_none->CD,replicate->AE,eq_of_mem_replicate->CH,map_set->Cp,mem_or_eq_of_mem_set->BT,all_eq_true->Jf,replicate_append_replicate->Qi,length_append->Aj,length_singleton->Br,length_drop->AV,getElem?_set_ne->Amv,flatMap_cons->Dg,length_cons->AO,mem_cons_self->Av,mem_cons_of_mem->Az,take_succ_eq_append_getElem->A5,map_append->BS,sum_append->PC,map_cons->Bp,sum_cons->Amw,take_length->CS,drop_zero->Ajb,flatMap_append->E0,getElem?_take->LS,set_append->Hj,length_take->Cg,append_assoc->KA,all_append->Aph,drop_drop->GR,eq_nil_of_length_eq_zero->BO,append_nil->Fb,length_map->A4,getElem?_set_self->O4,range->BG,range_succ->Acb,perm_append_singleton->Gm,nodup_nil->Jg,contains_eq_mem->Ace
open Array renaming length_toList->EZ
open Nat renaming lt_trichotomy->FD,blt->AD,blt_eq->AK,beq->Am,zero_le->Al,eq_zero_or_pos->KQ,lt_or_ge->A8,le_refl->Ae,lt_of_lt_of_le->AC,le_trans->Ao,add_sub_cancel_left->Ds,le_of_ble_eq_true->Ac,ble->Ar,eq_of_beq_eq_true->Af,le_of_eq->A2,or_lt_two_pow->Zz,succ->A3,mul_one->BJ,zero_add->Ba,zero_mul->Qg,add_mul->Dw,add_comm->UK,mul_le_mul->Cj,add_zero->UL,add_assoc->DD,ble_eq_true_of_le->Aq,min_eq_left->N4,not_lt_zero->F5,lt_irrefl->W7,beq_refl->Mi,rec->UE,sub_zero->DL
open Go.Value renaming bool->CU,int->AL,tuple->C4,slice->PA
namespace Go.Ev
open Go Go.Proofs Tryz
noncomputable section
section
variable {h J h0 h1 H:Y} {v fv nv pv cv ev lv u v':Aa} {xs args vs ys:AH} {n b N i k e r j x m c q d a p t2 st sb mo ck lp rm b0 sz off:Nat} {t:Ai} {f:Au} {fn:BC} {s:Bd} {bs:Bl} {ws:Bo} {W:Nat->Prop} {Q:Aa->Y->Prop} {A:Option BD} {z df day:Int} {ss:BZ} {τ:Bb}
variable{S:A9} {L:Nat}
def gS (l:BZ) (i:Nat):Bl:=(l.getD i ⟨#[]⟩).data.toList
def Js {l:BZ} {i:Nat} (U:i<l.length):gS l i=l[i].data.toList:=by
 unfold gS;rw[Ak,Ab U];rfl
def J9 (s:Bd):s.size=s.data.toList.length:=by rw[EZ];rfl
def Td:∀a b:Bl,KJ a b=Ag\/a=b\/KJ b a=Ag
 |[],[]=>.inr (.inl B)
 |[],_::_=>.inl B
 |_::_,[]=>.inr (.inr B)
 |
  a::l,b::m=>by
  rcases FD a.toNat b.toNat with h|h|h
  .left;show(bif AD a.toNat b.toNat then Ag else _)=Ag;rw[show AD a.toNat b.toNat=Ag by rw[AK];exact h];rfl
  .have e:a=b:=UInt8.toNat_inj.1 h
   subst e;have c:∀x y:Bl,KJ (a::x) (a::y)=KJ x y:=λx y=>by
    show(bif AD a.toNat a.toNat then Ag else bif Am a.toNat a.toNat then KJ x y else Ah)=_
    rw[show AD a.toNat a.toNat=Ah by rw[MK,ne_eq,AK];omega,show Am a.toNat a.toNat=Ag by simp];rfl
   rw[c,c];rcases Td l m with h|h|h
   .exact .inl h
   .exact .inr (.inl (by rw[h]))
   .exact .inr (.inr h)
  .right;right;show(bif AD b.toNat a.toNat then Ag else _)=Ag;rw[show AD b.toNat a.toNat=Ag by rw[AK];exact h];rfl
def Apy (l:BZ):Prop:=l.length<=20000/\(∀i,i<l.length->1<=(gS l i).length/\(gS l i).length<=256)/\∀i,i+1<l.length->KJ (gS l i) (gS l (i+1))=Ag
def CM (l:BZ):(AR l).length=l.length:=by simp[AR]
def ABk (s:Base S L) {h:Y} {v:Aa} {l:BZ} (r:Rd h v 1 l.length (AR l)):
 Bk S L 1 169 [v] h λw J=>J=h/\(w=Vi 0/\Apy l\/w=Vi 1\/w=Vi 2):=
 Cn f169 s λd N O=>by
  obtain⟨u,c,f,rfl,x,y,z⟩:=r;have C:Rd h (.slice c l.length f) 1 l.length (AR l):=⟨u,c,f,B,x,y,z⟩;apply Bz<;>intro e
  .exact⟨B,.inr (.inr B)⟩
  refine⟨λp A b=>b=h/\∃k:Nat,A=[(0,.slice c l.length f),(8,.slice c l.length f),(9,Vi l.length),(10,Vi k)]/\k<=l.length/\p=l.length-k/\
   (∀i,i<k->1<=(gS l i).length/\(gS l i).length<=256)/\∀i,i+1<k->KJ (gS l i) (gS l (i+1))=Ag,
   ⟨_,_,Sq,?_,B,0,B,Al _,B,λi U=>G,λi U=>G⟩,?_⟩
  .omega
  rintro p A b ⟨rfl,k,rfl,P,rfl,f1,f2⟩ Q;apply Bz<;>intro R
  .have g:k<l.length:=G
   obtain⟨a1,T,D,_,q⟩:=C.at_ G;cases D;have E:=Rd.ld q (t:=9) B (j:=((k:Int)).toNat*1) (i:=k) (by show k*1=k;omega) (Dl g);refine⟨G,_,E,_,B,Ad (λm=>?_) (λm=>?_)⟩
   .exact⟨B,.inr (.inl B)⟩
   have F:1<=(gS l k).length:=by
    rw[Js g];rcases KQ l[k].data.toList.length with h0|h0
    .have:l[k].data.toList=[]:=List.length_eq_zero_iff.1 h0
     rw[this] at m;cases m
    .exact h0
   apply Bz<;>intro V
   .exact⟨B,.inr (.inl B)⟩
   have H:(gS l k).length<=256:=by rw[Js g,←J9];omega
   have Da:∀(b:0<k->KJ (gS l (k-1)) (gS l k)=Ag),(∀i,i<k+1->1<=(gS l i).length/\(gS l i).length<=256)/\∀i,i+1<k+1->KJ (gS l i) (gS l (i+1))=true:=λb=>
    ⟨λi U=>by
     rcases A8 i k with h|h
     .exact f1 i h
     .have:i=k:=G
      subst this;exact⟨F,H⟩,λi U=>by
     rcases A8 (i+1) k with h|h
     .exact f2 i h
     .have:k=i+1:=G
      subst this;exact b G⟩
   apply Bz<;>intro W
   .have K:=Rd.ld q (t:=9) B (j:=((k:Int)-1).toNat*1) (i:=k-1) G (Dl (show k-1<l.length by omega))
    refine⟨Pq,G,_,K,_,B,Ad (λa=>?_) (λa=>?_)⟩
    .exact⟨B,.inr (.inl B)⟩
    have M:KJ (gS l (k-1)) (gS l k)=true:=by
     rw[Js g,Js (show k-1<l.length by omega)];have a:(KJ l[k].data.toList l[k-1].data.toList||Gp l[k].data.toList l[k-1].data.toList)=false:=a;rw[Iy] at a;rcases Td l[k-1].data.toList l[k].data.toList with h|h|h
     .exact h
     .have:Gp l[k].data.toList l[k-1].data.toList=true:=by rw[J0,beq_iff_eq];exact h.symm
      rw[a.2] at this;cases this
     .rw[a.1] at h;cases h
    obtain⟨n,o⟩:=Da (λ_=>M);refine⟨Pq,_,_,Sq,?_,B,k+1,B,G,B,n,o⟩;omega
   .obtain⟨n,o⟩:=Da (λ_=>G)
    refine⟨Pq,_,_,Sq,?_,B,k+1,B,G,B,n,o⟩;omega
  .obtain rfl:k=l.length:=G
   exact⟨B,.inl ⟨B,G,f1,f2⟩⟩
def Lq (l:BZ) (a b d:Nat):Prop:=a<=b/\b<=l.length/\∀i,a<=i->i<b->d<=(gS l i).length/\(gS l i).take d=(gS l a).take d
def Y1:∀y z:Bl,KJ (y++z) y=Ah
 |[],z=>by cases z<;>rfl
 |
  a::y,z=>by
  show(bif AD a.toNat a.toNat then Ag else bif Am a.toNat a.toNat then KJ (y++z) y else Ah)=_
  rw[show AD a.toNat a.toNat=Ah by rw[MK,ne_eq,AK];omega,show Am a.toNat a.toNat=Ag by simp];exact Y1 y z
def Abg {l:BZ} (s:Apy l) {a b d:Nat} (o:Lq l a b d) {j:Nat} (h1:a<j) (f:j<b):d<(gS l j).length:=by
 obtain⟨m,n,e⟩:=o;obtain⟨p,g⟩:=e j G f;rcases A8 d (gS l j).length with h|h
 .exact h
 have i:gS l j=(gS l j).take d:=(Bj h).symm;obtain⟨q,k⟩:=e (j-1) G G;have c:=s.2.2 (j-1) G;rw[show j-1+1=j by omega] at c;rw[i,g,←k] at c;have:=Y1 ((gS l (j-1)).take d) ((gS l (j-1)).drop d);rw[FO] at this;rw[this] at c;cases c
def XE (h:Y) (c bl:Nat) (v:Aa) (l:BZ) (a b d:Nat):Prop:=Cell h c 0 (.int .i64 a)/\Cell h c 1 (.int .i64 b)/\Cell h c 2 (.int .i64 d)/\Cell h bl 0 v/\Rd h v 1 l.length (AR l)
def ZP (S:A9) (L:Nat) (d:Nat) (f:Fn) (args:AH) (h:Y) (Q:Aa->Y->Prop):Prop:=∀n,d<=n->Cd (B8 Ax S L n) f args h Q
def Ayq {a b:UInt8} (h:(a.toNat:Int)=(b.toNat:Int)):a=b:=by
 have:a.toNat=b.toNat:=G;exact UInt8.toNat_inj.1 this
def AGb (m:Base S L) {h:Y} {v:Aa} {l:BZ} (r:Rd h v 1 l.length (AR l)) {a b e:Nat}:
 Bk S L 1 170 [.agg #[Vi a,Vi b,Vi e],v] h λw J=>AA h J/\∃g bl,h.nx<=g/\h.nx<=bl/\w=.func (.func 238) #[] #[AG g 0,AG bl 0]/\XE J g bl v l a b e:=
 Cn f170 m λd t _=>by
  obtain⟨h1,b1,i,n,u⟩:=H1 Ax 276 (.agg #[Vi a,Vi b,Vi e]) h;obtain⟨o,p,f,k,x⟩:=H1 Ax 55 v h1;have q:Own o h1.nx 55 [v]:=by
   have:AJ v=[v]:=by obtain⟨_,A,c,rfl,_⟩:=r;rfl
   rw[this] at k;exact k
  have s:=i.nx;have j:Own h1 h.nx 276 [Vi a,Vi b,Vi e]:=n;refine⟨_,_,b1,_,_,p,i.trans f,h.nx,h1.nx,Ae _,s,B,(j.cell B).ext f,(j.cell B).ext f,(j.cell B).ext f,q.cell B,r.ext (i.trans f)⟩
def ADl (W:Base S L) {h:Y} {x y bl:Nat} {v:Aa} {l:BZ} {a b e dy:Nat} (D:Apy l) (E:Lq l a b e) (o:Nat->Y->Prop) (M:∀i f,o i f->XE f y bl v l a b e)
 (h0:∀i,i=a\/i=a+1->o i h) (X:∀i k f,o i f->a<=i->i<k->k<=b->e<(gS l i).length->Lq l i k (e+1)->ZP S L dy (.yield x) [.agg #[Vi i,Vi k,Vi ((e:Int)+1)]] f λu J=>u=.bool Ag/\o k J):
 Bk S L (dy+1) 238 [.func (.yield x) #[] #[],AG y 0,AG bl 0] h λ_ J=>∃i,i<=l.length+1/\o i J:=
 Cn f238 W λd af hL=>by
  have ag:=D.1;obtain⟨CN,aa,z⟩:=E;have E:Lq l a b e:=⟨CN,aa,z⟩;obtain⟨s1,s2,s3,s4,s5⟩:=M a h (h0 a (.inl B));have N:=h0 a (.inl B);have O:∀j,a<j->j<b->e<(gS l j).length:=λj h1 c=>Abg D E h1 c
  let F:Nat->As->Y->Prop:=λp A f=>∃i:Nat,A=[(0,.func (.yield x) #[] #[]),(1,AG y 0),(2,AG bl 0),(4,Vi i)]/\a<=i/\i<=b/\p=b-i/\(∀j,i<=j->j<b->e<(gS l j).length)/\o i f
  refine⟨_,ld B s1,[],Kq,_,ld B s2,Ad (λg=>?a) (λg=>?b)⟩
  case' b=>
   refine⟨F,⟨_,_,Sq,?_,a,B,Ae _,CN,B,λj h1 c=>?_,N⟩,?_⟩
  case' a=>
   obtain⟨a1,y1,rfl,_,q1⟩:=s5.at_ (by have:=Fp g;omega);refine⟨_,ld B s4,⟨G,by have:=Fp g;omega⟩,_,Rd.ld q1 (t:=9) B (j:=((a:Int)).toNat*1) (i:=a) (by show a*1=a;omega) (Dl (by have:=Fp g;omega)),_,ld B s3,Ad (λC=>?a1) (λC=>?a2)⟩
  case' a1=>
   refine⟨Pq,F,⟨_,_,Sq,?_,a+1,B,G,by have:=Fp g;omega,B,λj h1 c=>O j G c,h0 _ (.inr B)⟩,?_⟩
  case' a2=>
   refine⟨F,⟨_,_,Sq,?_,a,B,Ae _,CN,B,λj h1 c=>?_,N⟩,?_⟩
  all_goals first
   |omega
   |(have g:=KK g;omega)
   |(
    rcases A8 a j with h|h
    .exact O j h c
    .have g:=Fp g
     have C:=KK C;obtain rfl:j=a:=by omega
     have:=(z j (Ae _) c).1;rw[Js (show j<l.length by omega)] at this⊢;rw[J9] at C;omega)
   |skip
  all_goals
   rintro p A f ⟨i,rfl,ab,ah,rfl,m,H⟩ ai;obtain⟨w1,P,K,Q,w5⟩:=M i f H;refine⟨_,ld B P,Bz (λe3=>?_) (λe3=>?_)⟩;rotate_left
   .exact⟨i,G,H⟩
   obtain⟨a2,y2,e9,_,R⟩:=w5.at_ G;cases e9;have aj:=m i (Ae _) G;have ak:=(D.2.1 i G).2;refine⟨Pq,λp A J=>J=f/\∃k:Nat,A=[(0,.func (.yield x) #[] #[]),(1,AG y 0),(2,AG bl 0),(4,Vi i),(5,Vi k)]/\i<k/\k<=b/\p=b-k/\∀j,i<=j->j<k->(gS l j)[e]?=(gS l i)[e]?,
    ⟨_,_,Sq,?_,B,i+1,B,G,G,B,λj h1 c=>by rw[show j=i by omega]⟩,?_⟩
   .omega
   rintro p A J ⟨rfl,k,rfl,ad,T,rfl,V⟩ al;refine⟨[],Kq,_,ld B P,Bz (λe4=>?_) (λe4=>?_)⟩;have q:=m k G G;have r:=m i G G;have s:k<l.length:=G;have w:i<l.length:=G;rw[Js s,←J9] at q;rw[Js w,←J9] at r;refine⟨_,ld B Q,G,_,Rd.ld R (t:=9) B (j:=((k:Int)).toNat*1) (i:=k) (by show k*1=k;omega) (Dl s),_,ld B K,G,
    _,ld B Q,G,_,Rd.ld R (t:=9) B (j:=((i:Int)).toNat*1) (i:=i) (by show i*1=i;omega) (Dl w),_,ld B K,G,Ad (λn=>?_) (λn=>?_)⟩
   .have n:=Ayq (Fp n)
    have s:k<l.length:=G;have w:i<l.length:=G;have q:=m k G G;have r:=m i G G;rw[Js s] at q;rw[Js w] at r;have e6:(gS l k)[e]?=(gS l i)[e]?:=by
     rw[Js s,Js w];have n:l[k].data.toList.getD e 0=l[i].data.toList.getD e 0:=n;rw[Ak,Ak,Ab q,Ab r] at n;rw[Ab q,Ab r];exact Cs I n
    refine⟨Pq,_,_,Sq,G,B,k+1,B,G,G,B,λj h1 c=>?_⟩;rcases A8 j k with h|h
    .exact V j h1 h
    .rw[show j=k by omega];exact e6
   all_goals
    refine⟨_,ld B K,Pq,_,X i k J H ab ad T (m i (Ae _) G) ⟨G,G,λj h1 c=>⟨m j h1 G,?_⟩⟩ d G,?_⟩
    .rw[List.take_add_one,List.take_add_one,V j h1 c,(z j G G).2,(z i G G).2]
    rintro _ c ⟨rfl,ae⟩;refine⟨_,_,B,?_⟩;exact⟨_,_,Sq,G,k,B,G,T,B,λj h1 c=>m j G c,ae⟩
end
structure Ct where
 am:Nat->Prop
 holds:Y->Prop
 aH:∀{W:Nat->Prop} {h J:Y},B0 W h J->(∀i,am i->¬W i)->holds h->holds J
 lt:∀{h:Y},holds h->∀i,am i->i<h.nx
 bk:∀{h J:Y},holds J->holds (h.aa J)
def aO (b:Nat) (e:Ai) (xs:AH):Ct:={
 am:=λi=>i=b
 holds:=λh=>Own h b e xs
 aH:=λc a o=>o.ae c (a b B)
 lt:=λo i U=>by rw[U];exact o.1
 bk:=λo=>o.aa}
def aS (N:Nat) (e:Ai) (k:Nat) (v:Aa) (n:Nat) (xs:AH):Ct:={
 am:=BY v
 holds:=λh=>AS h N e k v n xs
 aH:=λc a o=>o.ae c a
 lt:=λo i U=>o.aw i U
 bk:=λo=>o.aa}
def aB (b:Nat) (x:HB):Ct:={
 am:=λi=>i=b
 holds:=λh=>b<h.nx/\h.t.get b=I x
 aH:=λc a o=>⟨AC o.1 c.nx,(c.t b o.1 (a b B)).trans o.2⟩
 lt:=λo i U=>by rw[U];exact o.1
 bk:=λo=>by rw[CL,DF];exact o}
def Sep (h0 h:Y) (l:List Ct):Prop:=AA h0 h/\(∀(i:Nat) (a:Ct),l[i]?=I a->a.holds h/\∀x,a.am x->h0.nx<=x)/\
 ∀(i j:Nat) (a b:Ct),i≠j->l[i]?=I a->l[j]?=I b->∀x,a.am x->¬b.am x
def Sep.nil (h:Y):Sep h h []:=⟨AA.refl h,λi a e=>by simp at e,λi j a b _ e=>by simp at e⟩
section
variable{h0 h:Y} {l:List Ct}
def Sep.e (s:Sep h0 h l):AA h0 h:=s.1
def Sep.dD (s:Sep h0 h l) {i b e:Nat} {xs:AH} (U:l[i]?=I (aO b e xs)):Own h b e xs:=(s.2.1 i _ U).1
def Sep.sl (s:Sep h0 h l) {i N e k n:Nat} {v:Aa} {xs:AH} (U:l[i]?=I (aS N e k v n xs)):AS h N e k v n xs:=(s.2.1 i _ U).1
def Sep.a7 (s:Sep h0 h l) {i b:Nat} {x:HB} (U:l[i]?=I (aB b x)):h.t.get b=I x:=(s.2.1 i _ U).1.2
def Sep.ge (s:Sep h0 h l) {i:Nat} {a:Ct} (U:l[i]?=I a):∀x,a.am x->h0.nx<=x:=(s.2.1 i _ U).2
def Sep.ext (s:Sep h0 h l) {J:Y} (x:AA h J):Sep h0 J l:=
 ⟨s.1.trans x,λi a U=>⟨a.aH (x.ae λ_=>False) (λ_ _ h=>h) (s.2.1 i a U).1,(s.2.1 i a U).2⟩,s.2.2⟩
def Sep.ah (s:Sep h0 h l) {i:Nat} {a a':Ct} {J:Y} (U:l[i]?=I a) (c:B0 a.am h J) (t:a'.holds J) (u:∀x,a'.am x->a.am x\/h.nx<=x):Sep h0 J (l.set i a'):=by
 obtain⟨v,g,n⟩:=s;have y:i<l.length:=(List.getElem?_eq_some_iff.1 U).1;refine⟨v.then c (g i a U).2,λj b d=>?_,λj k b o w d m x f p=>?_⟩
 .rw[Iu] at d
  split at d
  .rename_i e
   subst e;cases d;refine⟨t,λx f=>?_⟩;rcases u x f with h|h
   .exact(g i a U).2 x h
   .exact Ao v.nx h
  .rename_i e
   exact⟨b.aH c (λx f=>λt=>n i j a b e U d x t f) (g j b d).1,(g j b d).2⟩
 .rw[Iu] at d m
  split at d<;>split at m
  .rename_i q r;exact w (q.symm.trans r)
  .rename_i q r
   cases d;rcases u x f with h|h
   .exact n i k a o r U m x h p
   .have:=o.lt (g k o m).1 x p;omega
  .rename_i q r
   cases m;rcases u x p with h|h
   .exact n j i b a (λh=>q h.symm) d U x f h
   .have:=b.lt (g j b d).1 x f;omega
  .exact n j k b o w d m x f p
def Sep.add (s:Sep h0 h l) {a:Ct} {J:Y} (x:AA h J) (m:a.holds J) (d:∀i,a.am i->h.nx<=i):Sep h0 J (a::l):=by
 have k:=s.ext x;refine⟨k.1,λi b U=>?_,λi j b e n U f y c g=>?_⟩
 .cases i with
  |zero=>cases U;exact⟨m,λy c=>Ao s.1.nx (d y c)⟩
  |succ i=>exact k.2.1 i b (by simpa using U)
 .cases i with
  |
   zero=>
   cases U;cases j with
   |zero=>exact n B
   |
    succ j=>
    have:=e.lt (s.2.1 j e (by simpa using f)).1 y g;have:=d y c;omega
  |
   succ i=>
   cases j with
   |
    zero=>
    cases f;have:=b.lt (s.2.1 i b (by simpa using U)).1 y c;have:=d y g;omega
   |succ j=>exact s.2.2 i j b e (G) (by simpa using U) (by simpa using f) y c g
def Sep.aZ (s:Sep h0 h l) {i:Nat} {a a':Ct} {J:Y} (U:l[i]?=I a) (c:B0 a.am h.ad J) (b:a'.holds J) (d:∀x,a'.am x->a.am x\/h.nx<=x):Sep h0 (h.aa J) (l.set i a'):=
 s.ah U c.aa (a'.bk b) d
def Sep.bz (s:Sep h0 h l) {J:Y} (x:AA h.ad J):Sep h0 (h.aa J) l:=s.ext x.aa
def Sep.cf (s:Sep h0 h l) {a:Ct} {J:Y} (x:AA h.ad J) (b:a.holds J) (c:∀i,a.am i->h.nx<=i):Sep h0 (h.aa J) (a::l):=s.add x.aa (a.bk b) c
def Sep.st {t:Ai} (a:Gv Ax t=Ag) (s:Sep h0 h l) {i b e:Nat} {xs:AH} (U:l[i]?=I (aO b e xs)) {j:Nat} (c:j<xs.length) {v:Aa} (d:one v=Ag):
 ∃J,BA Ax t h b j v=I J/\Sep h0 J (l.set i (aO b e (xs.set j v))):=by
 obtain⟨J,a1,f,g⟩:=Own.st a (s.dD U) c d;exact⟨J,a1,s.ah U g.ae f λx k=>.inl k⟩
def Sep.stM {t:Ai} (a:Gv Ax t=Ag) (s:Sep h0 h l) {i b e:Nat} {xs:AH} (U:l[i]?=I (aO b e xs)) {j:Nat} (c:j<xs.length) {v:Aa} (d:one v=Ag):
 ∃J,BA Ax t h.ad b j v=I J/\Sep h0 (h.aa J) (l.set i (aO b e (xs.set j v))):=by
 obtain⟨J,a1,f,g⟩:=Own.st (h:=h.ad) a (s.dD U) c d;exact⟨J,a1,s.aZ U g.ae f λx k=>.inl k⟩
def Sep.cC {τ:Bb} {t:Ai} (c:Gv τ t=Ag) (s:Sep h0 h l) {i b e:Nat} {xs:AH} (U:l[i]?=I (aO b e xs)) {j:Nat} (d:j<xs.length) {v:Aa} (f:one v=Ag):
 ∃J,BA τ t h.ad b j v=I J/\Sep h0 (h.aa J) (l.set i (aO b e (xs.set j v)))/\Er b h (h.aa J):=by
 obtain⟨J,a1,g,a⟩:=Own.st (h:=h.ad) c (s.dD U) d f;exact⟨J,a1,s.aZ U a.ae g (λx k=>.inl k),a.aa⟩
def Sep.ba {st t2 e k:Nat} (b:G1 Ax st t2 e k=Ag) (s:Sep h0 h l) {i N n:Nat} {v:Aa} {xs ys:AH} (U:l[i]?=I (aS N e k v n xs)) (c:ys.length=k) (d:ys.all one=Ag) (f:N<=h.nx) (hb:n+1<=1000000000) {n':Nat} {xs':AH} (g:n'=n+1) (j:xs'=xs++ys):
 ∃a J,Bx Ax .append [st,t2] [v,.slice (I ⟨h.nx,0,Z⟩) 1 1] (BN h e ys)=I (a,J)/\Sep h0 J (l.set i (aS N e k a n' xs')):=by
 subst g j;obtain⟨a,J,t1,t2,t3,t4⟩:=Go.Ev.Tz b (s.sl U) c d f hb;exact⟨a,J,t1,s.ah U t3 t2 t4⟩
def Sep.perm (s:Sep h0 h l) {l':List Ct} (p:l.Perm l'):Sep h0 h l':=by
 obtain⟨m,n,o⟩:=s;have q:∀a∈l,a.holds h/\∀x,a.am x->h0.nx<=x:=λa r=>by
  obtain⟨i,U⟩:=Iz r;exact n i a U
 have t:l.Pairwise λa b=>∀x,a.am x->¬b.am x:=by
  rw[F8];intro i j U c v;exact o i j _ _ (G) (Ab U) (Ab c)
 have d:=(p.pairwise_iff (λ{a b} u x e f=>u x f e)).1 t;rw[F8] at d;refine⟨m,λi a U=>q a (p.symm.subset (AZ U)),λi j a b w U c=>?_⟩;obtain⟨g,rfl⟩:=List.getElem?_eq_some_iff.1 U;obtain⟨k,rfl⟩:=List.getElem?_eq_some_iff.1 c;rcases A8 i j with h|h
 .exact d i j g k h
 .exact λx e f=>d j i k g (G) x f e
def Sep.drop (s:Sep h0 h l) (n:Nat):Sep h0 h (l.drop n):=
 ⟨s.1,λi a U=>s.2.1 (n+i) a (by rw[Eg] at U;exact U),λi j a b d U c=>s.2.2 (n+i) (n+j) a b (G) (by rw[Eg] at U;exact U) (by rw[Eg] at c;exact c)⟩
def Oc (D:Bo):List Ct:=D.map λd=>aB d (.aq Ah)
def Sep.aq {D:Bo} (s:Sep h0 h (l++Oc D)):D.Nodup/\(∀d∈D,h.t.get d=I (.aq Ah))/\(∀d∈D,h0.nx<=d)/\∀J,B0 (·∈D) h J->Sep h0 J l:=by
 obtain⟨r,p,m⟩:=s;have k:∀(i:Nat) d,D[i]?=I d->(l++Oc D)[l.length+i]?=I (aB d (.aq Ah)):=λi d f=>by
  rw[Bq (G),Ds];unfold Oc;rw[AX,f];rfl
 have n:∀d∈D,h.t.get d=I (.aq Ah)/\h0.nx<=d:=λd f=>by
  obtain⟨i,U⟩:=Iz f;have:=p _ _ (k i d U);exact⟨this.1.2,this.2 d B⟩
 refine⟨?_,λd f=>(n d f).1,λd f=>(n d f).2,λJ c=>⟨r.then c λi U=>(n i U).2,λi a U=>?_,λi j a b u U g=>?_⟩⟩
 .rw[List.nodup_iff_pairwise_ne,F8]
  intro i j U g z e;exact m _ _ _ _ (G) (k i _ (Ab U)) (k j _ (Ab g)) D[i] B (show D[i]=D[j] from e)
 .have o:i<l.length:=(List.getElem?_eq_some_iff.1 U).1
  have q:(l++Oc D)[i]?=I a:=by rw[AB o];exact U
  have:=p i a q;refine⟨a.aH c (λx v w=>?_) this.1,this.2⟩;obtain⟨j,g⟩:=Iz w;exact m i _ a _ (G) q (k j x g) x v B
 .have o:i<l.length:=(List.getElem?_eq_some_iff.1 U).1
  have y:j<l.length:=(List.getElem?_eq_some_iff.1 g).1;exact m i j a b u (by rw[AB o];exact U) (by rw[AB y];exact g)
def Ro {s:WS} {N x:Nat} (h:s.ag N=Ag) (c:x<N):s.hasB x=false:=by
 cases s with
 |no=>rfl
 |one b=>have:=Ac (show Ar N b=Ag from h);exact Bool.eq_false_iff.2 λe=>by have:=Af e;omega
 |rest lo=>have:=Ac (show Ar N lo=Ag from h);exact Bool.eq_false_iff.2 λe=>by have:=Ac e;omega
 |
  pair b lo=>
  have a:(Ar N b&&Ar N lo)=true:=h;rw[An] at a;have d:=Ac a.1;have f:=Ac a.2;show(Am x b||Ar lo x)=Ah;rw[Iy];exact⟨Bool.eq_false_iff.2 λe=>by have:=Af e;omega,Bool.eq_false_iff.2 λe=>by have:=Ac e;omega⟩
def B0.hasB {h J:Y} {W:Nat->Prop} {b0 x:Nat} (c:B0 W h.ad J) (a:∀i,W i->i=b0) (b:x<h.nx) (d:x≠b0):J.lo.hasB x=false:=by
 rcases A8 b0 h.nx with hb|hb
 .rcases c.g h.nx b0 (by rw[BF];exact Ae _) hb (λi U=>.inl (a i U)) (by rw[DZ];exact .inl B) with e|e|⟨lo,f,e⟩
  .exact Ro e b
  .rw[e];exact Bool.eq_false_iff.2 λe=>d (Af e)
  .rw[e]
   show(Am x b0||Ar lo x)=Ah;rw[Iy];exact⟨Bool.eq_false_iff.2 λe=>d (Af e),Bool.eq_false_iff.2 λe=>by have:=Ac e;omega⟩
 .exact Ro (c.lo h.nx (by rw[BF];exact Ae _) (λi U=>by rw[a i U];exact hb) (by rw[DZ];rfl)) b
def B0.cQ {h J:Y} {N e k n x:Nat} {v:Aa} {xs:AH} (c:B0 (BY v) h.ad J) (o:AS h N e k v n xs) (a:x<h.nx) (d:¬BY v x):J.lo.hasB x=false:=by
 obtain⟨_,⟨rfl,_⟩|⟨b,f,sp,rfl,_⟩⟩:=o
 .exact c.hasB (b0:=x+1) (λi U=>U.elim) a (G)
 .exact c.hasB (b0:=b) (λi U=>U) a d
def Sep.bo {st t2 e k:Nat} (d:G1 Ax st t2 e k=Ag) (s:Sep h0 h l) {i N n:Nat} {v:Aa} {xs ys:AH} (U:l[i]?=I (aS N e k v n xs)) (c:ys.length=k) (f:ys.all one=Ag) (g:N<=h.nx) (hb:n+1<=1000000000) {n':Nat} {xs':AH} (j:n'=n+1) (m:xs'=xs++ys):
 ∃a,BN h.ad e ys=a/\∃b J,Bx Ax .append [st,t2] [v,.slice (I ⟨h.nx,0,Z⟩) 1 1] (h.aa a).ad=I (b,J)/\Sep h0 ((h.aa a).aa J) (l.set i (aS N e k b n' xs'))/\∀x,x<h.nx->¬Go.Ev.BY v x->J.lo.hasB x=false:=by
 subst j m;obtain⟨a,o,x,b,J,t1,t2,t3,t4⟩:=Go.Ev.Aef d (s.sl U) c f g hb;exact⟨a,o,b,J,t1,(s.ext x).aZ U t3 t2 t4,λy c p=>t3.cQ ((s.ext x).sl U) (AC c x.nx) p⟩
def Sep.box (τ:Bb) (t:Ai) (v:Aa) (s:Sep h0 h l):∃g,K7 τ t v h=I (AG h.nx 0,g)/\Sep h0 g (aO h.nx t (AJ v)::l):=
 ⟨_,B,s.add (AA.row _ _ _) (Own.row _ _ _) λi U=>A2 U.symm⟩
def JB:∀(vs pre xs:AH),vs.length=xs.length->I2 (pre++xs) pre.length vs=pre++vs
 |[],pre,xs,h=>by cases xs with|nil=>rfl|cons _ _=>cases h
 |
  v::vs,pre,xs,h=>by
  cases xs with
  |nil=>cases h
  |
   cons x xs=>
   rw[I2];have a:(pre++x::xs).set pre.length v=(pre++[v])++xs:=by simp
   rw[a,show pre.length+1=(pre++[v]).length by simp,JB vs (pre++[v]) xs (by simpa using h)];simp
def Sep.var {t:Ai} {z:Aa} (g:CP Ax t=I z) (s:Sep h0 h l) {v:Aa} (b:(match Ax.aj.get t with|some i=>Am (AJ v).length i.size|none=>Ah)=Ag) (j:(AJ v).length=(AJ z).length) (k:(AJ v).all one=Ag):
 ∃c,(∀A,D9 Ax A h (.alloc t)=I (AG h.nx 0,c))/\∃d,BA Ax t c h.nx 0 v=I d/\Sep h0 d (aO h.nx t (AJ v)::l):=by
 refine⟨BN h t (AJ z),λA=>by show(match CP Ax t with|some z=>K7 Ax t z h|none=>Z)=_;rw[g];rfl,?_⟩
 have e:=s.add (a:=aO h.nx t (AJ z)) (AA.row h t (AJ z)) (Own.row _ _ _) λi U=>A2 U.symm;obtain⟨J,m,f,n⟩:=(e.dD (i:=0) B).bb (i:=0) (vs:=AJ v) (G) k;refine⟨J,?_,?_⟩
 .unfold BA
  split at b
  .rename_i i U
   simp only[U,b,D1,m]
  .cases b
 .have:=JB (AJ v) [] (AJ z) j
  simp only[IW,Acd] at this;rw[this] at f;exact e.ah (i:=0) B n.ae f λx o=>.inl o
def AS.lit {N e k n:Nat} {v:Aa} {xs:AH} (o:AS h N e k v n xs) (a:0<n):∃b c,v=.slice (I ⟨b,0,Z⟩) n c:=by
 obtain⟨_,⟨_,h⟩|⟨b,c,sp,h,_⟩⟩:=o
 .omega
 .exact⟨b,c,h⟩
end
section
variable {h J h0 h1 H:Y} {v fv nv pv cv ev lv u v':Aa} {xs args vs ys:AH} {n b N i k e r j x m c q d a p t2 st sb mo ck lp rm b0 sz off:Nat} {t:Ai} {f:Au} {fn:BC} {s:Bd} {bs:Bl} {ws:Bo} {W:Nat->Prop} {Q:Aa->Y->Prop} {A:Option BD} {z df day:Int} {ss:BZ} {τ:Bb}
variable{S:A9} {L:Nat}
def Zd (a:Base S L) {h:Y} (b:Ax.fn.get f=I fn) (c:Nf.contains f=Ah)
 (H:∀n,d<=n->MT Ah Ax (B8 Ax S L n) L fn args h Q):Bk S L (d+1) f args h Q:=by
 intro n i;obtain⟨m,rfl⟩:∃m,n=m+1:=⟨n-1,G⟩;obtain⟨h1,e,g⟩:=a.plain f c;exact Afo (m:=Ah) b g h1 e (H m G)
abbrev Sp:=Nat×Nat×Nat
def Hw (x:Sp):AH:=[.int .i64 x.1,.int .i64 x.2.1,.int .i64 x.2.2]
def J4 (l:List Sp):AH:=l.flatMap Hw
def CW (l:List Bool):AH:=l.map CU
def Akj (l:Bo):AH:=l.map λx:Nat=>AL .u64 x
def Azd (ps:List Sp) {p:Sp} (U:ps[i]?=I p):((J4 ps).drop (i*3)).take 3=Hw p:=by
 induction ps generalizing i with
 |nil=>cases U
 |
  cons q ps a=>
  cases i with
  |zero=>cases U;rfl
  |
   succ i=>
   have:=a (by simpa using U);rw[show(i+1)*3=i*3+3 by omega];exact this
def XZ (a:List Sp) (x:Sp):J4 (a++[x])=J4 a++Hw x:=by simp[J4]
def ZH (all:List Sp) (j:Nat):Nat:=(all.getD j (0,0,0)).2.2
def BP (l:BZ) (q:Nat) (bits:List Bool) (all:List Sp):Prop:=
 bits.count Ag=all.length/\bits.count Ah=q+1/\bits[0]?=I Ag/\bits[1]?=I Ah/\(∀(j:Nat) (x:Sp),all[j]?=I x->Lq l x.1 x.2.1 x.2.2/\x.2.2<=256)/\
  ∀c z,1<=c->(bits.take z).count Ag<=c->c<(bits.take (z+1)).count Ag->∃p,(bits.take z).count Ah=p+1/\p<all.length/\ZH all p+1=ZH all c
def BP.start (l:BZ):BP l 0 [Ag,Ah] [(0,l.length,0)]:=by
 refine⟨B,B,B,B,λj x a=>?_,λc z h1 b d=>?_⟩
 .cases j with
  |zero=>simp at a;subst a;exact⟨⟨Al _,Ae _,λi _ _=>⟨Al _,by simp⟩⟩,Al 256⟩
  |succ j=>simp at a
 .have:=XB [Ag,Ah] Ag (z+1)
  have e:[Ag,Ah].count Ag=1:=rfl;omega
def IM {c:Type} (a b:List c) {z:Nat} (d:z<=a.length):(a++b).take z=a.take z:=UR d
def BP.child {l:BZ} {bits:List Bool} {all:List Sp} (p:BP l q bits all) {x y:Sp} (g:all[q]?=I x) (r:Lq l y.1 y.2.1 y.2.2) (s:y.2.2=x.2.2+1) (t:y.2.2<=256):BP l q (bits++[Ag]) (all++[y]):=by
 obtain⟨i,m,u,n,v,w⟩:=p;have A:q<all.length:=(List.getElem?_eq_some_iff.1 g).1;have E:2<=bits.length:=by
  have:=(List.getElem?_eq_some_iff.1 n).1;omega
 have e:∀j,j<all.length->ZH (all++[y]) j=ZH all j:=λj a=>by
  unfold ZH;rw[Ak,Ak,AB a]
 have C:ZH (all++[y]) all.length=y.2.2:=by
  unfold ZH;rw[Ak,Bq (Ae _)];simp
 refine⟨by simp[i],by simp[m],by rw[AB G];exact u,by rw[AB G];exact n,λj z a=>?_,λc z h1 b d=>?_⟩
 .rcases A8 j all.length with h|h
  .rw[AB h] at a;exact v j z a
  .rw[Bq h] at a
   cases o:j-all.length with
   |zero=>rw[o] at a;simp at a;subst a;exact⟨r,t⟩
   |succ k=>rw[o] at a;simp at a
 .rcases FD z bits.length with h|h|h
  .rw[IM _ _ G] at b d
   obtain⟨p,f1,f2,f3⟩:=w c z h1 b d;refine⟨p,by rw[IM _ _ G];exact f1,by simp;omega,?_⟩;rw[e p f2,e c (by have:=XB bits Ag (z+1);omega:c<all.length)];exact f3
  .subst h
   have f:(bits++[Ag]).take bits.length=bits:=by simp
   have D:(bits++[Ag]).take (bits.length+1)=bits++[Ag]:=Bj (by simp);rw[f] at b⊢;rw[D] at d;simp[K0,List.count_singleton_self,i] at b d;obtain rfl:c=all.length:=G;exact⟨q,m,by simp;omega,by rw[e q A,C,(by unfold ZH;rw[Ak,g];rfl:ZH all q=x.2.2),s]⟩
  .have f:(bits++[Ag]).take z=bits++[Ag]:=Bj (by simp;omega)
   rw[f] at b;rw[(Bj (by simp;omega):(bits++[Ag]).take (z+1)=bits++[Ag])] at d;omega
def BP.close {l:BZ} {bits:List Bool} {all:List Sp} (p:BP l q bits all):BP l (q+1) (bits++[Ah]) all:=by
 obtain⟨f,g,i,e,j,k⟩:=p;have n:2<=bits.length:=by
  have:=(List.getElem?_eq_some_iff.1 e).1;omega
 refine⟨by simp[f],by simp[g],by rw[AB G];exact i,by rw[AB G];exact e,j,λc z h1 b a=>?_⟩;rcases FD z bits.length with h|h|h
 .rw[IM _ _ G] at b a
  rw[IM _ _ G];exact k c z h1 b a
 .subst h
  have d:(bits++[Ah]).take bits.length=bits:=by simp
  have m:(bits++[Ah]).take (bits.length+1)=bits++[Ah]:=Bj (by simp);rw[d] at b;rw[m] at a;simp at a;omega
 .have d:(bits++[Ah]).take z=bits++[Ah]:=Bj (by simp;omega)
  rw[d] at b;rw[(Bj (by simp;omega):(bits++[Ah]).take (z+1)=bits++[Ah])] at a;omega
def Akk (h:x<2^k) (a:x≠0):Nat.log2 x<k:=(Nat.log2_lt a).2 h
def Abi (h:x<32768):bitLen x<=15:=by
 have Cw:∀y k,y<2^k->bl y<=k:=λy k a=>by
  unfold bl;split
  .omega
  .have:=Akk a ‹_›;omega
 unfold bitLen;rw[Bm G];unfold bl2;rw[Bm G];unfold bl1;split
 .have:=Cw (x/2^8) 7 G;omega
 .have:=Cw x 8 G;omega
def Ps {l:Bo} (h:∀x∈l,x<32768):∀k,Hz l k<32768
 |0=>by show 0<32768;decide
 |
  k+1=>by
  have b:=Ps h k;have c:l.getD k 0<32768:=by
   rcases A8 k l.length with a|a
   .rw[Ak,Ab a];exact h _ (Bu _)
   .rw[Ak,CD a];decide
  show W4 _ _<_;have e:JP .u64 (Hz l k:Nat) (l.getD k 0:Nat)=IntKind.wrap .u64 ((BitVec.ofInt 64 (Hz l k:Nat)|||BitVec.ofInt 64 (l.getD k 0:Nat)).toNat:Int):=rfl;have d:(BitVec.ofInt 64 ((Hz l k:Nat):Int)|||BitVec.ofInt 64 ((l.getD k 0:Nat):Int)).toNat=Hz l k|||l.getD k 0:=by
   rw[BitVec.toNat_or,BitVec.toNat_ofInt,BitVec.toNat_ofInt];congr 1<;>omega
  have f:Hz l k|||l.getD k 0<2^15:=Zz b c;unfold W4;rw[e,d,G8];omega
section
variable{h J:Y} {D:Bo}
def Cell.aq {o:Nat} (c:Cell h b o v) (x:B0 (·∈D) h J) (a:∀d∈D,h.t.get d=I (.aq Ah)):Cell J b o v:=
 c.ae x λhb=>by
  obtain⟨_,f,n,e,lo,U,y,h1,_⟩:=c;rw[a b hb] at h1;cases h1
def Rd.aq (r:Rd h v k n xs) (x:B0 (·∈D) h J) (b:∀d∈D,h.t.get d=I (.aq Ah)):Rd J v k n xs:=
 r.ae x λi U hb=>by
  obtain⟨_,A,c,rfl,_,_,f⟩:=r;cases A with
  |none=>exact U
  |
   some a=>
   obtain⟨_,g,n,e,lo,j,y,h1,_⟩:=f a B;rw[←(U:i=a.block),b i hb] at h1;cases h1
def Du.aq {l:List Bool} (v:Du h b l) (x:B0 (·∈D) h J) (a:∀d∈D,h.t.get d=I (.aq Ah)):Du J b l:=by
 obtain⟨h1,c,⟨e,ws,f,g,i⟩,j,k,m⟩:=v;exact⟨h1.aq x a,c,⟨e,ws,f.aq x a,g.aq x a,i⟩,j,k.aq x a,m.aq x a⟩
def BX.aq {w:Nat} (p:BX h b n w ws) (x:B0 (·∈D) h J) (a:∀d∈D,h.t.get d=I (.aq Ah)):BX J b n w ws:=by
 obtain⟨c,e,f,g,⟨i,j,k⟩,l⟩:=p;exact⟨c.aq x a,e.aq x a,f,g,⟨i,j.aq x a,k.aq x a⟩,l⟩
def DE.aq {t:En} (T:DE h b t) (x:B0 (·∈D) h J) (a:∀d∈D,h.t.get d=I (.aq Ah)):DE J b t:=by
 obtain⟨c,⟨e,a0,b0⟩,⟨f,a1,b1⟩,⟨g,i,j⟩,⟨k,l,m⟩,n,o,p⟩:=T;exact⟨c,⟨e,a0.aq x a,b0.aq x a⟩,⟨f,a1.aq x a,b1.aq x a⟩,⟨g,i.aq x a,j.aq x a⟩,⟨k,l.aq x a,m.aq x a⟩,n,o.aq x a,p.aq x a⟩
end
def Aeg (d bl:Nat) (v:Aa) (a b e:Nat):Ct:={
 am:=λi=>i=d\/i=bl
 holds:=λh=>Cell h d 0 (.int .i64 a)/\Cell h d 1 (.int .i64 b)/\Cell h d 2 (.int .i64 e)/\Cell h bl 0 v
 aH:=λc f o=>⟨o.1.ae c (f _ (.inl B)),o.2.1.ae c (f _ (.inl B)),o.2.2.1.ae c (f _ (.inl B)),o.2.2.2.ae c (f _ (.inr B))⟩
 lt:=λo i U=>by rcases U with rfl|rfl;exact o.1.1;exact o.2.2.2.1
 bk:=λo=>⟨o.1.aa,o.2.1.aa,o.2.2.1.aa,o.2.2.2.aa⟩}
def Cell.rev {h J:Y} {o:Nat} (hb:b<h.nx) (c:B0 W h J) (a:¬W b) (x:Cell J b o v):Cell h b o v:=by
 obtain⟨_,y⟩:=x;rw[c.t b hb a] at y;exact⟨hb,y⟩
def VN (h:Y) (N b:Nat) (l:List Bool):Prop:=Du h b l/\ID h N b
def VN.fr {h J:Y} {l:List Bool} (v:VN h N b l) (c:B0 W h J) (a:∀i,W i->i<N):VN J N b l:=by
 have hb:¬W b:=λd=>by have:=a b d;have:=v.2.1;omega
 exact⟨v.1.fr v.2 c a,v.2.1,λu x=>v.2.2.1 u (x.rev v.1.c0.1 c hb),λu x=>v.2.2.2 u (x.rev v.1.c0.1 c hb)⟩
def VN.ext {h J:Y} {l:List Bool} (v:VN h N b l) (x:AA h J):VN J N b l:=v.fr (x.ae λ_=>False) λ_ h=>h.elim
def Own.cR {h:Y} (o:Own h b e xs) (a:xs.length=n):Rd h (sL b n n) 1 n xs:=
 AS.rd ⟨G,.inr ⟨b,n,[],B,Ae _,Ae _,by simp;omega,by simpa using o⟩⟩
def ID.mono {h:Y} {M:Nat} (g:ID h N b) (a:M<=N):ID h M b:=
 ⟨Ao a g.1,λv c i U=>Ao a (g.2.1 v c i U),λv c i U=>Ao a (g.2.2 v c i U)⟩
def Fl.mono {h:Y} {M:Nat} (g:Fl h N b) (a:M<=N):Fl h M b:=
 ⟨Ao a g.1,λv c i U=>Ao a (g.2 v c i U)⟩
def Afp (h:Y) (N b:Nat):Prop:=N<=b/\(∀p,Cell h b 0 (AG p 0)->ID h N p)/\(∀p,Cell h b 1 (AG p 0)->ID h N p)/\(∀v,Cell h b 2 v->∀i,BY v i->N<=i)/\(∀p,Cell h b 3 (AG p 0)->Fl h N p)/\∀v,Cell h b 4 v->∀i,BY v i->N<=i
def Ge (h:Y) (N b:Nat) (t:En):Prop:=DE h b t/\Afp h N b
def Ge.mono {h:Y} {M:Nat} {t:En} (T:Ge h N b t) (a:M<=N):Ge h M b t:=by
 obtain⟨T,d,e,f,g,j,k⟩:=T;exact⟨T,Ao a d,λp c=>(e p c).mono a,λp c=>(f p c).mono a,λv c i U=>Ao a (g v c i U),λp c=>(j p c).mono a,λv c i U=>Ao a (k v c i U)⟩
def Ge.of {h J:Y} {t:En} (T:Ge h N b t) (l:DE J b t) (c:B0 W h J) (d:∀i o v,Cell h i o v->N<=i->¬W i):Ge J N b t:=by
 obtain⟨⟨A,⟨C,a0,b0⟩,⟨D,a1,b1⟩,⟨E,F,H⟩,⟨K,m,e⟩,L,M,O⟩,f,n,r,s,w,z⟩:=T;have hb:=d b _ _ a0 f;have j:∀{q:Nat},Du h q t.bits\/Du h q t.is->ID h N q->ID J N q:=λ{q} V g=>by
  have a:∃v,Cell h q 0 v:=by
   rcases V with V|V
   .exact⟨_,V.c0⟩
   .exact⟨_,V.c0⟩
  obtain⟨v,a⟩:=a;have k:=d q _ _ a g.1;exact⟨g.1,λu x=>g.2.1 u (x.rev a.1 c k),λu x=>g.2.2 u (x.rev a.1 c k)⟩
 refine⟨l,f,λp x=>?_,λp x=>?_,λv x=>s v (x.rev a0.1 c hb),λp x=>?_,λv x=>z v (x.rev a0.1 c hb)⟩
 .have x:=x.rev a0.1 c hb
  have:=x.inj a0;cases this;exact j (.inl b0) (n _ x)
 .have x:=x.rev a0.1 c hb
  have:=x.inj a1;cases this;exact j (.inr b1) (r _ x)
 .have x:=x.rev a0.1 c hb
  have:=x.inj m;cases this;have g:=w _ x;exact⟨g.1,λu y=>g.2 u (y.rev e.1.1 c (d _ _ _ e.1 g.1))⟩
def Ge.fr {h J:Y} {t:En} (T:Ge h N b t) (c:B0 W h J) (a:∀i,W i->i<N):Ge J N b t:=by
 refine T.of ?_ c λi o v _ C l=>by have:=a i l;omega
 obtain⟨⟨m,⟨n,a0,b0⟩,⟨p,a1,b1⟩,⟨e,f,q⟩,⟨r,g,s⟩,j,k,u⟩,D,w,x,y,z,A⟩:=T;have hb:¬W b:=λd=>by have:=a b d;omega
 exact⟨m,⟨n,a0.ae c hb,b0.fr (w _ a0) c a⟩,⟨p,a1.ae c hb,b1.fr (x _ a1) c a⟩,⟨e,f.ae c hb,q.ae c λi U d=>by have:=a i d;have:=y e f i U;omega⟩,⟨r,g.ae c hb,s.fr (z _ g) c a⟩,j,k.ae c hb,u.ae c λi U d=>by have:=a i d;have:=A j k i U;omega⟩
def Ge.ext {h J:Y} {t:En} (T:Ge h N b t) (x:AA h J):Ge J N b t:=T.fr (x.ae λ_=>False) λ_ h=>h.elim
def Ge.aq {h J:Y} {D:Bo} {t:En} (T:Ge h N b t) (x:B0 (·∈D) h J) (a:∀d∈D,h.t.get d=I (.aq Ah)):Ge J N b t:=
 T.of (T.1.aq x a) x λi o v c _ f=>by
  obtain⟨_,g,n,e,lo,U,y,h1,_⟩:=c;rw[a i f] at h1;cases h1
abbrev BL (N:Nat) (dv h lv a b v:Aa) (i j k c d b1:Nat) (n:Nat) (e:Bo) (f:List Bool) (g:Bl) (all:List Sp) (bits:List Bool) (l:Bo):List Ct:=
 [aS N 213 1 dv e.length (Akj e),aS N 4 1 h f.length (CW f),aS N 5 1 lv g.length (Ay g),aO i 277 [a],aS N 276 3 a all.length (J4 all),aO j 273 [b],aS N 4 1 b bits.length (CW bits),
  aO k 124 [AG c 0],aO c 272 [.pointer Z,.pointer Z,lv,.pointer Z,.slice (I ⟨d,0,Z⟩) n n],aO d 3 (Bn l),aO b1 55 [v]]
def PB (l:BZ) (i:Nat) (a:Bo) (c:List Bool) (d:Bl) (all:List Sp) (b:Bo):Prop:=
 all.length=d.length+1/\i<=all.length/\all.length<=524287/\c.length=i/\a.length<=i/\(∀x∈a,x<20000)/\b.length=l.length/\∀x∈b,x<all.length
def Aiq {b:Aa} {all:List Sp} (o:AS h N 276 3 b all.length (J4 all)) {x:Sp} (U:all[i]?=I x):∃a c,b=.slice (I a) all.length c/\BK h a.block (a.off+i*3) (Hw x):=by
 obtain⟨a,c,e,_,q⟩:=o.rd.el (List.getElem?_eq_some_iff.1 U).1;rw[Azd all U] at q;exact⟨a,c,e,q⟩
def c87 (ah:Base S L) {l:BZ} (r:Rd h v 1 l.length (AR l)):
 Bk S L 5 87 [v] h λw J=>AA h J/\((∃e:Int,1<=e/\w=.tuple #[.pointer Z,Vi e])\/∃b t,w=.tuple #[AG b 0,Vi 0]/\DE J b t/\t.nd.length=l.length/\Afp J h.nx b):=
 Zd (fn:=f87) ah Kq B λd dj=>by
  have hL:=ah.aI;obtain⟨hr,R,V,rfl,b3,b4,hA⟩:=r;have rr:Rd h (.slice R l.length V) 1 l.length (AR l):=⟨hr,R,V,B,b3,b4,hA⟩;obtain⟨g1,y1,s1⟩:=(Sep.nil h).box Ax 55 (.slice R l.length V);refine⟨Dc B,_,_,y1,_,ld B ((s1.dD (i:=0) B).cell B),_,ABk ah (rr.ext s1.e) d G,?_⟩;rintro _ g1 ⟨rfl,⟨rfl,a7⟩|rfl|rfl⟩
  case inr.inl=>exact⟨s1.e,.inl ⟨1,by decide,B⟩⟩
  case inr.inr=>exact⟨s1.e,.inl ⟨2,by decide,B⟩⟩
  have hn:=a7.1;obtain⟨g2,y2,x2,o2,n2⟩:=MA (τ:=Ax) (t:=48) (z:=Vi 0) Kq Kq B l.length G .i64 .i64 g1;have e2:AE l.length (Vi 0)=Bn (AE l.length 0):=by simp[Bn]
  rw[e2] at o2;have s2:=s1.add (a:=aO g1.nx 3 (Bn (AE l.length 0))) x2 o2 λi U=>A2 U.symm;obtain⟨g3,y3,s3⟩:=s2.box Ax 272 (.agg #[.pointer Z,.pointer Z,sN,.pointer Z,sL g1.nx l.length l.length]);obtain⟨g4,y4,aa,b7,s4⟩:=s3.var (t:=124) (z:=.pointer Z) Kq (v:=AG g2.nx 0) B B B;have s5:=s4.add (a:=aS h.nx 4 1 (sL aa.nx 2 2) 2 (CW [Ag,Ah])) (AA.row aa 4 [.bool Ag,.bool Ah]) ⟨B,.inr ⟨aa.nx,2,[],B,s4.e.nx,Ae _,B,Own.row _ _ _⟩⟩ λi U=>A2 U.symm;obtain⟨g6,y6,ai,b8,s6⟩:=s5.var (t:=273) (z:=sN) Kq (v:=sL aa.nx 2 2) B B B;refine⟨_,ld B ((s1.dD (i:=0) B).cell B),_,_,y2,_,_,y3,_,_,y4 _,_,b7,_,_,(rfl:Bs Ax 273 2 [(0,.bool Ag),(1,.bool Ah)] aa=I (sL aa.nx 2 2,BN aa 4 [.bool Ag,.bool Ah])),_,_,y6 _,_,b8,_,ld B ((s6.dD (i:=5) B).cell B),?_⟩;have s7:=s6.add (a:=aS h.nx 276 3 (sL ai.nx 1 1) 1 (J4 [(0,l.length,0)])) (AA.row ai 276 (Hw (0,l.length,0))) ⟨B,.inr ⟨ai.nx,1,[],B,s6.e.nx,Ae _,B,Own.row _ _ _⟩⟩ λi U=>A2 U.symm;obtain⟨g8,y8,ca,cc,s8⟩:=s7.var (t:=277) (z:=sN) Kq (v:=sL ai.nx 1 1) B B B;refine⟨_,_,Iv (τ:=Ax) (t:=277) (e:=276) (k:=3) Kq (.agg #[Vi 0,Vi l.length,Vi 0]) B B Jq ai,_,_,y8 _,_,cc,?_⟩;have s9:Sep h ca (BL h.nx (sN) (sN) (sN) (sL ai.nx 1 1) (sL aa.nx 2 2) (.slice R l.length V) (BN ai 276 (Hw (0,l.length,0))).nx (BN aa 4 [.bool Ag,.bool Ah]).nx g3.nx g2.nx g1.nx h.nx l.length
   [] [] [] [(0,l.length,0)] [Ag,Ah] (AE l.length 0)):=
   ((s8.add (a:=aS h.nx 5 1 (sN) 0 []) (AA.refl _) (AS.nil _ _ _ _) λi U=>U.elim).add (a:=aS h.nx 4 1 (sN) 0 []) (AA.refl _) (AS.nil _ _ _ _) λi U=>U.elim).add (a:=aS h.nx 213 1 (sN) 0 []) (AA.refl _) (AS.nil _ _ _ _) λi U=>U.elim
  generalize(BN ai 276 (Hw (0,l.length,0))).nx=b9 at s9⊢;generalize(BN aa 4 [.bool Ag,.bool Ah]).nx=b6 at s9⊢;generalize g3.nx=b5 at s9⊢;generalize g2.nx=W at s9⊢;generalize g1.nx=bn at s9⊢;refine⟨λμ A D C=>∃(i:Nat) (dv iv lv av sv:Aa) (o:Bo) (M:List Bool) (F:Bl) (all:List Sp) (bits:List Bool) (O:Bo),
   A=[(1,AG h.nx 0),(5,AG b5 0),(6,AG b6 0),(7,iv),(8,dv),(9,AG b9 0),(10,Vi i)]/\μ=524288-i/\Sep h C (BL h.nx dv iv lv av sv (.slice R l.length V) b9 b6 b5 W bn h.nx l.length o M F all bits O++Oc D)/\BP l i bits all/\PB l i o M F all O,
   ⟨_,_,Sq,?_,0,_,_,_,_,_,[],[],[],_,_,_,B,B,s9,BP.start l,B,Al _,(by simp),B,Ae _,(λx q=>by cases q),by simp,λx q=>?_⟩,?_⟩
  .omega
  .rw[CH q];exact Nat.one_pos
  rintro μ A D C ⟨i,dv,iv,lv,av,sv,o,M,F,all,bits,O,rfl,rfl,s,bp,pb⟩ dk;obtain⟨p1,p2,p3,p4,p5,p6,p7,p8⟩:=pb;obtain⟨a8,ac,rfl⟩:=(s.sl (i:=4) B).lit G;refine⟨_,ld B ((s.dD (i:=3) B).cell B),Bz (λe=>?_) (λe=>?_)⟩
  .have cd:i<all.length:=G
   obtain⟨⟨a,b,g⟩,q⟩:∃x,all[i]?=I x:=⟨_,Ab cd⟩;have ap:Lq l a b g/\g<=256:=bp.2.2.2.2.1 i _ q;obtain⟨a1,c1,e9,q1⟩:=Aiq (s.sl (i:=4) B) q;cases e9;obtain⟨dl,ce,dm,cf,ay⟩:=s.var (t:=276) (z:=.agg #[Vi 0,Vi 0,Vi 0]) Kq (v:=.agg ⟨Hw (a,b,g)⟩) B B B;refine⟨_,ld B ((s.dD (i:=3) B).cell B),G,_,EQ (k:=3) Kq (show BK C a8 (0+(i:Int).toNat*3) (Hw (a,b,g)) from q1) B,_,_,ce _,_,cf,_,EQ (k:=3) Kq (ay.dD (i:=0) B).cells B,_,ld B ((ay.dD (i:=11) B).cell B),_,AGb ah (rr.ext ay.e) d G,?_⟩;rintro _ Q ⟨cg,bx,bl,dn,dp,rfl,w1,w2,w3,w4,w5⟩;have ch:=ay.add (a:=Aeg bx bl (.slice R l.length V) a b g) cg ⟨w1,w2,w3,w4⟩ (λi U=>by rcases U with rfl|rfl<;>assumption);refine⟨XI (τ:=Ax) (f:=238) (fn:=f238) Kq B,T3 λab ci=>?_⟩
   have cj:=ch.add (a:=aB Q.nx (.aq Ah)) (AA.new Q (.aq Ah)) ⟨by rw[Ck];omega,by rw[CK,Bi B]⟩ (λi U=>A2 U.symm);have ck:=cj.add (a:=aB (A3 Q.nx) (ab .ready Z)) (AA.new _ (ab .ready Z)) ⟨by rw[Ck,Ck];omega,by rw[CK,Ck,Bi B]⟩ (λi U=>by rw[Ck];exact A2 U.symm)
   let az:Nat->Y->Prop:=λk H=>∃(lv av sv:Aa) (F:Bl) (K:List Sp) (bits:List Bool),
    Sep h H (([aB (A3 Q.nx) (ab .ready Z),aB Q.nx (.aq Ah),Aeg bx bl (.slice R l.length V) a b g,aO C.nx 276 (Hw (a,b,g))]++BL h.nx dv iv lv av sv (.slice R l.length V) b9 b6 b5 W bn h.nx l.length o M F K bits O)++Oc D)/\
    BP l i bits K/\K[i]?=I (a,b,g)/\K.length=F.length+1/\all.length<=K.length/\K.length<=524287+k
   have hJ:∀k H,az k H->XE H bx bl (.slice R l.length V) l a b g:=λk H ⟨_,_,_,_,_,_,s,_⟩=>by
    obtain⟨w1,w2,w3,w4⟩:=(s.2.1 2 _ B).1;exact⟨w1,w2,w3,w4,rr.ext s.e⟩
   have hy:∀E k aq,az E aq->a<=E->E<k->k<=b->g<(gS l E).length->Lq l E k (g+1)->ZP S L 1 (.yield (A3 Q.nx)) [.agg #[Vi E,Vi k,Vi ((g:Int)+1)]] aq λu J=>u=.bool Ag/\az k J:=by
    intro E k aq hj h1 H X h4 cm n hn;obtain⟨m,rfl⟩:∃m,n=m+1:=⟨n-1,G⟩;obtain⟨lv,av,sv,F,K,bits,s,al,a0,q2,q3,q4⟩:=hj;have bh:=Oi bits;have bi:=al.1;have bj:=al.2.1;have a2:E<l.length:=by have:=ap.1.2.1;omega
    rw[(G:(g:Int)+1=((g+1:Nat):Int))];obtain⟨cn,y2,e9,_,qr⟩:=rr.at_ G;obtain⟨dq,cp,cq,cr,ar⟩:=s.var (t:=276) (z:=.agg #[Vi 0,Vi 0,Vi 0]) Kq (v:=.agg ⟨Hw (E,k,g+1)⟩) B B B;refine ci m [(1,AG h.nx 0),(5,AG b5 0),(6,AG b6 0),(9,AG b9 0),(11,AG C.nx 0)] _ aq _ (Sq) (s.a7 (i:=0) B) ?_;have ad:=ar.ah (i:=1) (a':=aB (A3 Q.nx) (ab .busy Z)) B (Er.put cq (A3 Q.nx) (ab .busy Z)).ae ⟨by rw[Cc];exact(ar.2.1 1 _ B).1.1,by rw[BQ,Bi B]⟩ (λx q=>.inl q);obtain⟨aj,cs,t18,au⟩:=ad.ba (st:=273) (t2:=273) (e:=4) (k:=1) Kq (i:=11) B (ys:=[.bool Ag]) B B ad.e.nx (by have:=ap.1.2.1;omega) (n':=(bits++[Ag]).length) (xs':=CW (bits++[Ag])) (by simp) (by simp[CW]);obtain⟨ak,t19,N⟩:=au.st (t:=273) B (i:=10) B (j:=0) (v:=aj) (by show 0<1;decide) (D5 (au.sl (i:=11) B));refine⟨_,_,cp _,_,cr,ar.a7 (i:=1) B,_,ld B ((ad.dD (i:=10) B).cell B),_,_,Iv (τ:=Ax) (t:=273) (e:=4) (k:=1) Kq (.bool Ag) B B (by decide) _,_,_,t18,_,t19,?_⟩;obtain⟨gx,e1,an,a3,t20,ae,hB⟩:=N.bo (st:=62) (t2:=62) (e:=5) (k:=1) Kq (i:=7) B (ys:=Ay [Cv l[E] g]) B B N.e.nx (by have:=ap.1.2.1;omega) (n':=(F++[Cv l[E] g]).length) (xs':=Ay (F++[Cv l[E] g])) (by simp) (Ee _ _);obtain⟨a9,t21,af⟩:=ae.stM (t:=62) B (i:=13) B (j:=2) (v:=an) (by show 2<5;decide) (D5 (ae.sl (i:=7) B));have c5:=(N.dD (i:=12) B).cell (i:=0) B;have cb:=(N.dD (i:=13) B).cell (i:=2) B;have c1:=(N.dD (i:=15) B).cell (i:=0) B;cases e9;have ba:=λi u hu=>(qr i u hu).ext N.e;rw[Js a2,←J9] at h4;subst e1;refine⟨[.x 14 0],Kq,_,ld B c5,_,ld B c5,_,ld B cb,_,ld B c1,_,ld B ((N.dD (i:=0) B).cell (i:=0) B:Cell ak aq.nx 0 (Vi E)),G,_,Rd.ld ba (t:=9) B (j:=((E:Int)).toNat*1) (i:=E) (by show E*1=E;omega) (Dl a2),_,ld B ((N.dD (i:=4) B).cell (i:=2) B:Cell ak C.nx 2 (Vi g)),G,
     _,_,Iv (τ:=Ax) (t:=62) (e:=5) (k:=1) Kq (.int .u8 ((Cv l[E] g).toNat:Int)) B B (by decide) _,_,_,t20,hB b5 (N.dD (i:=12) B).1 (N.2.2 12 7 _ _ (by decide) B B b5 B),_,t21,?_⟩
    obtain⟨a4,ct,t22,a5⟩:=af.ba (st:=277) (t2:=277) (e:=276) (k:=3) Kq (i:=9) B (ys:=Hw (E,k,g+1)) B B af.e.nx G (n':=(K++[(E,k,g+1)]).length) (xs':=J4 (K++[(E,k,g+1)])) (by simp) (XZ _ _);obtain⟨cu,t23,bb⟩:=a5.st (t:=277) B (i:=8) B (j:=0) (v:=a4) (by show 0<1;decide) (D5 (a5.sl (i:=9) B));have cv:=bb.ah (i:=1) (a':=aB (A3 Q.nx) (ab .ready Z)) B (Er.put cu (A3 Q.nx) (ab .ready Z)).ae ⟨by rw[Cc];exact(bb.2.1 1 _ B).1.1,by rw[BQ,Bi B]⟩ (λx q=>.inl q);have cw:i<K.length:=(List.getElem?_eq_some_iff.1 a0).1;exact⟨_,ld B ((af.dD (i:=8) B).cell B),_,EQ (k:=3) Kq (af.dD (i:=0) B).cells B,_,_,Iv (τ:=Ax) (t:=277) (e:=276) (k:=3) Kq (.agg ⟨Hw (E,k,g+1)⟩) B B (by decide) _,_,_,t22,_,t23,.busy,Z,bb.a7 (i:=1) B,B,_,a4,aj,F++[Cv l[E] g],K++[(E,k,g+1)],bits++[Ag],cv.drop 1,al.child a0 cm B (by
     have:=(a7.2.1 E a2).2;rw[Js a2,←J9] at this;show g+1<=256;omega),by rw[AB cw];exact a0,by simp;omega,by simp;omega,by simp;omega⟩
   refine cl (ADl ah (dy:=1) a7 ap.1 az hJ (λk hk=>⟨lv,_,sv,F,all,bits,ck,bp,q,p1,Ae _,G⟩) hy) ?_;rintro u bk ⟨k,hk,ao,bm,bo,am,K,ag,bc,al,a0,q2,q3,q4⟩;refine⟨.ready,Z,bc.a7 (i:=0) B,(by intro h;cases h),?_⟩;have ar:=bc.ah (i:=0) (a':=aB (A3 Q.nx) (ab .exhausted Z)) B (Er.put bk (A3 Q.nx) (ab .exhausted Z)).ae ⟨by rw[Cc];exact(bc.2.1 0 _ B).1.1,by rw[BQ,Bi B]⟩ (λx q=>.inl q);have ad:Sep h (bk.put (A3 Q.nx) (ab .exhausted Z)) ((aO C.nx 276 (Hw (a,b,g))::BL h.nx dv iv ao bm bo (.slice R l.length V) b9 b6 b5 W bn h.nx l.length o M am K ag O)++Oc (Q.nx::D)):=
    ((ar.drop 1).perm (l':=(Aeg bx bl (.slice R l.length V) a b g::aO C.nx 276 (Hw (a,b,g))::BL h.nx dv iv ao bm bo (.slice R l.length V) b9 b6 b5 W bn h.nx l.length o M am K ag O)++Oc (Q.nx::D)) List.perm_middle.symm).drop 1
   obtain⟨cx,cy,rfl⟩:=(ad.sl (i:=5) B).lit G;refine⟨_,ld B ((ad.dD (i:=4) B).cell B),Bz (λe2=>?_) (λe2=>?_)⟩
   .obtain⟨n1,n2,n3,n4⟩:=ad.aq
    exact JM _ n1 n2 λJ _ hc=>⟨(n4 J hc).e,.inl ⟨2,by decide,B⟩⟩
   have bh:=Oi ag;have bi:=al.1;have bj:=al.2.1;obtain⟨aj,cs,t18,au⟩:=ad.ba (st:=273) (t2:=273) (e:=4) (k:=1) Kq (i:=7) B (ys:=[.bool Ah]) B B ad.e.nx G (n':=(ag++[Ah]).length) (xs':=CW (ag++[Ah])) (by simp) (by simp[CW]);obtain⟨ak,t19,N⟩:=au.st (t:=273) B (i:=6) B (j:=0) (v:=aj) (by show 0<1;decide) (D5 (au.sl (i:=7) B));have bd:=al.close;have a6:Cell ak C.nx 0 (Vi a):=(N.dD (i:=0) B).cell (i:=0) B;have c1:=(N.dD (i:=11) B).cell (i:=0) B;have bq:∀hb:Bool,∃v' J,Bx Ax .append [273,273] [iv,sL ak.nx 1 1] (BN ak 4 [.bool hb])=I (v',J)/\Sep h J ((aO C.nx 276 (Hw (a,b,g))::BL h.nx dv v' ao (sL cx K.length cy) aj (.slice R l.length V) b9 b6 b5 W bn h.nx l.length o (M++[hb]) am K (ag++[Ah]) O)++Oc (Q.nx::D)):=λhb=>by
    exact N.ba (st:=273) (t2:=273) (e:=4) (k:=1) Kq (i:=2) B (ys:=[.bool hb]) B B N.e.nx G (n':=(M++[hb]).length) (xs':=CW (M++[hb])) (by simp) (by simp[CW])
   have br:∀hb:Bool,PB l (i+1) o (M++[hb]) am K O:=λhb=>⟨G,G,G,by simp;omega,G,p6,p7,λx q=>by have:=p8 x q;omega⟩;refine⟨_,ld B ((ad.dD (i:=6) B).cell B),_,_,Iv (τ:=Ax) (t:=273) (e:=4) (k:=1) Kq (.bool Ah) B B (by decide) _,_,_,t18,_,t19,[],Kq,_,ld B a6,_,ld B ((N.dD (i:=0) B).cell (i:=1) B:Cell ak C.nx 1 (Vi b)),Bz (λe3=>?_) (λe3=>?_)⟩;rotate_left
   .obtain⟨an,a3,t20,ae⟩:=bq Ah
    exact⟨_,_,Iv (τ:=Ax) (t:=273) (e:=4) (k:=1) Kq (.bool Ah) B B (by decide) _,_,_,t20,Pq,_,_,Sq,G,i+1,dv,an,ao,_,aj,o,M++[Ah],am,K,ag++[Ah],O,B,B,ae.drop 1,bd,br Ah⟩
   have cz:a<l.length:=by have:=ap.1.2.1;omega
   obtain⟨cn,y2,e9,_,qr⟩:=rr.at_ G;cases e9;have ba:=λi u hu=>(qr i u hu).ext N.e;obtain⟨an,a3,t20,ae⟩:=bq (decide ((l[a].size:Int)=(g:Int)));refine⟨_,ld B c1,_,ld B a6,G,_,Rd.ld ba (t:=9) B (j:=((a:Int)).toNat*1) (i:=a) (by show a*1=a;omega) (Dl cz),_,ld B ((N.dD (i:=0) B).cell (i:=2) B:Cell ak C.nx 2 (Vi g)),
    _,_,Iv (τ:=Ax) (t:=273) (e:=4) (k:=1) Kq (.bool (decide ((l[a].size:Int)=(g:Int)))) B B (by decide) _,_,_,t20,Ad (λe4=>?_) (λe4=>?_)⟩
   rotate_left
   .exact⟨Pq,_,_,Sq,G,i+1,dv,an,ao,_,aj,o,M++[_],am,K,ag++[Ah],O,B,B,ae.drop 1,bd,br _⟩
   obtain⟨a9,t21,af⟩:=ae.stM (t:=3) B (i:=10) B (j:=a) (v:=Vi i) (by rw[HO];omega) B;have i1:0+((a:Int)).toNat*t3.size=a:=by show 0+a*1=a;omega
   have c5:=(ae.dD (i:=8) B).cell (i:=0) B;have cb:=(ae.dD (i:=9) B).cell (i:=4) B;have a6:Cell a3 C.nx 0 (Vi a):=(ae.dD (i:=0) B).cell (i:=0) B;rw[show(Bn O).set a (Vi i)=Bn (O.set a i) by simp[Bn,Cp]] at af;have c0:Cell (a3.aa a9) C.nx 0 (Vi a):=(af.dD (i:=0) B).cell (i:=0) B;obtain⟨a4,ct,t22,a5⟩:=af.ba (st:=274) (t2:=274) (e:=213) (k:=1) Kq (i:=1) B (ys:=[.int .u64 a]) B B af.e.nx G (n':=(o++[a]).length) (xs':=Akj (o++[a])) (by simp) (by simp[Akj]);refine⟨[],Kq,_,ld B c5,_,ld B cb,_,ld B a6,G,a9,(by rw[i1];exact t21),_,ld B c0,_,.inl Pq,_,_,Iv (τ:=Ax) (t:=274) (e:=213) (k:=1) Kq (.int .u64 a) B B (by decide) _,_,_,t22,Pq,?_⟩;refine⟨_,_,Sq,G,i+1,a4,an,ao,_,aj,o++[a],M++[_],am,K,ag++[Ah],O.set a i,B,B,a5.drop 1,bd,G,G,G,by simp;omega,by simp;omega,λx q=>?_,by simp;omega,λx q=>?_⟩
   .rcases List.mem_append.1 q with q|q
    .exact p6 x q
    .rw[List.mem_singleton.1 q];omega
   .rcases BT q with q|rfl
    .have:=p8 x q;omega
    .omega
  .obtain rfl:i=all.length:=G
   have bh:=Oi bits;have bi:=bp.1;have bj:=bp.2.1;have be:=(s.dD (i:=8) B).1;have c5:=(s.dD (i:=7) B).cell (i:=0) B;have c6:=(s.dD (i:=5) B).cell (i:=0) B;refine⟨[],Kq,_,ld B c5,_,ld B c6,_,Awr (h:=C.ad) ah (l:=bits) (s.sl (i:=6) B).rd G d G,?_⟩;rintro o1 h1 ⟨x1,⟨hb,_⟩|⟨_,q0,dr,rfl,c2,bs⟩⟩
   .omega
   have c3:=s.bz x1;obtain⟨H,t2,aw,u2⟩:=c3.cC (τ:=Ax) (t:=270) B (i:=8) B (j:=0) (v:=AG q0 0) (by show 0<5;decide) B;rw[BF] at bs;have bt:=(show VN (C.aa h1) C.nx q0 bits from⟨c2.aa,bs.aa⟩).fr u2.ae (λi U=>by rw[U];exact be);have c5:=(aw.dD (i:=7) B).cell (i:=0) B;refine⟨x1.ag,_,t2,[],Kq,_,ld B c5,_,Awr (h:=((C.aa h1).aa H).ad) ah (l:=M) (aw.sl (i:=1) B).rd G d G,?_⟩;rintro o3 X ⟨x3,⟨hb,_⟩|⟨_,q1,ds,rfl,c4,bu⟩⟩
   .omega
   have c7:=aw.bz x3;have bv:=bt.ext x3.aa;obtain⟨h4,t4,ax,u4⟩:=c7.cC (τ:=Ax) (t:=270) B (i:=8) B (j:=1) (v:=AG q1 0) (by show 1<5;decide) B;rw[BF] at bu;have bw:=(aw.dD (i:=8) B).1;have c8:=(show VN (((C.aa h1).aa H).aa X) ((C.aa h1).aa H).nx q1 M from⟨c4.aa,bu.aa⟩).fr u4.ae (λi U=>by rw[U];exact bw);have c9:=bv.fr u4.ae (λi U=>by rw[U];exact be);refine⟨x3.ag,_,t4,?_⟩;clear bt bv u2 u4;have c5:=(ax.dD (i:=7) B).cell (i:=0) B;refine⟨[],Kq,_,ld B c5,_,Aqg (h:=((((C.aa h1).aa H).aa X).aa h4).ad) ah (l:=o) (ax.sl (i:=0) B).rd (λx q=>by have:=p6 x q;omega) G d G,?_⟩;rintro o5 h5 ⟨x5,⟨hb,_⟩|⟨_,q2,dt,rfl,bz,bf⟩⟩
   .omega
   have da:=ax.bz x5;obtain⟨h6,t6,P,u6⟩:=da.cC (τ:=Ax) (t:=125) B (i:=8) B (j:=3) (v:=AG q2 0) (by show 3<5;decide) B;rw[BF] at bf;have db:=(ax.dD (i:=8) B).1;have dc:=bz.aa.fr (bf.aa (h:=((((C.aa h1).aa H).aa X).aa h4))) u6.ae (λi U=>by rw[U];exact db);have b0:=((c9.ext x5.aa).fr u6.ae (λi U=>by rw[U];exact be));have b1:=((c8.ext x5.aa).fr u6.ae (λi U=>by rw[U];exact bw));have dd:=b0.1;have de:=b1.1;have df:=Abi (Ps (l:=o) (λx q=>by have:=p6 x q;omega) o.length);have T:DE ((((((C.aa h1).aa H).aa X).aa h4).aa h5).aa h6) W ⟨bits,M,F,o.length,bitLen (Hz o o.length),H2 o (bitLen (Hz o o.length)) o.length,O⟩:=by
    refine⟨⟨?_,?_,bp.2.2.1,bp.2.2.2.1,df,?_,?_,ZH all,λc z h1 H X=>?_,λx q=>?_⟩,⟨q0,(P.dD (i:=8) B).cell B,dd⟩,⟨q1,(P.dD (i:=8) B).cell B,de⟩,⟨lv,(P.dD (i:=8) B).cell B,(P.sl (i:=2) B).rd⟩,⟨q2,(P.dD (i:=8) B).cell B,dc⟩,
     _,(P.dD (i:=8) B).cell (i:=4) B,?_⟩
    .show bits.length=2*(F.length+1)+1;omega
    .show bits.count Ag=F.length+1;omega
    .show F.length+1<=524287;omega
    .show O.length<=20000;omega
    .obtain⟨p,f1,f2,f3⟩:=bp.2.2.2.2.2 c z h1 H X
     show(bits.take z).count Ah-1<F.length+1/\ZH all ((bits.take z).count Ah-1)+1=ZH all c;rw[f1,show p+1-1=p by omega];exact⟨G,f3⟩
    .have b2:=p8 x q
     refine⟨by show x<F.length+1;omega,?_⟩;have:=(bp.2.2.2.2.1 x _ (Ab b2)).2;unfold ZH;rw[Ak,Ab b2];exact this
    .have:=(P.dD (i:=9) B).cR (n:=l.length) (by rw[HO];exact p7)
     rw[←p7] at this⊢;exact this
   have dg:Ge ((((((C.aa h1).aa H).aa X).aa h4).aa h5).aa h6) h.nx W ⟨bits,M,F,o.length,bitLen (Hz o o.length),H2 o (bitLen (Hz o o.length)) o.length,O⟩:=by
    refine⟨T,P.ge (i:=8) B W B,λp x=>?_,λp x=>?_,λv x=>?_,λp x=>?_,λv x=>?_⟩
    .have e:=x.inj ((P.dD (i:=8) B).cell (i:=0) (v:=AG q0 0) B)
     cases e;exact b0.2.mono s.e.nx
    .have e:=x.inj ((P.dD (i:=8) B).cell (i:=1) (v:=AG q1 0) B)
     cases e;exact b1.2.mono aw.e.nx
    .have e:=x.inj ((P.dD (i:=8) B).cell (i:=2) (v:=lv) B)
     subst e;exact P.ge (i:=2) B
    .have e:=x.inj ((P.dD (i:=8) B).cell (i:=3) (v:=AG q2 0) B)
     cases e;have bg:=bf.aa (h:=((((C.aa h1).aa H).aa X).aa h4));have dh:¬q2=W:=λe=>by have:=bg.1;rw[e] at this;omega
     have di:Fl ((((((C.aa h1).aa H).aa X).aa h4).aa h5).aa h6) ((((C.aa h1).aa H).aa X).aa h4).nx q2:=⟨bg.1,λv y=>bg.2 v (y.rev (BX.aa (h:=((((C.aa h1).aa H).aa X).aa h4)) bz).1.1 u6.ae dh)⟩;exact di.mono ax.e.nx
    .have e:=x.inj ((P.dD (i:=8) B).cell (i:=4) (v:=sL bn l.length l.length) B)
     subst e;exact P.ge (i:=9) B
   obtain⟨n1,n2,n3,n4⟩:=Sep.aq (l:=[aS h.nx 213 1 dv o.length (Akj o),aS h.nx 4 1 iv M.length (CW M),aS h.nx 5 1 lv F.length (Ay F),aO b9 277 [sL a8 all.length ac],aS h.nx 276 3 (sL a8 all.length ac) all.length (J4 all),aO b6 273 [sv],aS h.nx 4 1 sv bits.length (CW bits),aO b5 124 [AG W 0],aO W 272 [AG q0 0,AG q1 0,lv,AG q2 0,sL bn l.length l.length],aO bn 3 (Bn O),aO h.nx 55 [.slice R l.length V]]) (D:=D) P;refine⟨x5.ag,_,t6,_,ld B ((P.dD (i:=7) B).cell (i:=0) B),?_⟩;exact JM _ n1 n2 λJ _ hc=>⟨(n4 J hc).e,.inr ⟨W,_,B,T.aq hc n2,p7,(dg.aq hc n2).2⟩⟩
def T6 (h:Y) (n:Nat) (xs:AH):Prop:=xs.length=4/\∀x∈xs,∃m cs,m<=n/\Rd h x 1 m (Ay cs)
def ABl (ad:Base S L) (r:Rd h v 1 n (Ay bs)) (hn:n<=100000000):
 Bk S L 1 196 [v] h λw J=>AA h J/\∃(xs:AH) (j:Bool),w=.tuple #[.agg ⟨xs⟩,.bool j]/\T6 J n xs:=
 Cn f196 ad λd aj hL=>by
  obtain⟨h1,F,x1,y,n1⟩:=Aew (z:=.agg ⟨AE 4 (.slice Z 0 0)⟩) Kq h;have y:Own h1 h.nx 312 (AE 4 (.slice Z 0 0)):=y;refine⟨_,_,F _,λK A c=>∃(k m:Nat) (v:Aa) (cs:Bl) (xs:AH),A=[(0,v),(2,AG h.nx 0),(6,Vi k)]/\k<=4/\K=4-k/\m<=n/\Rd h v 1 m (Ay cs)/\T6 h n xs/\Own c h.nx 312 xs/\AA h c,
   ⟨_,_,Sq,?_,0,n,_,bs,_,B,Al _,B,Ae _,r,⟨by simp,λx b=>⟨0,[],Al _,?_⟩⟩,y,x1⟩,?_⟩
  .omega
  .rw[CH b];exact(AS.nil h 0 5 1).rd
  rintro K A c ⟨k,m,v,cs,xs,rfl,hk,rfl,hm,r,⟨p,C⟩,o,g⟩ ak;have ae:xs.all one=true:=by
   rw[Jf];intro x b;obtain⟨_,_,_,a⟩:=C x b;exact a.one
  have M:∀H,AA h H->Own H h.nx 312 xs->∃a,Bw Ax 312 H h.nx 0=I (.agg ⟨xs⟩)/\BA Ax 312 H h.nx 0 (.agg ⟨xs⟩)=I a/\Bw Ax 312 a h.nx 0=I (.agg ⟨xs⟩)/\
   ∀j:Bool,AA h a/\∃(xs':AH) (af:Bool),C4 #[.agg ⟨xs⟩,.bool j]=.tuple #[.agg ⟨xs'⟩,.bool af]/\T6 a n xs':=λH g o=>by
   obtain⟨a,s,N,s3⟩:=o.bD Kq (i:=0) p G ae;have ag:I2 xs 0 xs=xs:=by
    have:=JB xs [] xs B;simpa using this
   rw[ag] at N;have O:=g.ah s3 Jq;exact⟨a,EQ Kq o.cells p,s,EQ Kq N.cells p,λj=>⟨O,xs,j,B,p,λx b=>by
    obtain⟨m,cs,h1,a⟩:=C x b;exact⟨m,cs,h1,a.ext O⟩⟩⟩
  obtain⟨a,P,s,Q,R⟩:=M c g o;have D:=r;obtain⟨hr,A0,T,rfl,al,am,hA⟩:=r;have an:cs.length=m:=by rw[A7] at hr;omega
  apply Bz<;>intro e;rotate_left
  .exact⟨_,P,_,s,_,Q,R _⟩
  apply Bz<;>intro e1
  .exact⟨_,P,_,s,_,Q,R Ah⟩
  obtain⟨a1,F,e9,_,u⟩:=(D.ext g).at_ G;cases e9;have hb:=λk=>Pd (cs.getD k 0);obtain⟨z1,l1⟩:=LY (z:=8) (n:=8) B G (hb 1);obtain⟨z2,l2⟩:=LY (z:=16) (n:=16) B G (hb 2);obtain⟨z3,l3⟩:=LY (z:=24) (n:=24) B G (hb 3);obtain⟨t1,m1⟩:=Oj (by have:=hb 0;omega:(cs.getD 0 0).toNat<4294967296) l1;obtain⟨t2,m2⟩:=Oj m1 l2;obtain⟨t3,m3⟩:=Oj m2 l3;obtain⟨q,V⟩:∃q,q=(cs.getD 0 0).toNat|||(cs.getD 1 0).toNat*2^8|||(cs.getD 2 0).toNat*2^16|||(cs.getD 3 0).toNat*2^24:=⟨_,B⟩;have f:JP .i64 (JP .i64 (JP .i64 ((cs.getD 0 0).toNat:Int) (Es .i64 ((cs.getD 1 0).toNat:Int) 8)) (Es .i64 ((cs.getD 2 0).toNat:Int) 16)) (Es .i64 ((cs.getD 3 0).toNat:Int) 24)=(q:Int):=by
   rw[z1,t1,z2,t2,z3,t3,V]
  rw[←V] at m3;refine⟨[],Kq,G,_,Rd.ld u B (i:=0) (by rfl) (CY G),_,.inl ⟨⟨G,G2 _⟩,B⟩,
   G,_,Rd.ld u B (i:=1) (by rfl) (CY G),_,.inl ⟨⟨G,G2 _⟩,B⟩,G,
   G,_,Rd.ld u B (i:=2) (by rfl) (CY G),_,.inl ⟨⟨G,G2 _⟩,B⟩,G,
   G,_,Rd.ld u B (i:=3) (by rfl) (CY G),_,.inl ⟨⟨G,G2 _⟩,B⟩,G,?_⟩
  have W:AA c (nb (nb (nb (nb c)))):=AT (AT (AT (AT (AA.refl c))));have X:=g.trans W;have oX:=o.ext W;obtain⟨h3,k12,k1,ah,ai⟩:=M _ X oX;refine⟨Pq,Bz (λe2=>?_) (λe2=>?_)⟩
  .exact⟨_,k12,_,k1,_,ah,ai Ah⟩
  rw[f] at e2;obtain⟨E,f1,f2,_⟩:=D.slice Kq (lo:=I (Vi 4)) (U:=I (Vi (4+q:Nat))) (l:=4) B B G G;obtain⟨w2,f3,f4,_⟩:=D.slice (τ:=Ax) (t:=62) Kq (lo:=I (Vi (4+q:Nat))) (U:=Z) (l:=4+q) (m:=m) B B G G;rw[BJ,BJ,EA,Ez] at f2 f4;have aa:∀H,CN H (C7 Ax 62 (.slice (I a1) m T) (I (Vi 4)) (I (Vi (4+q:Nat))) Z)=I (E,H):=λH=>by rw[f1];rfl
  have ab:∀H,CN H (C7 Ax 62 (.slice (I a1) m T) (I (Vi (4+q:Nat))) Z Z)=I (w2,H):=λH=>by rw[f3];rfl
  obtain⟨h5,u5,u6,u7⟩:=Own.st (h:=(nb (nb (nb (nb c)))).ad) (τ:=Ax) (t:=62) B (i:=k) (v:=E) oX G f2.one;rw[(G:((4+q:Nat):Int)=(4:Int)+q),←f] at aa ab;refine⟨[],Kq,⟨by rw[f];omega,by rw[f];omega⟩,_,_,aa _,⟨by rw[f];omega,by rw[f];omega⟩,_,_,ab _,G,h5,(by rw[(by show 0+k*1=k;omega:0+((k:Int)).toNat*t62.size=k)];exact u5),Pq,_,_,Sq,G,k+1,m-(4+q),w2,_,xs.set k E,B,G,B,G,f4,⟨by simp;exact p,λx b=>?_⟩,u6.aa,X.ah u7.aa (Ae _)⟩;rcases BT b with b|rfl
  .exact C x b
  .exact⟨_,_,G,f2⟩
def Sep.dk {e:Ai} {z:Aa} (f:G1 τ t t e 1=Ag) (j:CP τ e=I z) (h1:one z=Ag) {a:List Ct} (s:Sep h0 h a) (l m:Nat) (b:l<=m) (k:m<=16777216) (c d:Cq):
 ∃v g,Dk τ t (.int c (l:Int)) (.int d (m:Int)) h=I (v,g)/\Sep h0 g (aS h0.nx e 1 v l (AE l z)::a):=by
 obtain⟨g,a1,n,o,p⟩:=Vs f j h1 l m b k c d h;refine⟨_,g,a1,s.add n ⟨by simp,.inr ⟨h.nx,m,AE (m-l) z,B,s.e.nx,b,by simp;omega,?_⟩⟩ λi U=>A2 U.symm⟩;rw[Qi,show l+(m-l)=m by omega];exact o
def Sep.cU {e:Ai} {z:Aa} (j:G1 τ t t e 1=Ag) (k:CP τ e=I z) (h1:one z=Ag) {a:List Ct} (s:Sep h0 h a) (l m:Nat) (b:l<=m) (n:m<=16777216) (c d:Cq):
 ∃v g,Dk τ t (.int c (l:Int)) (.int d (m:Int)) h.ad=I (v,g)/\Sep h0 (h.aa g) (aS h0.nx e 1 v l (AE l z)::a):=by
 obtain⟨g,a1,o,f,p⟩:=Vs j k h1 l m b n c d h.ad;rw[BF] at f;refine⟨_,g,a1,s.cf o ⟨by simp,.inr ⟨h.nx,m,AE (m-l) z,?_,s.e.nx,b,by simp;omega,?_⟩⟩ λi U=>A2 U.symm⟩
 .rfl
 rw[Qi,show l+(m-l)=m by omega];exact f
def Fam (b a:Bo):Prop:=b.length=a.length/\a[0]?=I 0/\∀j,0<j->j<a.length->b.getD j 0<j/\a.getD j 0=a.getD (b.getD j 0) 0+1
def Fam.add {b a:Bo} (f:Fam b a) (U:i<a.length):Fam (b++[i]) (a++[a.getD i 0+1]):=by
 obtain⟨f1,f2,f3⟩:=f;have old:∀(l:Bo) x j,j<l.length->(l++[x]).getD j 0=l.getD j 0:=λl x j c=>by
  rw[Ak,Ak,AB c]
 have d:∀(l:Bo) x,(l++[x]).getD l.length 0=x:=λl x=>by
  rw[Ak,Bq (Ae _)];simp
 refine⟨by simp[f1],by rw[AB G];exact f2,λj c e=>?_⟩;simp[Aj,Br] at e;rcases A8 j a.length with h|h
 .obtain⟨g,k⟩:=f3 j c h
  rw[old b i j G,old a _ j h,old a _ (b.getD j 0) G];exact⟨g,k⟩
 .obtain rfl:j=a.length:=G
  rw[d a];rw[(by rw[←f1];exact d b i:(b++[i]).getD a.length 0=i),old a _ i U];exact⟨U,B⟩
def Fam.le {b a:Bo} (f:Fam b a):∀j,j<a.length->a.getD j 0<=j:=by
 intro j
 induction j using Nat.strongRecOn with
 |
  _ j c=>
  intro d;rcases KQ j with rfl|h
  .rw[Ak,f.2.1];exact Ae _
  .obtain⟨e,g⟩:=f.2.2 j h d
   have:=c _ e G;omega
def AS.bW (o:AS h N e k (sL b n c) n xs) (U:xs[i]?=I u):Cell h b i u:=by
 obtain⟨a,d,e,_,q⟩:=o.cell U;cases e;exact q
def Z5 {l:List Bool} (h:l.getD i Ah=Ag):i<l.length:=by
 rcases A8 i l.length with h1|h1
 .exact h1
 .rw[Ak,CD h1] at h;cases h
def SL (l:BZ) (i:Nat) (s:Bd):(AR l).set i (Sg s)=AR (l.set i s):=by simp[AR,Cp]
def Yb (l:Bl) (i:Nat) (s:UInt8):(Ay l).set i (.int .u8 (s.toNat:Int))=Ay (l.set i s):=by simp[Ay,Cp]
def ADg (p:Base S L) {b1 O m w3:Nat} {P y:List Bool} {H:Nat} {lb:Bl} {ab:Bo} (Q:Du h b0 P) (W:Du h b1 y) (r:Rd h lv 1 H (Ay lb)) (X:BX h O m w3 ab) (al:H<=100000000):
 Bk S L 3 198 [AG b0 0,AG b1 0,lv,AG O 0] h λw J=>AA h J/\∃(v:Aa) (R:Bool),w=.tuple #[v,.bool R]/\(R=Ag->∃l:BZ,Rd J v 1 l.length (AR l)):=
 Cn f198 p λd am hL=>by
  have r0:=r;obtain⟨hr,A0,c0,rfl,an,ao,hA⟩:=r;have ap:lb.length=H:=by rw[A7] at hr;omega
  have aq:=Q.len;have ar:=W.len;have K:AA h h/\∃(v:Aa) (R:Bool),C4 #[sN,.bool Ah]=.tuple #[v,.bool R]/\(R=Ag->∃l:BZ,Rd h v 1 l.length (AR l)):=⟨AA.refl h,_,Ah,B,λh=>by cases h⟩;refine GZ (Acy p W.c0 d G) ?_;apply Bz<;>intro e1
  .exact K
  refine GZ (Acy p Q.c0 d G) ?_;refine⟨Pq,Pq,Ad (λe2=>?_) (λe2=>?_)⟩
  .exact K
  refine⟨Pq,Ad (λe3=>?_) (λe3=>?_)⟩
  .exact K
  refine GZ (ZW p W Ag y.length G d G) ?_;refine GZ (K3 p X.1 d G) ?_;apply Ad<;>intro e4
  .exact K
  refine GZ (K3 p X.1 d G) ?_;apply Ad<;>intro e5
  .exact K
  refine GZ (Acw p Q d G) ?_;refine⟨_,_,B,Ad (λe6=>?_) (λe6=>?_)⟩
  .exact K
  refine GZ (Acw p Q d G) ?_;apply Ad<;>intro e7
  .exact K
  have e3:(H:Int)=y.length-1:=by simpa using e3
  have e5:=KK e5;obtain⟨D,g1,y1,s1⟩:=(Sep.nil h).cU (τ:=Ax) (t:=48) (z:=Vi 0) Kq Kq B 1 y.length G G .i64 .i64;obtain⟨C,g2,y2,s2⟩:=s1.cU (τ:=Ax) (t:=48) (z:=Vi 0) Kq Kq B 1 y.length G G .i64 .i64;refine⟨[],Kq,_,_,y1,_,_,y2,GZ (K3 p (X.ext s2.e).1 d G) ?_⟩;obtain⟨g3,y3,x3,o3,au⟩:=Vs (τ:=Ax) (t:=55) (z:=.string ⟨#[]⟩) Kq Kq B m m (Ae _) G .i64 .i64 ((h.aa g1).aa g2);rw[show AE m (Sg ⟨#[]⟩)=AR (AE m ⟨#[]⟩) by simp[AR]] at o3;have s3:=s2.add (a:=aO ((h.aa g1).aa g2).nx 9 (AR (AE m ⟨#[]⟩))) x3 o3 λi U=>A2 U.symm;refine⟨_,_,y3,?_⟩;generalize((h.aa g1).aa g2).nx=bl at s3 y3⊢;refine⟨λM A hh=>∃(i f k:Nat) (D C:Aa) (c b:Bo) (E:BZ),A=[(0,AG b0 0),(1,AG b1 0),(2,.slice A0 H c0),(3,AG O 0),(11,D),(12,C),(13,Vi f),(14,Vi k),(15,sL bl m m),(69,Vi y.length),(70,Vi i)]/\
   i<=y.length/\M=y.length-i/\f<=P.length+2+i/\k<=i/\Fam c b/\b.length<=f/\E.length=m/\Sep h hh [aO bl 9 (AR E),aS h.nx 3 1 C b.length (Bn b),aS h.nx 3 1 D c.length (Bn c)],
   ⟨_,_,Sq,?_,0,2,0,D,C,[0],[0],_,B,Al _,B,G,Ae _,⟨B,B,λj h1 h2=>by simp at h2;omega⟩,by simp,by simp,s3⟩,?_⟩
  .omega
  rintro M A hh ⟨i,f,k,D,C,c,b,E,rfl,U,rfl,ad,hk,u,ae,aa,s⟩ av;apply Bz<;>intro f1;rotate_left
  .refine⟨s.e,_,Ag,B,λ_=>⟨E,?_⟩⟩
   have:=(s.dD (i:=0) B).cR (CM E);rw[aa] at this⊢;exact this
  have ag:=u.1;have ah:0<b.length:=(List.getElem?_eq_some_iff.1 u.2.1).1;obtain⟨bp,cp,rfl⟩:=(s.sl (i:=2) B).lit G;apply Bz<;>intro f2
  .exact⟨s.e,_,Ah,B,λh=>by cases h⟩
  refine⟨λM A o=>∃(f:Nat) (D C:Aa) (c b:Bo),A=[(0,AG b0 0),(1,AG b1 0),(2,.slice A0 H c0),(3,AG O 0),(11,D),(12,C),(13,Vi f),(14,Vi k),(15,sL bl m m),(16,Vi i),(69,Vi y.length),(70,Vi i)]/\
   M=P.length-f/\f<=P.length+2+i/\Fam c b/\i<b.length/\b.length<=f/\Sep h o [aO bl 9 (AR E),aS h.nx 3 1 C b.length (Bn b),aS h.nx 3 1 D c.length (Bn c)],
   ⟨_,_,Sq,?_,f,_,C,c,b,B,B,ad,u,G,ae,s⟩,?_⟩
  .omega
  clear s u ae ag ah f2 ad;rintro M A o ⟨f,D,C,c,b,rfl,rfl,ad,u,N,ae,s⟩ aw;have ag:=u.1;obtain⟨bp,cp,rfl⟩:=(s.sl (i:=2) B).lit G;obtain⟨F,cd,rfl⟩:=(s.sl (i:=1) B).lit G;have ax:=u.le i N;refine GZ (Acw p (Q.ext s.e) d G) ?_;apply Ad<;>intro f3
  .have f3:f<P.length:=by
    rw[An] at f3;exact Z5 f3.2
   obtain⟨gx,T,v5,h5,t5,s5,hB⟩:=s.bo (st:=48) (t2:=48) (e:=3) (k:=1) Kq (i:=2) B (ys:=[Vi i]) B B s.e.nx G (n':=(c++[i]).length) (xs':=Bn (c++[i])) (by simp) (by simp[Bn]);subst T;obtain⟨gy,T,v6,V,t6,s6,_⟩:=s5.bo (st:=48) (t2:=48) (e:=3) (k:=1) Kq (i:=1) B (ys:=[Vi (b.getD i 0+1:Nat)]) B B s5.e.nx G (n':=(b++[b.getD i 0+1]).length) (xs':=Bn (b++[b.getD i 0+1])) (by simp) (by simp[Bn]);subst T;have ai:=(s5.sl (i:=1) B).bW (GH N);have l5:Bw Ax 3 ((o.aa (BN o.ad 3 [Vi i])).aa h5).ad F (0+((i:Int)).toNat*t3.size)=I (Vi (b.getD i 0:Nat)):=by
    rw[show 0+((i:Int)).toNat*t3.size=i by show 0+i*1=i;omega];exact ld B ai
   have aj:=Iv (τ:=Ax) (t:=48) (e:=3) (k:=1) Kq (Vi (((b.getD i 0:Nat):Int)+1)) B B (by decide) ((o.aa (BN o.ad 3 [Vi i])).aa h5).ad;rw[(G:((b.getD i 0+1:Nat):Int)=((b.getD i 0:Nat):Int)+1)] at t6 s6;refine⟨[.x 8 3],Kq,_,_,Iv (τ:=Ax) (t:=48) (e:=3) (k:=1) Kq (Vi i) B B (by decide) _,_,_,t5,G,_,l5,hB F (by have:=(s.sl (i:=1) B).aw F B;exact this) (s.2.2 1 2 _ _ (by decide) B B F B),
    Pq,_,_,aj,_,_,t6,Pq,?_⟩
   refine⟨_,_,Sq,G,f+1,v5,v6,_,_,B,B,G,u.add N,by simp;omega,by simp;omega,s6⟩
  refine⟨Pq,GZ (Acw p (W.ext s.e) (i:=i) d G) ?_⟩;refine⟨_,_,B,Ad (λf4=>?_) (λf4=>?_)⟩
  .exact⟨Pq,_,_,Sq,G,i+1,f+1,k,_,_,c,b,E,B,G,B,G,G,u,G,aa,s⟩
  refine GZ (ZZ p (X.ext s.e) (i:=k) d G) ?_;obtain⟨q,hq,ay,az⟩:∃q:Int,(if(0:Int)<=(k:Int)/\(k:Int)<m then E1 ab w3 (k:Int).toNat else 0)=q/\0<=q/\q<18446744073709551616:=by
   refine⟨_,B,?_,?_⟩<;>(have:=FM ab w3 (k:Int).toNat;split<;>omega)
  rw[hq];have lD:∀x,x<b.length->Bw Ax 3 o F (0+((x:Int)).toNat*t3.size)=I (Vi (b.getD x 0:Nat)):=λx hx=>by
   rw[show 0+((x:Int)).toNat*t3.size=x by show 0+x*1=x;omega];exact ld B ((s.sl (i:=1) B).bW (GH hx))
  refine⟨Pq,_,.inl Pq,Bz (λf5=>?_) (λf5=>?_)⟩
  .exact⟨s.e,_,Ah,B,λh=>by cases h⟩
  refine⟨G,_,lD i N,Bz (λf6=>?_) (λf6=>?_)⟩
  .exact⟨s.e,_,Ah,B,λh=>by cases h⟩
  obtain⟨g,ak⟩:∃g,g=b.getD i 0:=⟨_,B⟩;obtain⟨g7,y7,x7,o7,n7⟩:=Vs (τ:=Ax) (t:=62) (e:=5) (z:=.int .u8 0) Kq Kq B g g (Ae _) G .i64 .i64 o;rw[show AE g (AL .u8 0)=Ay (AE g 0) by simp[Ay]] at o7;have s7:=s.add (a:=aO o.nx 5 (Ay (AE g 0))) x7 o7 λi U=>A2 U.symm;refine⟨G,_,lD i N,_,_,(by rw[←ak];exact y7:Dk Ax 62 (Vi (b.getD i 0:Nat)) (Vi (b.getD i 0:Nat)) o=I (sL o.nx g g,g7)),λM A V=>∃(x:Nat) (bs:Bl),A=[(0,AG b0 0),(1,AG b1 0),(2,.slice A0 H c0),(3,AG O 0),(11,sL bp c.length cp),(12,sL F b.length cd),(13,Vi (f+1:Nat)),(14,Vi (k+1:Nat)),(15,sL bl m m),(17,.int .u64 q),(19,sL o.nx g g),(20,Vi x),(69,Vi y.length),(70,Vi i)]/\
   M=x/\x<b.length/\b.getD x 0<=g/\bs.length=g/\Sep h V [aO o.nx 5 (Ay bs),aO bl 9 (AR E),aS h.nx 3 1 (sL F b.length cd) b.length (Bn b),aS h.nx 3 1 (sL bp c.length cp) c.length (Bn c)],
   ⟨_,_,Sq,?_,i,_,B,B,N,G,by simp,s7⟩,?_⟩
  .omega
  rintro x A V ⟨_,bs,rfl,rfl,hx,a0,af,t⟩ a2;have lx:Bw Ax 3 V.ad F (0+((x:Int)).toNat*t3.size)=I (Vi (b.getD x 0:Nat)):=by
   rw[show 0+((x:Int)).toNat*t3.size=x by show 0+x*1=x;omega];exact ld B ((t.sl (i:=2) B).bW (GH hx))
  apply Bz<;>intro f7
  .apply Bz<;>intro f8
   .obtain⟨a1,y1,T,_,q1⟩:=(r0.ext t.e).at_ G
    cases T;obtain⟨m1,m2⟩:=u.2.2 x G hx;obtain⟨h7,u7,t7⟩:=t.stM (t:=5) B (i:=0) B (j:=b.getD x 0-1) (v:=.int .u8 ((lb.getD (x-1) 0).toNat:Int)) (by rw[A7];omega) B;rw[Yb] at t7;have lp:Bw Ax 3 (V.aa h7) bp (0+((x:Int)).toNat*t3.size)=I (Vi (c.getD x 0:Nat)):=by
     rw[show 0+((x:Int)).toNat*t3.size=x by show 0+x*1=x;omega];exact ld B ((t7.sl (i:=3) B).bW (GH G))
    exact⟨[],Kq,G,_,lx,Pq,Pq,G,_,Rd.ld q1 B (i:=x-1) (by show((x:Int)-1).toNat*1=_;omega) (CY G),G,h7,(by rw[(by show 0+_*1=_;omega:0+(((b.getD x 0:Nat):Int)-1).toNat*t5.size=b.getD x 0-1)];exact u7),G,_,lp,_,_,Sq,m1,c.getD x 0,_,B,B,G,G,by simp;exact af,t7⟩
   .obtain⟨h8,u8,t8⟩:=t.st (t:=9) B (i:=1) B (j:=q.toNat) (v:=.string ⟨⟨bs⟩⟩) (by rw[CM];omega) B
    rw[SL] at t8;have i8:0+q.toNat*t9.size=q.toNat:=by show 0+q.toNat*1=_;omega
    exact⟨_,FB (τ:=Ax) (s:=62) (d:=9) Kq ((t.dD (i:=0) B).cR (n:=g) (by rw[A7];exact af)),G,h8,(by rw[i8];exact u8),Pq,_,_,Sq,G,i+1,f+1,k+1,_,_,c,b,_,B,G,B,G,G,u,G,by simp;exact aa,t8.drop 1⟩
  .obtain⟨h8,u8,t8⟩:=t.st (t:=9) B (i:=1) B (j:=q.toNat) (v:=.string ⟨⟨bs⟩⟩) (by rw[CM];omega) B
   rw[SL] at t8;exact⟨_,FB (τ:=Ax) (s:=62) (d:=9) Kq ((t.dD (i:=0) B).cR (n:=g) (by rw[A7];exact af)),G,h8,(by rw[(by show 0+q.toNat*1=_;omega:0+q.toNat*t9.size=q.toNat)];exact u8),Pq,_,_,Sq,G,i+1,f+1,k+1,_,_,c,b,_,B,G,B,G,G,u,G,by simp;exact aa,t8.drop 1⟩
def ACo (a:Base S L) (r:Rd h v 1 n (Ay bs)) (hn:n<=100000000):
 Bk S L 6 118 [v] h λw J=>AA h J/\(w=.tuple #[.pointer Z,Vi 5]\/∃b t,w=.tuple #[AG b 0,Vi 0]/\Ge J h.nx b t):=
 Cn f118 a λd ai _=>by
  refine⟨_,ABl a r hn d G,?_⟩;rintro _ h1 ⟨x1,xs,ok,rfl,f,px⟩;have F:(AJ (.agg ⟨xs⟩)).all one=true:=by
   rw[Jf];intro x f;obtain⟨_,_,_,h2⟩:=px x f;exact h2.one
  obtain⟨g2,H,ab,j,k⟩:=((Sep.nil h).ext x1).var (t:=312) (z:=.agg ⟨AE 4 (.slice Z 0 0)⟩) Kq (v:=.agg ⟨xs⟩) (by show Am xs.length 4=Ag;rw[f];rfl) Jq F;have u:AA h1 ab:=by
   obtain⟨K,z2,ad,ae,t2⟩:=(Sep.nil h1).var (t:=312) (z:=.agg ⟨AE 4 (.slice Z 0 0)⟩) Kq (v:=.agg ⟨xs⟩) (by show Am xs.length 4=Ag;rw[f];rfl) (by show xs.length=_;rw[f];rfl) F;have M:=H [];rw[z2 []] at M;cases M;rw[ae] at j;cases j;exact t2.e
  refine⟨_,_,H _,_,j,_,_,B,Ad (λe=>?_) (λe=>?_)⟩
  .exact⟨k.e,.inl B⟩
  match xs,f,px,k,j with
  |[a0,a1,a2,a3],_,px,k,j=>
  have N:=k.dD (i:=0) B;obtain⟨m0,c0,l0,r0⟩:=px a0 (by simp);obtain⟨m1,c1,l1,r1⟩:=px a1 (by simp);obtain⟨m2,O,l2,r2⟩:=px a2 (by simp);obtain⟨m3,c3,l3,r3⟩:=px a3 (by simp);refine⟨G,_,ld B (N.cell B),_,Awb a (r0.ext u) G d G,?_⟩;intro w3 h3 ⟨m,p3⟩;obtain⟨q3,e3,rfl,f3⟩:∃(q:Aa) (e:Int),w3=.tuple #[q,Vi e]/\(e=0->∃p l,q=AG p 0/\Du h3 p l):=Gq;have P:=N.ext m;refine⟨G,_,ld B (P.cell B),_,Awb a (r2.ext (u.trans m)) G d G,?_⟩;intro w4 h4 ⟨o,p4⟩;obtain⟨q4,e4,rfl,f4⟩:∃(q:Aa) (e:Int),w4=.tuple #[q,Vi e]/\(e=0->∃p l,q=AG p 0/\Du h4 p l):=Gq;have Q:=P.ext o;refine⟨G,_,ld B (Q.cell B),_,Awa a (r3.ext ((u.trans m).trans o)) G d G,?_⟩;intro w5 h5 ⟨s,p5⟩;obtain⟨q5,e5,rfl,f5⟩:∃(q:Aa) (e:Int),w5=.tuple #[q,Vi e]/\(e=0->∃p n wd ws,q=AG p 0/\BX h5 p n wd ws):=Gq;have y:=((k.e.trans m).trans o).trans s;refine Ad (λk1=>?_) (λk1=>?_)
  .exact⟨y,.inl B⟩
  refine Ad (λK=>?_) (λK=>?_)
  .exact⟨y,.inl B⟩
  refine Ad (λk3=>?_) (λk3=>?_)
  .exact⟨y,.inl B⟩
  obtain⟨p6,b6,rfl,v6⟩:=f3 Jq;obtain⟨p7,b7,rfl,v7⟩:=f4 Jq;obtain⟨p8,n8,aj,ak,rfl,v8⟩:=f5 Jq;refine⟨G,_,ld B ((Q.ext s).cell B),_,ADg a ((v6.ext o).ext s) (v7.ext s) (r1.ext (((u.trans m).trans o).trans s)) v8 G d G,?_⟩;rintro _ h9 ⟨x9,v9,al,rfl,f9⟩;have A:=y.trans x9;refine⟨_,_,B,Ad (λk4=>?_) (λk4=>?_)⟩
  .exact⟨A,.inl B⟩
  obtain⟨l9,r9⟩:=f9 Jq;refine⟨_,c87 a r9 d G,?_⟩;rintro _ c ⟨R,⟨e,he,rfl⟩|⟨b,t,rfl,T,_,af⟩⟩
  .refine⟨[],Kq,Ad (λV=>?_) (λV=>?_)⟩
   .exact⟨A.trans R,.inl B⟩
   .have:e=0:=by simpa using V
    omega
  .have ag:=A.trans R
   refine⟨[],Kq,_,Aqp (h:=c.ad) a T d G,?_⟩;rintro W g ⟨C,D,am,ah⟩;have E:=ag.trans C.aa;have X:Rd (c.aa g) W 1 D.length (Ay D):=(ah.rd).aa;have aa:Rd (nb (c.aa g)) v 1 n (Ay bs):=r.ext (AT E);have c1:Ea Ax 62 9 W (c.aa g).ad=I (.string ⟨⟨D⟩⟩,(c.aa g).ad):=FB Kq X;have O:Ea Ax 62 9 v (nb (c.aa g)).ad=I (.string ⟨⟨bs⟩⟩,(nb (c.aa g)).ad):=FB Kq aa;obtain⟨_,A1,an,rfl,_⟩:=X;obtain⟨_,ao,ad,rfl,_⟩:=aa;refine⟨C.ag,_,c1,_,O,_,B,Ad (λk6=>?_) (λk6=>?_)⟩
   .exact⟨AT (AT E),.inl B⟩
   .exact⟨AT (AT E),.inr ⟨b,t,B,((show Ge c h9.nx b t from⟨T,af⟩).mono A.nx|>.ext C.aa).ext (AT (AT (AA.refl _)))⟩⟩
def PV:Bl->Int->Nat->Nat->Option (Int×Nat)
 |[],_,_,_=>Z
 |
  c::l,v,a,i=>
  if(a=63/\1<c.toNat)\/(0<a/\c.toNat=0) then Z else
  let v:=JP .u64 v (Es .u64 (D8 .u8 (c.toNat:Int) 127) (a:Int))
  if c.toNat<128 then I (v,i+1) else PV l v (a+7) (i+1)
def Amo (a b:Int):0<=JP .u64 a b/\JP .u64 a b<18446744073709551616:=by
 obtain⟨y,h1,c⟩:=NR a b;rw[c];omega
def JF:∀(l:Bl) (v:Int) (a i:Nat) (w:Int) (j:Nat),PV l v a i=I (w,j)->(0<=w/\w<18446744073709551616)/\i<j/\j<=i+l.length
 |[],v,a,i,w,j,h=>by cases h
 |
  c::l,v,a,i,w,j,h=>by
  rw[PV] at h;split at h
  .cases h
  .simp only[] at h
   split at h
   .cases h;exact⟨Amo _ _,G,by simp⟩
   .obtain⟨h1,b,d⟩:=JF l _ _ _ w j h
    exact⟨h1,G,by simp;omega⟩
def Akz {h:Y} {v:Aa} {n m:Nat} {bs a:Bl} (r:Rd h v 1 n (Ay bs)) (b:Rd h v 1 m (Ay a)):bs=a:=by
 have e:=r.src;have d:=b.src;obtain⟨_,A,c,rfl,_⟩:=r;obtain⟨_,i,j,g,_⟩:=b;cases g;rw[e] at d;have f:=EM bs;rw[Option.some.inj d,EM] at f;exact(Option.some.inj f).symm
open Classical in
def IK (h:Y) (v:Aa):Option Bl:=if e:∃(bs:Bl) (n:Nat),Rd h v 1 n (Ay bs)/\n<=4611686018427387904 then I (Classical.choose e) else Z
def QB (_:Be) (args:AH) (h:Y):Jl:=match args with
 |
  [v,.int .i64 i]=>(match IK h v with
  |
   some bs=>(match(if 0<=i then PV (bs.drop i.toNat) 0 0 i.toNat else Z) with
   |some (w,j)=>I (.tuple #[.int .u64 w,.int .i64 (j:Int),.bool Ag],h)
   |none=>I (.tuple #[.int .u64 0,.int .i64 0,.bool Ah],h))
  |none=>Z)
 |_=>Z
def Ph (_:Be) (args:AH) (h:Y):Jl:=match args with
 |
  [v,.int .i64 i]=>(match IK h v with
  |
   some bs=>(match(if 0<=i then PV (bs.drop i.toNat) 0 0 i.toNat else Z) with
   |some (w,j)=>if w<=(bs.length:Int)-j then I (.tuple #[.string ⟨⟨(bs.drop j).take w.toNat⟩⟩,.int .i64 ((j:Int)+w),.bool Ag],h) else I (.tuple #[.string ⟨#[]⟩,.int .i64 0,.bool Ah],h)
   |none=>I (.tuple #[.string ⟨#[]⟩,.int .i64 0,.bool Ah],h))
  |none=>Z)
 |_=>Z
structure Base2 (S:A9) (L:Nat):Prop extends Base S L where
 uint:S.ov 113=I QB
 text:S.ov 114=I Ph
def Lm {f:Au} {g:Be->AH->Y->Jl} {args:AH} {h J:Y} {v:Aa} {Q:Aa->Y->Prop} (a:S.ov f=I g) (b:∀c,g c args h=I (v,J)) (d:Q v J):Bk S L 1 f args h Q:=by
 intro n e;obtain⟨m,rfl⟩:∃m,n=m+1:=⟨n-1,G⟩;exact⟨v,J,d,YV a (b _)⟩
def Rf {h:Y} {v:Aa} {n:Nat} {bs:Bl} (r:Rd h v 1 n (Ay bs)) (a:n<=4611686018427387904):IK h v=I bs:=by
 have e:∃(bs:Bl) (n:Nat),Rd h v 1 n (Ay bs)/\n<=4611686018427387904:=⟨bs,n,r,a⟩;unfold IK;rw[dif_pos e];obtain⟨_,b,_⟩:=Classical.choose_spec e;exact Cs I (Akz b r)
def RC {h:Y} {v:Aa} {bs:Bl} (e:IK h v=I bs):∃n,Rd h v 1 n (Ay bs)/\n<=4611686018427387904:=by
 unfold IK at e;split at e
 .rename_i x
  cases e;exact Classical.choose_spec x
 .cases e
def Aki (b:Base2 S L) {h:Y} {v:Aa} {n:Nat} {bs:Bl} (r:Rd h v 1 n (Ay bs)) (c:n<=4611686018427387904) {i:Int}:
 Bk S L 1 113 [v,Vi i] h λw J=>J=h/\∃(x:Int) (j:Nat) (d:Bool),w=.tuple #[.int .u64 x,Vi j,.bool d]/\0<=x/\x<18446744073709551616/\j<=n:=by
 have hb:=Rf r c;have g:bs.length=n:=by have:=r.1;rw[A7] at this;omega
 cases a:(if 0<=i then PV (bs.drop i.toNat) 0 0 i.toNat else Z) with
 |none=>exact Lm b.uint (v:=.tuple #[.int .u64 0,Vi 0,.bool Ah]) (λe=>by simp only[QB,hb,a]) ⟨B,0,0,Ah,B,G,G,G⟩
 |
  some p=>
  obtain⟨x,j⟩:=p;refine Lm b.uint (λe=>by simp only[QB,hb,a]) ⟨B,x,j,Ag,B,?_⟩;split at a
  .obtain⟨h1,k,f⟩:=JF _ _ _ _ _ _ a
   rw[AV] at f;refine⟨h1.1,h1.2,?_⟩;omega
  .cases a
def Auo (b:Base2 S L) {h:Y} {v:Aa} {n:Nat} {bs:Bl} (r:Rd h v 1 n (Ay bs)) (g:n<=4611686018427387904) {i:Int}:
 Bk S L 1 114 [v,Vi i] h λw J=>J=h/\∃(s:Bd) (j:Nat) (c:Bool),w=.tuple #[Sg s,Vi j,.bool c]/\s.size<=n/\j<=n:=by
 have hb:=Rf r g;have l:bs.length=n:=by have:=r.1;rw[A7] at this;omega
 have d:∃(s:Bd) (j:Nat) (c:Bool),C4 #[Sg ⟨#[]⟩,Vi 0,.bool Ah]=.tuple #[Sg s,Vi j,.bool c]/\s.size<=n/\j<=n:=⟨_,0,Ah,B,Al _,G⟩;cases a:(if 0<=i then PV (bs.drop i.toNat) 0 0 i.toNat else Z) with
 |none=>exact Lm b.text (λe=>by simp only[Ph,hb,a]) ⟨B,d⟩
 |
  some p=>
  obtain⟨x,j⟩:=p;split at a
  .obtain⟨h1,m,k⟩:=JF _ _ _ _ _ _ a
   rw[AV] at k;by_cases f:x<=(bs.length:Int)-j
   .refine Lm b.text (v:=.tuple #[Sg ⟨⟨(bs.drop j).take x.toNat⟩⟩,Vi ((j:Int)+x),.bool Ag]) (λe=>by simp only[Ph,hb,a,Bi f,Bi ‹0<=i›]) ⟨B,⟨⟨(bs.drop j).take x.toNat⟩⟩,(j+x.toNat),Ag,?_,?_,G⟩
    .rw[show(((j+x.toNat:Nat)):Int)=(j:Int)+x by omega]
    .rw[J9];show((bs.drop j).take x.toNat).length<=n;simp;omega
   .exact Lm b.text (λe=>by simp only[Ph,hb,a,Bm f,Bi ‹0<=i›]) ⟨B,d⟩
  .cases a
def Ni {a:Type} {P:a->Prop} {c:Bool} {x y:a} (b:P x) (d:P y):P (bif c then x else y):=by cases c<;>assumption
def TU (a b c d:Nat):1<=(ZN a b c d).2:=
 Ni (P:=λx:Nat×Nat=>1<=x.2) (Ae 1) (Ni (P:=λx:Nat×Nat=>1<=x.2) (Ni (P:=λx:Nat×Nat=>1<=x.2) (by show 1<=2;decide) (Ae 1))
  (Ni (P:=λx:Nat×Nat=>1<=x.2) (Ni (P:=λx:Nat×Nat=>1<=x.2) (by show 1<=3;decide) (Ae 1)) (Ni (P:=λx:Nat×Nat=>1<=x.2) (Ni (P:=λx:Nat×Nat=>1<=x.2) (by show 1<=4;decide) (Ae 1)) (Ae 1))))
def NE {h:Y} {r:Nat} {s:Bd} {p:Nat} (b:h.t.get r=I (.str s p)):(p<s.size/\∃w z,(1<=w/\w=(FF (s.data.toList.drop p)).2/\z=(FF (s.data.toList.drop p)).1)/\FT (AG r 0) Ag h=I [(.tuple #[.bool Ag,Vi p,.int .i32 z],h.put r (.str s (p+w)))])\/
 (s.size<=p/\FT (AG r 0) Ag h=I [(.tuple #[.bool Ah],h)]):=by
 rcases A8 p s.size with a|a
 .refine .inl ⟨a,(FF (s.data.toList.drop p)).2,(FF (s.data.toList.drop p)).1,⟨TU _ _ _ _,B,B⟩,?_⟩
  show(match h.t.get r,Ag with|some (.str s c),Ag=>_|some (.ay Z _ _ _),Ah=>_|some (.ay (I m) d seen e),Ah=>_|_,_=>_)=_
  rw[b];simp only[show AD p s.size=Ag by rw[AK];exact a,D1];rfl
 .refine .inr ⟨a,?_⟩
  show(match h.t.get r,Ag with|some (.str s c),Ag=>_|some (.ay Z _ _ _),Ah=>_|some (.ay (I m) d seen e),Ah=>_|_,_=>_)=_
  rw[b];simp only[show AD p s.size=Ah by rw[MK,ne_eq,AK];omega,I0]
def Adp (S:A9) (L d:Nat) (fv:Aa) (h:Y):Prop:=∃g first cap,fv=.func (.func g) first cap/\∀z J,AA h J->Bk S L d g (first.toList++[.int .i32 z]++cap.toList) J λv a=>a=J/\∃b,v=.bool b
def AAy (n:Base S L) {h:Y} {s:Bd} (y:s.size<=100000000) {fv:Aa} {e:Nat} (o:Adp S L e fv h) {t:Bool}:
 Bk S L (e+1) 349 [Sg s,fv,.bool t] h λw J=>AA h J/\∃z:Int,w=Vi z:=
 Cn f349 n λd C D=>by
  obtain⟨g,first,cap,rfl,q⟩:=o
  have c:=(Sep.nil h).add (a:=aB h.nx (.str s 0)) (AA.new h (.str s 0)) ⟨by rw[Ck];omega,by rw[CK,Bi B]⟩ λi U=>A2 U.symm;have r:Gh Ax 9 (Sg s) h=I (AG h.nx 0,h.new (.str s 0)):=rfl;refine⟨_,_,r,?_⟩;refine⟨λm A f=>∃p:Nat,A=[(1,.func (.func g) first cap),(2,.bool t),(10,AG h.nx 0)]/\m=s.size-p/\Sep h f [aB h.nx (.str s p)],
   ⟨_,_,Sq,?_,0,B,B,c⟩,?_⟩
  .omega
  rintro m A f ⟨p,rfl,rfl,c⟩ E;rcases NE (c.a7 (i:=0) B) with⟨u,w,z,F,j⟩|⟨u,j⟩
  .refine⟨_,_,j,?_⟩
   have l:=c.ah (i:=0) (a':=aB h.nx (.str s (p+w))) B (Er.put f h.nx (.str s (p+w))).ae ⟨by rw[Cc];exact(c.2.1 0 _ B).1.1,by rw[BQ,Bi B]⟩ (λx v=>.inl v);refine⟨_,q z _ l.e d G,?_⟩;rintro _ H ⟨rfl,b,rfl⟩;refine⟨_,B,Ad (λk=>?_) (λk=>?_)⟩
   .exact⟨l.e,_,B⟩
   .exact⟨_,_,Sq,G,p+w,B,B,l⟩
  .exact⟨_,_,j,c.e,_,B⟩
def ACl (a:Base S L) {h:Y} {s:Bd} (b:s.size<=100000000) {fv:Aa} {e:Nat} (c:Adp S L e fv h):
 Bk S L (e+2) 319 [Sg s,fv] h λw J=>AA h J/\∃z:Int,w=Vi z:=
 Cn f319 a λd g _=>by
  refine cl (AAy a b c) ?_;rintro _ h1 ⟨f,z,rfl⟩;exact⟨f,z,B⟩
def Ajq (a:Base S L) {h:Y} {s:Bd} (c:s.size<=100000000) {fv:Aa} {e:Nat} (f:Adp S L e fv h):
 Bk S L (e+3) 261 [Sg s,fv] h λw J=>AA h J/\∃b:Bool,w=.bool b:=
 Cn f261 a λd i _=>by
  refine cl (ACl a c f) ?_;rintro _ h1 ⟨g,z,rfl⟩;exact⟨g,_,B⟩
def AAt (a:Base S L) {h:Y} {s:Bd}:Bk S L 5 251 [Sg s] h λw J=>AA h J/\∃b:Bool,w=.bool b/\(b=Ag->s.size<=16):=
 Cn f251 a λd g _=>by
  apply Ad<;>intro i
  .apply Bz<;>intro j
   .refine cl (Ajq a G (e:=1) ⟨315,#[],#[],B,λz J _=>(ADt a).mono λv k c=>⟨c.2,_,c.1⟩⟩) ?_
    rintro _ h1 ⟨f,b,rfl⟩;exact⟨_,_,B,f,_,B,λ_=>G⟩
   .exact⟨AA.refl h,Ah,B,λh=>by cases h⟩
  .exact⟨AA.refl h,Ah,B,λh=>by cases h⟩
def Lx {b:Type} {l:List b} {a:b} (h:l[i]?=I a):l.set i a=l:=by
 apply List.ext_getElem?;intro j;rw[Iu];split
 .rename_i e;subst e
  rw[Bi (List.getElem?_eq_some_iff.1 h).1,h]
 .rfl
def Sep.a5 (c:Gv τ t=Ag) {l:List Ct} (s:Sep h0 h l) (U:l[i]?=I (aO b e xs)) (d:j<xs.length) (h1:one v=Ag):
 ∃J,BA τ t h b j v=I J/\Sep h0 J (l.set i (aO b e (xs.set j v)))/\Er b h J:=by
 obtain⟨J,a1,f,a⟩:=Own.st c (s.dD U) d h1;exact⟨J,a1,s.ah U a.ae f (λx g=>.inl g),a⟩
def Avw (p:Base2 S L) {l:List Ct} (s:Sep h0 h l) {b1 b c:Nat} (u:i≠k) (c1:Cell h b1 0 v) (H:b1≠b) (r:Rd h v 1 n (Ay bs)) (K:n<=100000000) {j:Int} {e:Bool} (U:l[i]?=I (aO b 3 [Vi j])) (f:l[k]?=I (aO c 4 [.bool e])) {most:Nat} (M:most<=100000000):
 Bk S L 2 188 [Vi most,AG b1 0,AG b 0,AG c 0] h λw J=>∃(x:Nat) (a:Int) (g:Bool),w=Vi x/\x<=most/\(a=j\/0<=a/\a<=n)/\Sep h0 J ((l.set i (aO b 3 [Vi a])).set k (aO c 4 [.bool g])):=
 Cn f188 p.toBase λd N _=>by
  have c4:=(s.dD U).cell (i:=0) B;have z:=(s.dD f).cell (i:=0) B;refine⟨_,ld B c1,_,ld B c4,_,Aki p r G d G,?_⟩;rintro _ h ⟨rfl,x,q,O,rfl,P,Q,R⟩;obtain⟨x,rfl⟩:∃y:Nat,x=y:=⟨x.toNat,G⟩;obtain⟨A,m,C⟩:=s.st (t:=4) B f (v:=.bool Ah) (by show 0<1;decide) B;have o:∃(x:Nat) (a:Int) (g:Bool),Vi 0=Vi x/\x<=most/\(a=j\/0<=a/\a<=n)/\Sep h0 A ((l.set i (aO b 3 [Vi a])).set k (aO c 4 [.bool g])):=
   ⟨0,j,Ah,B,Al _,.inl B,by rw[Lx U];exact C⟩
  obtain⟨T,t1,t2⟩:=s.st (t:=3) B U (v:=Vi q) (by show 0<1;decide) B;refine⟨_,ld B z,_,_,B,Ad (λD=>?_) (λD=>?_)⟩
  .exact⟨_,m,o⟩
  refine⟨_,_,B,Ad (λE=>?_) (λE=>?_)⟩
  .exact⟨_,m,o⟩
  refine⟨_,.inl Pq,Bz (λF=>?_) (λF=>?_)⟩
  .exact⟨_,m,o⟩
  refine⟨_,t1,_,.inl Pq,x,q,e,B,G,.inr G,?_⟩;rw[Lx (by rw[Amv u];exact f:(l.set i (aO b 3 [Vi q]))[k]?=I (aO c 4 [.bool e]))];exact t2
def Sep.al {z:Aa} (b:CP Ax t=I z) {l:List Ct} (s:Sep h0 h l):∃a,(∀A,D9 Ax A h (.alloc t)=I (AG h.nx 0,a))/\Sep h0 a (aO h.nx t (AJ z)::l):=
 ⟨BN h t (AJ z),λA=>by show(match CP Ax t with|some z=>K7 Ax t z h|none=>Z)=_;rw[b];rfl,s.add (AA.row h t (AJ z)) (Own.row _ _ _) λi U=>A2 U.symm⟩
def Adv:DQ:=⟨⟨#[]⟩,.slice Z 0 0,[]⟩
def H3 (ps:List DQ):AH:=ps.flatMap Fj
def OS (ps:List DQ):(H3 ps).length=ps.length*2:=by
 induction ps with
 |nil=>rfl
 |cons p ps a=>simp[H3,Dg,Aj,AO] at a⊢;rw[a];simp[Fj];omega
def Aay (m:Nat):Dy [Sg ⟨#[]⟩,sN] m=H3 (AE m Adv):=by
 induction m with
 |zero=>rfl
 |succ m a=>rw[Dy,a];rfl
def XM (ps:List DQ) {p:DQ} (U:ps[i]?=I p) (s:Bd):(H3 ps).set (i*2) (Sg s)=H3 (ps.set i {p with nm:=s}):=by
 induction ps generalizing i with
 |nil=>cases U
 |
  cons q ps a=>
  cases i with
  |zero=>cases U;rfl
  |
   succ i=>
   have:=a (by simpa using U);rw[show(i+1)*2=i*2+1+1 by omega];show Fj q++(H3 ps).set (i*2) (Sg s)=Fj q++H3 (ps.set i {p with nm:=s});rw[this]
def Yh (ps:List DQ) {p:DQ} (U:ps[i]?=I p) (v:Aa) (b:Bl):(H3 ps).set (i*2+1) v=H3 (ps.set i {p with dv:=v,db:=b}):=by
 induction ps generalizing i with
 |nil=>cases U
 |
  cons q ps a=>
  cases i with
  |zero=>cases U;rfl
  |
   succ i=>
   have:=a (by simpa using U);rw[show(i+1)*2+1=i*2+1+1+1 by omega];show Fj q++(H3 ps).set (i*2+1) v=Fj q++H3 (ps.set i {p with dv:=v,db:=b});rw[this]
def TE (h:Y) (M:Nat) (ps:List DQ):Prop:=∀p∈ps,p.nm.size<=100000000/\p.db.length<=16777216/\Rd h p.dv 1 p.db.length (Ay p.db)/\∀i,BY p.dv i->M<=i
def TE.ae {M:Nat} {ps:List DQ} (p:TE h M ps) (c:B0 W h J) (b:∀i,W i->i<M):TE J M ps:=λq d=>by
 obtain⟨h1,e,f,a⟩:=p q d;exact⟨h1,e,f.ae c λi U g=>by have:=a i U;have:=b i g;omega,a⟩
def TE.set {M:Nat} {ps:List DQ} (p:TE h M ps) (i:Nat) {q:DQ} (b:q.nm.size<=100000000/\q.db.length<=16777216/\Rd h q.dv 1 q.db.length (Ay q.db)/\∀i,BY q.dv i->M<=i):TE h M (ps.set i q):=λx a=>by
 rcases BT a with a|rfl
 .exact p x a
 .exact b
def Jp (u:BA τ t h b j v=I J) (a:x=j):BA τ t h b x v=I J:=by rw[a];exact u
def Dz (u:Bw τ t h b j=I v) (a:x=j):Bw τ t h b x=I v:=by rw[a];exact u
def Own.dB (o:Own h b e xs) (a:xs.length=n*k):Rd h (sL b n n) k n xs:=
 AS.rd ⟨a,.inr ⟨b,n,[],B,Ae _,Ae _,by simp;omega,by simpa using o⟩⟩
def AGc (V:Base2 S L) (r:Rd h v 1 n (Ay bs)) (hn:n<=100000000):
 Bk S L 3 112 [v] h λw J=>AA h J/\∃(o:Aa) (c:Bool),w=.tuple #[o,.bool c]/\(c=Ag->∃ps,ps.length<=64/\EC J o ps):=
 Cn f112 V.toBase λd a2 hL=>by
  obtain⟨hr,N,O,rfl,ai,aj,hA⟩:=r;have rr:Rd h (.slice N n O) 1 n (Ay bs):=⟨hr,N,O,B,ai,aj,hA⟩;obtain⟨g1,y1,s1⟩:=(Sep.nil h).box Ax 62 (.slice N n O);obtain⟨g2,y2,W⟩:=s1.al (z:=Vi 0) Kq;obtain⟨g3,y3,C⟩:=W.al (z:=.bool Ah) Kq;obtain⟨g4,y4,D⟩:=C.st (t:=3) B (i:=1) B (v:=Vi 4) (by show 0<1;decide) B;obtain⟨g5,y5,f⟩:=D.st (t:=4) B (i:=0) B (v:=.bool Ag) (by show 0<1;decide) B;refine⟨_,_,y1,_,_,y2 _,_,_,y3 _,_,y4,_,y5,?_⟩;generalize ab:g1.nx=g at f;generalize ad:g2.nx=P at f;have aa:h.nx≠g:=λe=>f.2.2 2 1 _ _ (by decide) B B h.nx B e;subst ab ad;refine cl (Avw V f (i:=1) (k:=0) (by decide) ((f.dD (i:=2) B).cell B) aa (rr.ext f.e) hn B B (most:=64) G) ?_;rintro _ h6 ⟨m,Q,ak,rfl,hm,al,s6⟩;have al:0<=Q/\Q<=n+4:=G;obtain⟨g7,y7,x7,o7,_⟩:=YH (τ:=Ax) (t:=118) (e:=203) (k:=2) (z:=.agg #[Sg ⟨#[]⟩,sN]) Kq Kq m m (Ae _) G .i64 .i64 h6;have o7:Own g7 h6.nx 203 (H3 (AE m Adv)):=by rw[←Aay];exact o7
  have s7:=s6.add (a:=aO h6.nx 203 (H3 (AE m Adv))) x7 o7 λi U=>A2 U.symm;obtain⟨g8,y8,x8,o8,n8⟩:=MA (τ:=Ax) (t:=48) (e:=3) (z:=Vi 0) Kq Kq B m G .i64 .i64 g7;rw[show AE m (Vi 0)=Bn (AE m 0) by simp[Bn]] at o8;have R:=s7.add (a:=aO g7.nx 3 (Bn (AE m 0))) x8 o8 λi U=>A2 U.symm;refine⟨_,_,y7,_,_,y8,?_⟩;have am:=R.2.1 0 _ B;generalize an:g7.nx=X at R;generalize ao:h6.nx=T at R;generalize ab:g1.nx=g at R;generalize ad:g2.nx=P at R;obtain⟨Q,rfl⟩:∃y:Nat,Q=y:=⟨Q.toNat,G⟩;refine⟨λμ A E=>∃(i j:Nat) (c:Bool) (ps:List DQ) (sz:Bo),A=[(1,AG h.nx 0),(4,AG g 0),(5,AG P 0),(6,.func (.func 188) #[] #[AG h.nx 0,AG g 0,AG P 0]),(7,sL T m m),(8,sL X m m),(9,Vi i)]/\
   i<=m/\μ=m-i/\j<=n+4/\ps.length=m/\sz.length=m/\(∀x∈sz,x<=16777216)/\(∀p∈ps,p.nm.size<=100000000/\p.dv=sN/\p.db=[])/\Sep h E [aO X 3 (Bn sz),aO T 203 (H3 ps),aO P 4 [.bool c],aO g 3 [Vi j],aO h.nx 62 [.slice N n O]],
   ⟨_,_,Sq,?_,0,Q,ak,_,_,B,Al _,B,G,by simp,by simp,?_,?_,R⟩,?_⟩
  .omega
  .intro x hx;rw[CH hx];omega
  .intro p u;rw[CH u];exact⟨Al _,rfl,rfl⟩
  clear am an ao ab ad s7 s6 f D C W s1 aa;rintro μ A E ⟨i,j,c,ps,sz,rfl,U,rfl,ae,K,ap,ag,M,s⟩ aq;have aa:h.nx≠g:=λe=>s.2.2 4 3 _ _ (by decide) B B h.nx B e;have c1:=(s.dD (i:=4) B).cell (i:=0) B;have c4:=(s.dD (i:=3) B).cell (i:=0) B;have c5:=(s.dD (i:=2) B).cell (i:=0) B;apply Bz<;>intro e1;refine⟨_,ld B c5,Ad (λe2=>?_) (λe2=>?_)⟩
  .refine⟨_,ld B c1,_,ld B c4,_,Auo V (rr.ext s.e) G d G,?_⟩
   rintro _ E ⟨rfl,nm,q,is,rfl,a3,hq⟩;refine⟨_,_,B,Ad (λe3=>?_) (λe3=>?_)⟩
   .exact⟨s.e,_,Ah,B,λh=>by cases h⟩
   have af:ps[i]?=I ps[i]:=Ab G;obtain⟨F,u2,W⟩:=s.st (t:=9) B (i:=1) B (j:=i*2) (v:=.string nm) (by rw[OS];omega) B;rw[XM ps af] at W;obtain⟨h3,u3,C⟩:=W.st (t:=3) B (i:=3) B (j:=0) (v:=Vi q) (by show 0<1;decide) B;refine⟨G,_,Jp u2 (by show 0+i*2+0=i*2;omega),_,u3,_,Avw V C (i:=3) (k:=2) (by decide) ((C.dD (i:=4) B).cell (i:=0) B) aa (rr.ext C.e) hn B B (most:=16777216) G d G,?_⟩;rintro _ h4 ⟨x,j4,ar,rfl,hx,a4,D⟩;obtain⟨j4,rfl⟩:∃y:Nat,j4=y:=⟨j4.toNat,G⟩;obtain⟨h5,u5,f⟩:=D.st (t:=3) B (i:=0) B (j:=i) (v:=Vi x) (by rw[HO];omega) B;rw[show(Bn sz).set i (Vi x)=Bn (sz.set i x) by simp[Bn,Cp]] at f;refine⟨G,_,Jp u5 (by show 0+i*1=i;omega),Pq,_,_,Sq,G,i+1,j4,ar,_,_,B,G,B,G,by simp;exact K,by simp;exact ap,?_,?_,f⟩
   .intro y hy
    rcases BT hy with hy|rfl
    .exact ag y hy
    .exact hx
   .intro p u
    rcases BT u with u|rfl
    .exact M p u
    .exact⟨by show nm.size<=_;omega,(M _ (Bu _)).2⟩
  all_goals
   refine⟨λμ A F=>∃(i j:Nat) (c:Bool) (ps:List DQ),A=[(1,AG h.nx 0),(4,AG g 0),(5,AG P 0),(7,sL T m m),(51,sL X m m),(52,Vi m),(53,Vi i)]/\
    i<=m/\μ=m-i/\j<=n+4/\ps.length=m/\E.nx<=F.nx/\TE F E.nx ps/\Sep h F [aO X 3 (Bn sz),aO T 203 (H3 ps),aO P 4 [.bool c],aO g 3 [Vi j],aO h.nx 62 [.slice N n O]],
    ⟨_,_,Sq,G,0,j,c,ps,B,Al _,B,ae,K,Ae _,λp u=>?_,s⟩,?_⟩
   .obtain⟨f1,f2,f3⟩:=M p u
    rw[f2,f3];exact⟨f1,Al _,(AS.nil E 0 5 1).rd,λi U=>U.elim⟩
   have au:=(s.dD (i:=3) B).1;have av:=(s.dD (i:=1) B).1;clear M c1 c4 c5 K s ae;rintro μ A F ⟨i,j,c,ps,rfl,U,rfl,ae,K,a5,M,s⟩ aq;have c1:=(s.dD (i:=4) B).cell (i:=0) B;have c4:=(s.dD (i:=3) B).cell (i:=0) B;have c5:=(s.dD (i:=2) B).cell (i:=0) B;apply Bz<;>intro e1;rotate_left
   .have Da:∀b:Bool,AA h F/\∃(o:Aa) (c:Bool),C4 #[sL T m m,.bool b]=.tuple #[o,.bool c]/\(c=Ag->∃ps,ps.length<=64/\EC F o ps):=λb=>by
     refine⟨s.e,_,b,B,λ_=>⟨ps,G,?_,λp u=>?_⟩⟩
     .have:=(s.dD (i:=1) B).dB (n:=m) (k:=2) (by rw[OS,K])
      rw[←K] at this⊢;exact this
     .obtain⟨f1,f2,f3,_⟩:=M p u
      exact⟨f1,f2,f3⟩
    refine⟨[],Kq,_,ld B c5,Ad (λe2=>?_) (λe2=>?_)⟩
    .exact⟨_,ld B c4,_,ld B c1,Da _⟩
    .exact Da Ah
   have aw:sz.getD i 0<=16777216:=by
    rw[Ak,Ab G];exact ag _ (Bu _)
   obtain⟨q,hq⟩:∃q,q=sz.getD i 0:=⟨_,B⟩;have l1:Bw Ax 3 F X (0+((i:Int)).toNat*t3.size)=I (Vi q):=by
    rw[hq];exact Dz (ld B ((s.dD (i:=0) B).cell (GH G))) (by show 0+i*1=i;omega)
   rw[←hq] at aw;refine⟨G,_,l1,_,ld B c5,_,_,B,Ad (λe2=>?_) (λe2=>?_)⟩
   .exact⟨s.e,_,Ah,B,λh=>by cases h⟩
   refine⟨_,ld B c1,_,ld B c4,Pq,Bz (λe3=>?_) (λe3=>?_)⟩
   .exact⟨s.e,_,Ah,B,λh=>by cases h⟩
   obtain⟨w1,f1,f2,_⟩:=rr.slice (τ:=Ax) (t:=62) Kq (lo:=I (Vi (j:Nat))) (U:=I (Vi (j+q:Nat))) (l:=j) (m:=j+q) B B G G;rw[BJ,BJ,EA,Ez,show j+q-j=q by omega] at f2;have ax:∀H,CN H (C7 Ax 62 (.slice N n O) (I (Vi (j:Nat))) (I (Vi ((j:Int)+(q:Int)))) Z)=I (w1,H):=λH=>by
    rw[show(j:Int)+(q:Int)=((j+q:Nat):Int) by omega,f1];rfl
   refine⟨_,ld B c1,_,ld B c4,_,ld B c4,Pq,_,_,ax _,_,Avs V.toBase (f2.ext s.e) G d G,?_⟩;rintro w3 h3 ⟨x3,r3⟩;have C:=s.ext x3;have a6:=x3.nx;have ay:TE h3 E.nx ps:=M.ae (x3.ae λ_=>False) λ_ h=>h.elim;have af:ps[i]?=I ps[i]:=Ab G;obtain⟨h4,u4,D,v4⟩:=C.a5 (τ:=Ax) (t:=62) B (i:=1) B (j:=i*2+1) (v:=w3) (by rw[OS];omega) r3.rd.one;rw[Yh ps af w3 ((bs.drop j).take q)] at D;obtain⟨h5,u5,f,v5⟩:=D.a5 (τ:=Ax) (t:=3) B (i:=3) B (j:=0) (v:=Vi (j+q:Nat)) (by show 0<1;decide) B;have az:((bs.drop j).take q).length=q:=by have:=f2.1;rw[A7] at this;omega
   have ah:TE h4 E.nx ps:=ay.ae v4.ae λi U=>by rw[U];exact av
   have r4:Rd h4 w3 1 q (Ay ((bs.drop j).take q)):=r3.rd.ae v4.ae λi U hb=>by have:=r3.ai i U;have hb:i=T:=hb;omega
   have a0:=(ah.set i (q:={ps[i] with dv:=w3,db:=(bs.drop j).take q}) ⟨(ah _ (Bu _)).1,by show((bs.drop j).take q).length<=_;omega,by show Rd h4 w3 1 ((bs.drop j).take q).length _;rw[az];exact r4,λi U=>by have:=r3.ai i U;omega⟩).ae v5.ae λi U=>by rw[U];exact au
   have ej:((j:Int)+(q:Int))=((j+q:Nat):Int):=G;have a1:BA Ax 3 h4 g 0 (Vi ((j:Int)+(q:Int)))=I h5:=by rw[ej];exact u5
   have a7:=v4.nx;have a8:=v5.nx;exact⟨G,_,Jp u4 (by show 0+i*2+1=i*2+1;omega),_,ld B ((D.dD (i:=3) B).cell (i:=0) B),Pq,_,a1,Pq,_,_,Sq,G,i+1,j+q,c,_,B,G,B,G,by simp;exact K,G,a0,f⟩
def K8 (τ:Bb) (kt:Ai) (K:Aa->Prop):Prop:=∀k,K k->Do τ 5 kt k=Ag/\∀k',K k'->∃b,IZ τ Op.maxDepth kt k k'=I b/\(b=Ag->Cy k' k=Ag)
def Gy (h:Y) (r:Nat) (K V:Aa->Prop):Prop:=r<h.nx/\∃es ck,h.t.get r=I (.map es ck)/\(∀e∈es,K e.key/\V e.val)/\Fc ck 0 es=Ag
def aM (r:Nat) (K V:Aa->Prop):Ct:={
 am:=λi=>i=r
 holds:=λh=>Gy h r K V
 aH:=λc a o=>⟨AC o.1 c.nx,by rw[c.t r o.1 (a r B)];exact o.2⟩
 lt:=λo i U=>by rw[U];exact o.1
 bk:=λo=>by unfold Gy;rw[CL,DF];exact o}
section
variable{τ:Bb} {h:Y} {r:Nat} {K V:Aa->Prop} {t kt et:Ai}
def Yx (a:K8 τ kt K) {k:Aa} (c:K k):∀(es:List Ap) (i:Nat),(∀e∈es,K e.key/\V e.val)->
 CE τ kt k es i=I Z\/∃j e,CE τ kt k es i=I (I (i+j,e))/\es[j]?=I e/\Cy e.key k=Ag
 |[],i,_=>.inl B
 |
  e::es,i,d=>by
  obtain⟨b,h1,f⟩:=(a k c).2 e.key (d e Av).1;rw[CE,h1];cases b with
  |true=>exact .inr ⟨0,e,B,B,f B⟩
  |
   false=>
   rcases Yx a c es (i+1) (λe h=>d e (Az _ h)) with h|⟨j,g,f1,f2,f3⟩
   .exact .inl h
   .exact .inr ⟨j+1,g,by rw[show i+(j+1)=i+1+j by omega];exact f1,by simpa using f2,f3⟩
def SX {f:Ap->Ap} {x:Ap}:∀(es:List Ap) (j:Nat),x∈Cu es j f->x∈es\/∃e,es[j]?=I e/\x=f e
 |[],_,h=>by cases h
 |
  e::es,0,h=>by
  rw[Cu] at h;rcases List.mem_cons.1 h with h|h
  .exact .inr ⟨e,B,h⟩
  .exact .inl (Az _ h)
 |
  e::es,j+1,h=>by
  rw[Cu] at h;rcases List.mem_cons.1 h with h|h
  .exact .inl (by rw[h];exact Av)
  .rcases SX es j h with h|⟨a,h1,b⟩
   .exact .inl (Az _ h)
   .exact .inr ⟨a,by simpa using h1,b⟩
def Afz {c:Aa->Prop} (o:τ.ds.get t=I (.map kt et)) (f:K8 τ kt K) (p:∀k,c k->K k) {z:Aa} (q:CP τ et=I z) (m:Gy h r c V) {k:Aa} (g:K k) (i:Bool):
 ∃v b,BW τ t (.map (I r)) k i h=I (if i then .tuple #[v,.bool b] else v)/\(b=Ag->V v/\∃k',c k'/\Cy k' k=Ag)/\(b=Ah->v=z):=by
 obtain⟨_,es,ck,h1,a,_⟩:=m;unfold BW;rw[o];simp only[(f k g).1,D1,h1];rcases Yx f g es 0 (λe l=>⟨p _ (a e l).1,(a e l).2⟩) with d|⟨j,e,d,n,s⟩
 .simp only[d,q]
  exact⟨z,Ah,B,(λh=>by cases h),λ_=>rfl⟩
 .simp only[d]
  exact⟨e.val,Ag,B,λ_=>⟨(a e (AZ n)).2,_,(a e (AZ n)).1,s⟩,λh=>by cases h⟩
def QH (c:τ.ds.get t=I (.map kt et)) (d:K8 τ kt K) {z:Aa} (f:CP τ et=I z) (m:Gy h r K V) {k:Aa} (g:K k) (a:Bool):
 ∃v b,BW τ t (.map (I r)) k a h=I (if a then .tuple #[v,.bool b] else v)/\(b=Ag->V v)/\(b=Ah->v=z):=
 (Afz c d (λ_ h=>h) f m g a).imp λ_ h=>h.imp λ_ q=>⟨q.1,λe=>(q.2.1 e).1,q.2.2⟩
def Aju (o:τ.ds.get t=I (.map kt et)) (g:K8 τ kt K) (m:Gy h r K V) {k:Aa} (b:K k) (i:V v):∃J,BH τ t (.map (I r)) k v h=I J/\Gy J r K V/\Er r h J:=by
 obtain⟨l,es,ck,h1,c,n⟩:=m;unfold BH;rw[o];simp[(g k b).1,D1,h1];rcases Yx g b es 0 c with d|⟨j,e,d,q,p⟩
 .simp only[d]
  refine⟨_,B,⟨by rw[Cc];exact l,_,_,by rw[BQ,Bi B],λx a=>?_,Kd _ _ es ck 0 n (Al _)⟩,Er.put _ _ _⟩;rcases List.mem_append.1 a with a|a
  .exact c x a
  .rw[List.mem_singleton.1 a];exact⟨b,i⟩
 .simp only[d,p,D1]
  refine⟨_,B,⟨by rw[Cc];exact l,_,_,by rw[BQ,Bi B],λx a=>?_,Kc (f:=λe=>{e with key:=k,val:=v}) (λ_=>rfl) es _ ck 0 n⟩,Er.put _ _ _⟩
  rcases SX _ _ a with a|⟨s,_,rfl⟩
  .exact c x a
  .exact⟨b,i⟩
def SG (f:Ap->Ap):∀(es:List Ap) (j:Nat),(Cu es j f).length=es.length
 |[],_=>rfl
 |_::_,0=>rfl
 |e::es,j+1=>by rw[Cu,AO,AO,SG f es j]
def Zj {k:Aa} {es:List Ap} (a:BH τ t (.map (I r)) k v h=I J) (f:h.t.get r=I (.map es ck)):∃b g,J.t.get r=I (.map b g)/\b.length<=es.length+1:=by
 unfold BH at a;split at a
 .rename_i l _ j
  cases j;cases c:Do τ 5 _ k with
  |false=>rw[c] at a;cases a
  |
   true=>
   rw[c] at a;simp[D1,f] at a;split at a
   .rename_i i e _
    cases d:Cy e.key k with
    |false=>rw[d] at a;cases a
    |true=>rw[d] at a;cases a;exact⟨_,_,by rw[BQ,Bi B],by rw[SG];omega⟩
   .cases a;exact⟨_,_,by rw[BQ,Bi B],by rw[Aj];exact Ae _⟩
   .cases a
 .cases a
def Avm (h:Y) (r:Nat) (K V:Aa->Prop) (n:Nat):Prop:=Gy h r K V/\∃es ck,h.t.get r=I (.map es ck)/\es.length<=n
def PW (r:Nat) (K V:Aa->Prop) (n:Nat):Ct:={
 am:=λi=>i=r
 holds:=λh=>Avm h r K V n
 aH:=λc a o=>⟨(aM r K V).aH c a o.1,by rw[c.t r o.1.1 (a r B)];exact o.2⟩
 lt:=λo i U=>by rw[U];exact o.1.1
 bk:=λo=>⟨(aM r K V).bk o.1,by rw[DF];exact o.2⟩}
def Sep.cz {l:List Ct} (s:Sep h0 h l) (U:l[i]?=I (PW r K V n)):Gy h r K V:=(s.2.1 i _ U).1.1
def Gy.new (h:Y) (K V:Aa->Prop):Gy (h.new (.map [] 0)) h.nx K V:=⟨by rw[Ck];omega,[],0,by rw[CK,Bi B],(λe a=>by cases a),B⟩
def Sep.mk {l:List Ct} (s:Sep h0 h l) (K V:Aa->Prop):Sep h0 (h.new (.map [] 0)) (aM h.nx K V::l):=s.add (AA.new _ _) (Gy.new h K V) λi U=>A2 U.symm
def Sep.mw {l:List Ct} (s:Sep h0 h l) (U:l[i]?=I (aM r K V)):Gy h r K V:=(s.2.1 i _ U).1
def Sep.up {l:List Ct} (s:Sep h0 h l) (U:l[i]?=I (aM r K V)) (a:τ.ds.get t=I (.map kt et)) (b:K8 τ kt K) {k:Aa} (c:K k) (d:V v):∃J,BH τ t (.map (I r)) k v h=I J/\Sep h0 J l:=by
 obtain⟨J,a1,e,f⟩:=Aju a b (s.mw U) c d;have:=s.ah U f.ae e λx g=>.inl g;rw[Lx U] at this;exact⟨J,a1,this⟩
end
def Fh (v:Aa):Prop:=∃s,v=.string s
def MV:K8 Ax 9 Fh:=by
 rintro _ ⟨s,rfl⟩;refine⟨B,?_⟩;rintro _ ⟨a,rfl⟩;refine⟨Gp s.data.toList a.data.toList,B,λh=>?_⟩;obtain rfl:=CJ.1 h;exact h
def KU (ps:List DQ):Nat:=(ps.map λp=>p.db.length).sum
def SH {ps:List DQ} (a:k<ps.length):KU (ps.take (k+1))=KU (ps.take k)+ps[k].db.length:=by
 unfold KU;rw[A5 a,BS,PC];simp
def T8 (ps:List DQ) (k:Nat):KU (ps.take k)<=KU ps:=by
 have e:KU ps=KU (ps.take k)+KU (ps.drop k):=by
  unfold KU;rw[←PC,←BS,FO]
 omega
def X1 {ps:List DQ} (h:∀p∈ps,p.db.length<=16777216):KU ps<=ps.length*16777216:=by
 induction ps with
 |nil=>exact Ae _
 |
  cons p ps a=>
  have:=a λq b=>h q (Az _ b);have h1:=h p Av;simp[KU,Bp,Amw,AO] at this⊢;omega
def isTrue (v:Aa):Prop:=v=.bool Ag
def ACn (P:Base S L) {ps:List DQ} (p:EC h v ps) (hn:ps.length<=64):
 Bk S L 6 181 [v] h λw J=>AA h J/\∃z:Int,w=Vi z/\(z=0->KU ps<=16777216/\∀p∈ps,p.nm.size<=16):=
 Cn f181 P λd ai hL=>by
  obtain⟨r,y⟩:=p;have Q:=r;obtain⟨hr,C,D,rfl,aj,ak,hA⟩:=r;have hb:=X1 (λp a=>(y p a).2.1);refine⟨λn A f=>∃k:Nat,A=[(0,.slice C ps.length D),(3,Vi (KU (ps.take k))),(4,.map (I h.nx)),(5,Vi 0),(11,.slice C ps.length D),(12,Vi ps.length),(13,Vi k)]/\k<=ps.length/\n=ps.length-k/\Sep h f [aM h.nx Fh isTrue],
   ⟨_,_,Sq,?_,0,B,Al _,B,(Sep.nil h).mk Fh isTrue⟩,?_⟩
  .omega
  rintro n A f ⟨k,rfl,hk,rfl,s⟩ ab;have ad:=T8 ps k;apply Bz<;>intro e
  .have l:k<ps.length:=G
   have m:=Ab l;have E:=SH l;obtain⟨q,t⟩:∃q,q=ps[k]:=⟨_,B⟩;rw[←t] at m E;obtain⟨m1,F,x⟩:=y q Jq;obtain⟨g,dv,j⟩:=q;have E:KU (ps.take (k+1))=KU (ps.take k)+j.length:=E;have F:=F;obtain⟨a1,y1,K,_,o⟩:=(Q.ext s.e).el l;cases K;rw[Vo ps m] at o;obtain⟨h1,t2,t3,t4,h2,t5,t6,t7⟩:=U9 f ⟨g,dv,j⟩ x.one;have ae:Rd h dv 1 j.length (Ay j):=x;obtain⟨_,af,c3,rfl,_⟩:=ae;refine⟨G,_,EQ Kq (show BK f a1.block (a1.off+(k:Int).toNat*2) (Fj ⟨g,.slice af j.length c3,j⟩) by rw[show(k:Int).toNat=k from B];exact o) B,_,_,t2,_,t5,_,ld B (t7.cell B),Pq,Pq,_,_,Sq,G,k+1,B,G,B,s.ext t6⟩
  obtain rfl:k=ps.length:=G;rw[CS] at ad⊢;refine Ad (λe1=>?_) (λe1=>?_)
  .exact⟨s.e,2,B,λh=>by cases h⟩
  apply Bz<;>intro e2
  .exact⟨s.e,2,B,λh=>by cases h⟩
  refine⟨λn A f=>∃(k:Nat) (z:Int),A=[(4,.map (I h.nx)),(5,Vi z),(30,.slice C ps.length D),(31,Vi ps.length),(32,Vi k)]/\k<=ps.length/\n=ps.length-k/\(∀p∈ps.take k,p.nm.size<=16)/\Sep h f [aM h.nx Fh isTrue],
   ⟨_,_,Sq,?_,0,0,B,Al _,B,(λp a=>by simp at a),s⟩,?_⟩
  .omega
  rintro n A f ⟨k,z,rfl,hk,rfl,M,s⟩ ab;apply Bz<;>intro e;rotate_left
  .obtain rfl:k=ps.length:=G
   rw[CS] at M;exact⟨s.e,z,B,λ_=>⟨G,M⟩⟩
  have l:k<ps.length:=G;have m:ps[k]?=I ps[k]:=Ab l;obtain⟨q,t⟩:∃q,q=ps[k]:=⟨_,B⟩;rw[←t] at m;obtain⟨m1,F,x⟩:=y q (AZ m);obtain⟨g,dv,j⟩:=q;obtain⟨a1,y1,K,_,o⟩:=(Q.ext s.e).el l;cases K;rw[Vo ps m] at o;obtain⟨h1,t2,t3,t4,h2,t5,t6,t7⟩:=U9 f ⟨g,dv,j⟩ x.one;refine⟨G,_,EQ Kq (show BK f a1.block (a1.off+(k:Int).toNat*2) (Fj ⟨g,dv,j⟩) by rw[show(k:Int).toNat=k from B];exact o) B,_,_,t2,_,t5,_,ld B (t7.cell B),_,AAt P d G,?_⟩;rintro _ R ⟨T,b,rfl,ag⟩;have N:=(s.ext t6).ext T;refine⟨_,_,B,Ad (λV=>?_) (λV=>?_)⟩
  .exact⟨N.e,1,B,λh=>by cases h⟩
  have O:=(t7.cell (i:=0) B).ext T;obtain⟨u,b4,l1,l2,l3⟩:=QH (et:=4) Kq MV Kq (N.mw (i:=0) B) ⟨g,B⟩ Ah;obtain⟨c,rfl⟩:∃c,u=.bool c:=by
   cases b4 with
   |true=>exact⟨Ag,l2 B⟩
   |false=>exact⟨Ah,l3 B⟩
  have ah:∀H,CN H (BW Ax 72 (.map (I h.nx)) (.string g) Ah R)=I (.bool c,H):=λH=>by rw[l1];rfl
  obtain⟨h5,u5,W⟩:=N.up (et:=4) (i:=0) B Kq MV ⟨g,B⟩ B;have X:Nb (BH Ax 72 (.map (I h.nx)) (.string g) (.bool Ag) R)=I (.tuple #[],h5):=by rw[u5];rfl
  have aa:∀p∈ps.take (k+1),p.nm.size<=16:=λp a=>by
   rw[A5 l] at a;rcases List.mem_append.1 a with a|a
   .exact M p a
   .rw[List.mem_singleton.1 a,←t];exact ag (by cases b<;>first|rfl|cases V)
  refine⟨_,ld B O,_,_,ah _,Ad (λe4=>?_) (λe4=>?_)⟩
  .exact⟨_,ld B O,_,_,X,Pq,_,_,Sq,G,k+1,_,B,G,B,aa,W⟩
  .exact⟨_,ld B O,_,_,X,Pq,_,_,Sq,G,k+1,_,B,G,B,aa,W⟩
def Ahi {h:Y} {b n:Nat} {xs:AH} (o:Own h b 5 xs) (m:xs.length=n) (d:Nat) (f:n<=d):
 ∃e,Ea Ax 62 62 (sL b n d) h=I (sL b n d,e)/\Rd e (sL b n d) 1 n xs/\Er b h e:=by
 obtain⟨hb,c,x,g,j⟩:=o;refine⟨h.put b (.cells c xs.length 5 1 0 x),?_,⟨G,_,_,B,f,(λh=>by cases h),?_⟩,Er.put _ _ _⟩
 .show(match Ax.ds.get 5,h.t.get b with|some (.int .u8),I (.cells c k el 0 0 x)=>I (sL b n d,h.put b (.cells c k el 1 0 x))|_,_=>Z)=_
  rw[g];rfl
 rintro a l;cases l;refine⟨by rw[Cc];exact hb,c,_,_,_,_,_,by rw[BQ,Bi B],λi u U=>?_⟩;rw[Ba];exact j i u U
def Awq (s:Base S L) {h:Y} {v:Aa} {ps:List DQ} (p:EC h v ps) (hn:ps.length<=64) (qq:G3 h):
 Bk S L 7 101 [v] h λw J=>AA h J/\∃(o:Aa) (z:Int),w=.tuple #[o,Vi z]/\(z=0->∃bs:Bl,bs.length<=20000000/\AS J h.nx 5 1 o bs.length (Ay bs)):=
 Cn f101 s λd ai hL=>by
  have p0:=p;obtain⟨r,pp⟩:=p;have r0:=r;obtain⟨hr,M,N,rfl,aj,ak,hA⟩:=r;refine cl (ACn s p0 hn) ?_;rintro _ h1 ⟨O,z,rfl,hz⟩;apply Ad<;>intro e
  .exact⟨O,_,z,B,λb=>by subst b;cases e⟩
  obtain⟨F,ad⟩:=hz (by simpa using e);have x2:=AA.row h1 5 (Ay [72,78,75,49]);obtain⟨H,e2,r2,f⟩:=Ahi (Own.row h1 5 (Ay [72,78,75,49])) (n:=4) B 4 (Ae _);have aa:AA h H:=(O.trans x2).then f.ae (λi U=>by have:=O.nx;omega)
  refine⟨_,_,bs4 72 78 75 49 h1,_,_,e2,_,.inl Pq,_,R5 s (x:=ps.length) r2 G G d G,?_⟩;rintro o3 h3 ⟨x3,m,hm,cs,P⟩;have ae:=aa.trans x3;refine⟨λC A b=>∃(k:Nat) (cv:Aa) (bs:Bl),A=[(0,.slice M ps.length N),(5,cv),(21,.slice M ps.length N),(22,Vi ps.length),(23,Vi k)]/\k<=ps.length/\C=ps.length-k/\AA h b/\bs.length<=64+k*200/\AS b h.nx 5 1 cv bs.length (Ay bs),
   ⟨_,_,Sq,?_,0,_,[72,78,75,49]++cs,B,Al _,B,ae,?_,?_⟩,?_⟩
  .omega
  .have:=P.len;rw[A7] at this;omega
  .have h1:=P.len
   rw[A7] at h1;rw[←h1];exact P.mono aa.nx
  rintro C A b ⟨k,cv,bs,rfl,hk,rfl,g,ab,o⟩ af;apply Bz<;>intro e
  .have t:k<ps.length:=G
   have c:ps[k]?=I ps[k]:=Ab t;obtain⟨q,Q⟩:∃q,q=ps[k]:=⟨_,B⟩;rw[←Q] at c;obtain⟨m1,D,j⟩:=pp q (AZ c);have m4:=ad q (AZ c);obtain⟨u,dv,a⟩:=q;have D:a.length<=16777216:=D;have m4:u.size<=16:=m4;obtain⟨a1,y1,R,_,E⟩:=(r0.ext g).el t;cases R;rw[Vo ps c] at E;obtain⟨h4,t2,t3,t4,h5,t5,t6,t7⟩:=U9 b ⟨u,dv,a⟩ j.one;have ag:Rd h dv 1 a.length (Ay a):=j;obtain⟨_,ah,c3,rfl,_⟩:=ag;refine⟨G,_,EQ (k:=2) Kq (show BK b a1.block (a1.off+(k:Int).toNat*2) (Fj ⟨u,.slice ah a.length c3,a⟩) by rw[show(k:Int).toNat=k from B];exact E) B,_,_,t2,_,t5,_,ld B (t7.cell (i:=0) B),_,Avn s (o.ext t6).rd G G d G,?_⟩;rintro o6 h6 ⟨l,m6,al,am,y⟩;have K:=y.len;rw[A7] at K;refine⟨_,ld B ((t7.ext l).cell (i:=1) B),_,.inl Pq,_,R5 s (x:=a.length) y.rd G G d G,?_⟩;rintro o7 h7 ⟨x7,m7,an,ao,T⟩;have l7:=T.len;rw[A7] at l7;rw[l7] at T;have g7:=((g.trans t6).trans l).trans x7;refine⟨Pq,?_⟩;exact⟨_,_,Sq,G,k+1,_,_,B,G,B,g7,G,T.mono (Ao (Ao g.nx t6.nx) l.nx)⟩
  obtain rfl:k=ps.length:=G;refine⟨λC A H=>∃(k:Nat) (cv:Aa) (bs:Bl),A=[(5,cv),(38,.slice M ps.length N),(39,Vi ps.length),(40,Vi k)]/\k<=ps.length/\C=ps.length-k/\AA h H/\bs.length<=64+64*200+KU (ps.take k)/\AS H h.nx 5 1 cv bs.length (Ay bs),
   ⟨_,_,Sq,?_,0,_,bs,B,Al _,B,g,G,o⟩,?_⟩
  .omega
  clear o ab g;rintro C A b ⟨k,cv,bs,rfl,hk,rfl,g,ab,o⟩ af;have ap:=T8 ps k;apply Bz<;>intro e
  .have t:k<ps.length:=G
   have F:=SH t;have aq:=T8 ps (k+1);have c:ps[k]?=I ps[k]:=Ab t;obtain⟨q,Q⟩:∃q,q=ps[k]:=⟨_,B⟩;rw[←Q] at c F;obtain⟨m1,D,j⟩:=pp q (AZ c);obtain⟨u,dv,a⟩:=q;have D:a.length<=16777216:=D;have j:Rd h dv 1 a.length (Ay a):=j;have F:KU (ps.take (k+1))=KU (ps.take k)+a.length:=F;obtain⟨a1,y1,R,_,E⟩:=(r0.ext g).el t;cases R;rw[Vo ps c] at E;obtain⟨h4,t2,t3,t4,h5,t5,t6,t7⟩:=U9 b ⟨u,dv,a⟩ j.one;have m5:=j.ext (g.trans t6);have V:=(g.trans t6).nx;obtain⟨v6,h6,W,f,X,u4⟩:=UN (τ:=Ax) (st:=62) (t2:=62) (e:=5) (k:=1) Kq (o.ext t6) m5.bu m5.src (by simp[Ay]) (Fa a) V G;rw[←Ee,←Aj] at f;refine⟨G,_,EQ (k:=2) Kq (show BK b a1.block (a1.off+(k:Int).toNat*2) (Fj ⟨u,dv,a⟩) by rw[show(k:Int).toNat=k from B];exact E) B,_,_,t2,_,t5,_,ld B (t7.cell (i:=1) B),_,_,W,Pq,?_⟩;exact⟨_,_,Sq,G,k+1,_,_,B,G,B,(g.trans t6).then X (λi U=>(o.ext t6).ai i U),by rw[Aj];omega,f⟩
  obtain rfl:k=ps.length:=G;refine cl (Auy s (qq.ext g) o.rd G) ?_;rintro o6 h6 ⟨l,cs,y⟩;have K:=y.len;rw[A7] at K;have V:=(g.trans l).nx;obtain⟨v7,h7,W,f,X,u4⟩:=UN (τ:=Ax) (st:=62) (t2:=62) (e:=5) (k:=1) Kq (o.ext l) y.rd.bu y.rd.src (by rw[A7];omega) (Fa cs) V G;rw[←Ee,K,←Aj] at f;exact⟨_,_,W,(g.trans l).then X (λi U=>o.ai i U),v7,0,B,λ_=>⟨bs++cs,by rw[Aj];omega,f⟩⟩
def c48 (a:Base2 S L) {h:Y} {v:Aa} {n:Nat} {bs:Bl} (r:Rd h v 1 n (Ay bs)) (hn:n<=100000000) (u:G3 h):
 Bk S L 8 48 [v] h λw J=>AA h J/\∃(o:Aa) (z:Int),w=.tuple #[o,Vi z]/\(z=0->∃ps,ps.length<=64/\EC J o ps):=
 Cn f48 a.toBase λd aa _=>by
  have c:=r;obtain⟨hr,f,g,rfl,ab,ad,hA⟩:=r;have b:∀{H:Y} (z:Int),z≠0->AA h H->AA h H/\∃(o:Aa) (y:Int),C4 #[sN,Vi z]=.tuple #[o,Vi y]/\(y=0->∃ps,ps.length<=64/\EC H o ps):=λz j x=>⟨x,_,z,B,λh=>Cf h j⟩;apply Bz<;>intro e
  .exact b 5 (by decide) (AA.refl h)
  obtain⟨A,f1,f2,_⟩:=c.slice (τ:=Ax) (t:=62) Kq (lo:=Z) (U:=I (Vi (4:Nat))) (l:=0) (m:=4) B B G G;rw[BJ,BJ,EA,Ez] at f2;have N:∀H,CN H (C7 Ax 62 (.slice f n g) Z (I (Vi 4)) Z)=I (A,H):=λH=>by
   have:C7 Ax 62 (.slice f n g) Z (I (Vi 4)) Z=I A:=f1;rw[this];rfl
  have c1:=FB (τ:=Ax) (s:=62) (d:=9) Kq f2;obtain⟨_,A1,k1,rfl,_⟩:=f2;refine⟨_,_,N _,_,c1,_,B,Ad (λO=>?_) (λO=>?_)⟩
  .exact b 5 (by decide) (AA.refl h)
  have Q:(n:Int)-4=((n-4:Nat):Int):=G;refine⟨Pq,?_⟩;rw[Q];obtain⟨R,f3,f4,_⟩:=c.slice (τ:=Ax) (t:=62) Kq (lo:=I (Vi (n-4:Nat))) (U:=Z) (l:=n-4) (m:=n) B B G G;obtain⟨T,f5,f6,_⟩:=c.slice (τ:=Ax) (t:=62) Kq (lo:=Z) (U:=I (Vi (n-4:Nat))) (l:=0) (m:=n-4) B B G G;rw[BJ,BJ,EA,Ez] at f4 f6;have V:∀H,CN H (C7 Ax 62 (.slice f n g) (I (Vi (n-4:Nat))) Z Z)=I (R,H):=λH=>by rw[f3];rfl
  have C:∀H,CN H (C7 Ax 62 (.slice f n g) Z (I (Vi (n-4:Nat))) Z)=I (T,H):=λH=>by rw[f5];rfl
  refine⟨[],Kq,_,_,V _,_,_,C _,_,Auy (h:=h.ad) a.toBase u f6 G d G,?_⟩;rintro o4 k ⟨D,cs,W⟩;have E:=D.aa;refine⟨D.ag,_,Adk (h:=(h.aa k).ad) a.toBase (show Rd (h.aa k) _ _ _ _ from f4.ext E) (show Rd (h.aa k) _ _ _ _ from W.rd.aa) d G,?_⟩;rintro _ _ ⟨rfl,rfl⟩;have p:=AT E;refine⟨B,_,_,B,Ad (λX=>?_) (λX=>?_)⟩
  .exact b 11 (by decide) p
  refine⟨_,_,C _,_,AGc a (f6.ext p) G d G,?_⟩;rintro _ h6 ⟨x6,o6,ok,rfl,hp⟩;have q:=p.trans x6;refine⟨_,_,B,Ad (λF=>?_) (λF=>?_)⟩
  .exact b 5 (by decide) q
  obtain⟨ps,K,P⟩:=hp (by cases ok<;>first|rfl|cases F)
  refine cl (Awq a.toBase P K (u.ext q)) ?_;rintro _ h7 ⟨M,o7,z,rfl,j⟩;have i:=q.trans M;apply Ad<;>intro e4
  .exact b 5 (by decide) i
  obtain⟨ae,l7,r7⟩:=j (by simpa using e4);refine cl (Adk a.toBase r7.rd (c.ext i)) ?_;rintro _ h7 ⟨rfl,rfl⟩;refine⟨_,_,B,Ad (λe5=>?_) (λe5=>?_)⟩
  .exact b 5 (by decide) i
  .exact⟨i,o6,0,B,λ_=>⟨ps,K,P.ext M⟩⟩
def flatK {b:Type} {f:b->AH} {k:Nat} (c:∀a,(f a).length=k) (l:List b) {i:Nat} {a:b} (U:l[i]?=I a):((l.flatMap f).drop (i*k)).take k=f a:=by
 induction l generalizing i with
 |nil=>cases U
 |
  cons x l d=>
  cases i with
  |
   zero=>
   cases U;rw[Qg,Ajb,Dg];rw[UR Jq,Bj Jq]
  |
   succ i=>
   rw[Dg,show(i+1)*k=(f x).length+i*k by rw[c,Dw,Nat.one_mul,UK],List.drop_append,List.drop_of_length_le G,Ds,IW];exact d Jq
def HV {b:Type} {f:b->AH} {k:Nat} (c:∀a,(f a).length=k) (l:List b):(l.flatMap f).length=l.length*k:=by
 induction l with
 |nil=>simp
 |cons a l d=>rw[Dg,Aj,d,c,AO,Dw];omega
abbrev JT:=Bd×Int
def Mm (p:JT):AH:=[.string p.1,.int .i64 p.2]
def Gt (h:Y) (v:Aa) (ps:List JT):Prop:=Rd h v 2 ps.length (ps.flatMap Mm)
def AGf (a:Base S L) {h:Y} {z:Int}:Bk S L 1 262 [.int .i32 z] h λw J=>J=h/\∃b,w=.bool b:=
 Cn f262 a λd c _=>by
  repeat' first
   |exact⟨rfl,_,rfl⟩
   |apply Ad<;>intro _
def Azv (a:Base S L) {h:Y} {s:Bd}:Bk S L 5 195 [Sg s] h λw J=>AA h J/\∃b:Bool,w=.bool b/\(b=Ag->s.size<=16):=
 Cn f195 a λd f _=>by
  refine⟨_,B,Ad (λc=>?_) (λc=>?_)⟩
  .apply Bz<;>intro g
   .refine cl (Ajq a G ⟨262,#[],#[],B,λz J _=>AGf a⟩) ?_
    rintro _ h1 ⟨e,b,rfl⟩;exact⟨_,_,B,e,_,B,λ_=>G⟩
   .exact⟨AA.refl h,Ah,B,λh=>by cases h⟩
  .exact⟨AA.refl h,Ah,B,λh=>by cases h⟩
def Aee (S:A9) (L d:Nat) (fv:Aa) (h:Y) (P:AH->Prop):Prop:=∃g first cap,fv=.func (.func g) first cap/\∀xs J,P xs->AA h J->Bk S L d g (first.toList++[.agg ⟨xs⟩]++cap.toList) J λv a=>AA J a/\∃b,v=.bool b
def ABg (j:Base S L) {h:Y} {v:Aa} {n:Nat} {xs:AH} (r:Rd h v 2 n xs) (C:n<=100000000) {fv:Aa} {e:Nat} {P:AH->Prop} (l:Aee S L e fv h P) (m:∀i,i<n->P ((xs.drop (i*2)).take 2)):
 Bk S L (e+1) 259 [v,fv] h λw J=>AA h J/\∃z:Int,w=Vi z/\-1<=z/\z<n:=
 Cn f259 j λd D E=>by
  obtain⟨g,first,cap,rfl,o⟩:=l
  have p:=r;obtain⟨F,q,s,rfl,H,K,M⟩:=r;refine⟨λc A a=>∃k:Nat,A=[(0,.slice q n s),(1,.func (.func g) first cap),(7,Vi n),(8,Vi k)]/\k<=n/\c=n-k/\AA h a,
   ⟨_,_,Sq,?_,0,B,Al _,B,AA.refl _⟩,?_⟩
  .omega
  rintro c A a ⟨k,rfl,N,rfl,x⟩ O;apply Bz<;>intro Q
  .obtain⟨a1,R,t,_,u⟩:=(p.ext x).el (show k<n by omega)
   cases t;have y:((xs.drop (k*2)).take 2).length=2:=Gq;refine⟨Pq,_,EQ Kq (show BK a a1.block (a1.off+(k:Int).toNat*2) ((xs.drop (k*2)).take 2) from u) y,_,o _ a (m k G) x d G,?_⟩;rintro _ T ⟨f,b,rfl⟩;apply Ad<;>intro V
   .exact⟨x.trans f,k,B,G,G⟩
   .exact⟨Pq,_,_,Sq,G,k+1,B,G,B,x.trans f⟩
  .exact⟨x,-1,B,G,G⟩
def AAs (f:Base S L) {h:Y} {b:Nat} {s a:Bd} {k:Int} (c:Cell h b 0 (Sg s)):Bk S L 1 260 [.agg #[Sg a,Vi k],AG b 0] h λw J=>AA h J/\∃b,w=.bool b:=
 Cn f260 f λd j _=>by
  obtain⟨h1,b1,e,g,l⟩:=H1 Ax 112 (.agg #[Sg a,Vi k]) h;have i:=g;exact⟨_,_,b1,_,ld B (i.cell B),_,ld B (c.ext e),_,B,e,_,B⟩
def ABy (a:Base S L) {h:Y} {v:Aa} {ps:List JT} (p:Gt h v ps) (e:ps.length<=100000000) {s:Bd}:Bk S L 3 194 [v,Sg s] h λw J=>AA h J/\∃(z:Int) (b:Bool),w=.tuple #[Vi z,.bool b]:=
 Cn f194 a λd l _=>by
  obtain⟨h1,b1,c,g,m⟩:=H1 Ax 9 (Sg s) h;have c1:Cell h1 h.nx 0 (Sg s):=g.cell B;refine⟨_,_,b1,_,ABg a (p.ext c) e (P:=λxs=>∃q:JT,xs=Mm q) ⟨260,#[],#[AG h.nx 0],B,λxs J j x=>by obtain⟨q,rfl⟩:=j;exact AAs a (c1.ext x)⟩ (λi U=>⟨ps[i],flatK (f:=Mm) (λ_=>rfl) ps (Ab U)⟩) d G,?_⟩;rintro _ n ⟨k,z,rfl,_,_⟩;intro y o;exact⟨c.trans k,y,_,B⟩
def Ayr (a b:Bd) (x y:Int):IZ Ax Op.maxDepth 112 (.agg #[Sg a,Vi x]) (.agg #[Sg b,Vi y])=I (Gp a.data.toList b.data.toList&&x==y):=by
 have e:IZ Ax Op.maxDepth 112 (.agg #[Sg a,Vi x]) (.agg #[Sg b,Vi y])=(match I (Gp a.data.toList b.data.toList) with|some Ag=>(match I (x==y) with|some Ag=>I Ag|some Ah=>I Ah|none=>Z)|some Ah=>I Ah|none=>Z):=by rfl
 rw[e];cases Gp a.data.toList b.data.toList<;>cases(x==y)<;>rfl
def Apq (j:Base S L) {h:Y} {v:Aa} {ps:List JT} (p:Gt h v ps) (V:ps.length<=100000000):Bk S L 6 115 [v] h λw J=>AA h J/\∃z:Int,w=Vi z/\(z=0->1<=ps.length/\ps.length<=64/\∀q∈ps,q.1.size<=16/\0<=q.2/\q.2<=2):=
 Cn f115 j λd aa hL=>by
  have l:=p;obtain⟨hr,A0,E,rfl,ab,ad,hA⟩:=p;have a:∀{H:Y},AA h H->AA h H/\∃z:Int,Vi 5=Vi z/\(z=0->1<=ps.length/\ps.length<=64/\∀q∈ps,q.1.size<=16/\0<=q.2/\q.2<=2):=λx=>⟨x,5,B,λh=>by cases h⟩;apply Bz<;>intro e1
  .exact a (AA.refl h)
  apply Bz<;>intro e2
  .exact a (AA.refl h)
  obtain⟨a1,y1,m,_,n⟩:=Rd.el l (i:=0) G;cases m;rw[flatK (f:=Mm) (λ_=>rfl) ps (Ab G)] at n;refine⟨Pq,_,EQ Kq Jq B,?_⟩;have W:∀ox oy,Jo Ax .neq 112 ox oy (.agg ⟨Mm ps[0]⟩) (.agg #[Sg ⟨#[66,79,83]⟩,Vi 0])=I (.bool (!(Gp ps[0].1.data.toList [66,79,83]&&ps[0].2==0))):=λox oy=>by
   show(match IZ Ax Op.maxDepth 112 (.agg #[Sg ps[0].1,Vi ps[0].2]) (.agg #[Sg ⟨#[66,79,83]⟩,Vi 0]) with|some b=>I (CU (!b))|none=>Z)=_
   rw[Ayr]
  refine⟨_,W _ _,Ad (λX=>?_) (λX=>?_)⟩
  .exact a (AA.refl h)
  refine⟨λF A o=>∃k:Nat,A=[(0,.slice (I a1) ps.length E),(22,.slice (I a1) ps.length E),(23,Vi ps.length),(24,Vi k)]/\k<=ps.length/\F=ps.length-k/\(∀q∈ps.take k,q.1.size<=16/\0<=q.2/\q.2<=2)/\AA h o,
   ⟨_,_,Sq,?_,0,B,Al _,B,Jq,AA.refl _⟩,?_⟩
  .omega
  rintro F A o ⟨k,rfl,hk,rfl,r,x⟩ ae;apply Bz<;>intro k1;rotate_left
  .obtain rfl:k=ps.length:=G
   rw[CS] at r;exact⟨x,0,B,λ_=>⟨G,G,r⟩⟩
  have s:k<ps.length:=G;have K:=Ab s;obtain⟨q,M⟩:∃q,q=ps[k]:=⟨_,B⟩;rw[←M] at K;obtain⟨nm,u⟩:=q;obtain⟨a2,y2,m,_,n⟩:=(l.ext x).el s;cases m;rw[flatK (f:=Mm) (λ_=>rfl) ps K] at n;obtain⟨g1,z1,g2,z2,N⟩:=(Sep.nil o).var (t:=112) (z:=.agg #[Sg ⟨#[]⟩,Vi 0]) Kq (v:=.agg ⟨Mm (nm,u)⟩) B B B;have O:=N.dD (i:=0) B;have y:=x.trans N.e;refine⟨Pq,_,EQ Kq Jq B,_,_,z1 _,_,z2,_,ld B (O.cell B),_,ABy j (l.ext y) V d G,?_⟩;rintro _ h3 ⟨C,z,b,rfl⟩;have P:=O.ext C;apply Ad<;>intro k2
  .exact a (y.trans C)
  refine⟨_,ld B (P.cell B),_,Azv j d G,?_⟩;rintro _ h4 ⟨Q,b4,rfl,D⟩;have R:=P.ext Q;have g:=(y.trans C).trans Q;refine⟨_,_,B,Ad (λT=>?_) (λT=>?_)⟩
  .exact a g
  have D:=D (by cases b4<;>first|rfl|cases T)
  refine⟨_,ld B (R.cell B),Bz (λk4=>?_) (λk4=>?_)⟩
  .exact a g
  refine⟨_,ld B (R.cell B),Bz (λk5=>?_) (λk5=>?_)⟩
  .exact a g
  refine⟨Pq,_,_,Sq,G,k+1,B,G,B,λq c=>?_,g⟩;rw[A5 s] at c;rcases List.mem_append.1 c with c|c
  .exact r q c
  .rw[List.mem_singleton.1 c,←M];exact⟨D,by show 0<=u;omega,by show u<=2;omega⟩
def Gt.ext {ps:List JT} (p:Gt h v ps) (x:AA h J):Gt J v ps:=Rd.ext p x
def c93 (a:Base S L) {ps:List JT} (p:Gt h v ps) (X:ps.length<=100000000):Bk S L 7 93 [v] h λw J=>AA h J/\∃(o:Aa) (z:Int) (bs:Bl),w=.tuple #[o,Vi z]/\bs.length<=20000/\AS J h.nx 5 1 o bs.length (Ay bs):=
 Cn f93 a λd af hL=>by
  have D:=p;obtain⟨hr,A0,c0,rfl,ag,ah,hA⟩:=p;refine cl (Apq a D X) ?_;rintro _ h1 ⟨l,z,rfl,hz⟩;apply Ad<;>intro e
  .exact⟨l,_,z,[],B,Al _,AS.nil _ _ _ _⟩
  obtain⟨l1,n,hq⟩:=hz Jq;refine⟨_,.inl Pq,_,R5 a (AS.nil h1 h.nx 5 1).rd (bs:=[]) G G d G,?_⟩;rintro r h2 ⟨b,m,hm,cs,E⟩;have n:=E.len;rw[A7] at n;refine⟨λF A c=>∃(k:Nat) (cv:Aa) (bs:Bl),A=[(5,cv),(17,.slice A0 ps.length c0),(18,Vi ps.length),(19,Vi k)]/\k<=ps.length/\F=ps.length-k/\AA h c/\bs.length<=60+k*200/\AS c h.nx 5 1 cv bs.length (Ay bs),
   ⟨_,_,Sq,?_,0,_,_,B,Al _,B,l.trans b,G,n▸(E.mono l.nx)⟩,?_⟩
  .omega
  rintro F A c ⟨k,cv,bs,rfl,hk,rfl,x,ai,o⟩ aj;apply Bz<;>intro k1;rotate_left
  .exact⟨x,cv,0,bs,B,G,o⟩
  have H:k<ps.length:=G;have K:=Ab H;obtain⟨q,aa⟩:∃q,q=ps[k]:=⟨_,B⟩;rw[←aa] at K;obtain⟨f1,f2,f3⟩:=hq q Jq;obtain⟨M,g⟩:=q;have f1:M.size<=16:=f1;obtain⟨g,rfl⟩:∃y:Nat,g=y:=⟨g.toNat,G⟩;obtain⟨a2,y2,e9,_,q1⟩:=(D.ext x).el H;cases e9;rw[flatK (f:=Mm) (λ_=>rfl) ps K] at q1;obtain⟨g1,z1,j,z2,s⟩:=(Sep.nil c).var (t:=112) (z:=.agg #[Sg ⟨#[]⟩,Vi 0]) Kq (v:=.agg ⟨Mm (M,(g:Int))⟩) B B B;have r:=s.dD (i:=0) B;have b:=x.trans s.e;have Sn:=r.cell (i:=0) B;have ab:=r.cell (i:=1) B;refine⟨G,_,EQ Kq Jq B,_,_,z1 _,_,z2,[],Kq,_,ld B Sn,_,Avn (h:=j.ad) a (o.ext s.e).rd G G d G,?_⟩;rintro o3 u ⟨C,N,ak,O,P⟩;have l3:=P.len;rw[A7] at l3;have Q:=b.trans C.aa;have c31:=ab.ext C.aa;have ad:=((P.mono (by rw[BF];exact b.nx)).aa:AS (j.aa u) h.nx 5 1 o3 (bs.length+N) (Ay (bs++O))).ext (AT (AA.refl _));refine⟨C.ag,_,ld B c31,_,.inl Pq,_,R5 (h:=(nb (j.aa u)).ad) a ad.rd G G d G,?_⟩;rintro o4 h4 ⟨R,m4,al,ae,T⟩;have V:=T.len;rw[A7] at V;have W:AS ((nb (j.aa u)).aa h4) h.nx 5 1 o4 (bs.length+N+m4) (Ay (bs++O++ae)):=(T.mono (by rw[BF];exact(AT Q).nx)).aa;rw[V] at W;exact⟨R.ag,Pq,_,_,Sq,G,k+1,_,_,B,G,B,(AT Q).trans R.aa,G,W⟩
def c49 (c:Base2 S L) (r:Rd h v 1 n (Ay bs)) (V:n<=100000000):
 Bk S L 7 49 [v] h λw J=>AA h J/\∃(o:Aa) (z:Int),w=.tuple #[o,Vi z]/\one o=Ag/\(z=0->∃ps:List JT,AS J h.nx 112 2 o ps.length (ps.flatMap Mm)/\1<=ps.length/\ps.length<=64/\∀q∈ps,q.1.size<=16/\0<=q.2/\q.2<=2):=
 Cn f49 c.toBase λd W X=>by
  have f:=r;obtain⟨hr,D,E,rfl,aa,ab,hA⟩:=r;have a:∀{H:Y},AA h H->AA h H/\∃(o:Aa) (z:Int),C4 #[sN,Vi 5]=.tuple #[o,Vi z]/\one o=Ag/\(z=0->∃ps:List JT,AS H h.nx 112 2 o ps.length (ps.flatMap Mm)/\1<=ps.length/\ps.length<=64/\∀q∈ps,q.1.size<=16/\0<=q.2/\q.2<=2):=λx=>⟨x,_,5,B,B,λh=>by cases h⟩;refine cl (Aki c f G) ?_;rintro _ h ⟨rfl,m,e,ok,rfl,ad,ae,s⟩;refine⟨_,_,B,Ad (λF=>?_) (λF=>?_)⟩
  .exact a (AA.refl _)
  apply Bz<;>intro e2
  .exact a (AA.refl _)
  obtain⟨m,rfl⟩:∃y:Nat,m=y:=⟨m.toNat,G⟩;refine⟨λu A b=>∃(k e:Nat) (cv:Aa) (ps:List JT),A=[(0,.slice D n E),(5,Vi e),(7,cv),(26,.int .u64 m),(27,.int .u64 k)]/\k<=m/\u=m-k/\e<=n/\ps.length=k/\AA h b/\AS b h.nx 112 2 cv ps.length (ps.flatMap Mm),
   ⟨_,_,Sq,?_,0,e,_,[],B,Al _,B,s,B,AA.refl _,AS.nil _ _ _ _⟩,?_⟩
  .omega
  rintro u A b ⟨k,e,cv,ps,rfl,hk,rfl,s,K,x,o⟩ af;apply Bz<;>intro k1
  .refine cl (Auo c (f.ext x) G) ?_
   rintro _ b ⟨rfl,g,q,CN,rfl,ag,hq⟩;refine cl (Aki c (f.ext x) G) ?_;rintro _ b ⟨rfl,j,M,ah,rfl,ai,aj,N⟩;refine⟨_,_,B,Ad (λC=>?_) (λC=>?_)⟩
   .exact a x
   refine⟨_,_,B,Ad (λl=>?_) (λl=>?_)⟩
   .exact a x
   apply Bz<;>intro e5
   .exact a x
   obtain⟨v',J,t1,t2,t3,t4⟩:=Tz Kq o (ys:=[Sg g,Vi j]) B B x.nx G;refine⟨_,.inl Pq,_,_,Iv (τ:=Ax) (t:=22) (k:=2) Kq (.agg #[Sg g,Vi j]) B B Jq b,_,_,t1,Pq,_,_,Sq,G,k+1,M,v',ps++[(g,j)],B,G,B,N,by simp;exact K,x.then t3 λi U=>o.ai i U,?_⟩
   rw[Aj,E0];exact t2
  .apply Ad<;>intro C
   .exact a x
   have P:=o.rd;refine cl (Apq c.toBase P G) ?_;rintro _ h2 ⟨p,z,rfl,O⟩;apply Ad<;>intro l
   .exact a (x.trans p)
   .obtain⟨Q,R,T⟩:=O (by simpa using l)
    exact⟨x.trans p,cv,0,B,Rd.one P,λ_=>⟨ps,o.ext p,Q,R,T⟩⟩
def EJ (n:Nat) (l:GX):Prop:=∀p∈l,(0<=p.1.1/\p.1.1<n)/\(0<=p.1.2/\p.1.2<n)/\0<=p.2/\p.2<=30000
def EJ.ah {n:Nat} {a b c:Int} (e:0<=a/\a<n) (hb:0<=b/\b<n) (f:0<=c/\c<=30000):∀{l:GX},EJ n l->EJ n (ML l a b c)
 |[],_=>λp d=>by rw[List.mem_singleton.1 d];exact⟨e,hb,f⟩
 |
  q::l,m=>λp d=>by
  rw[ML] at d;split at d
  .rcases List.mem_cons.1 d with rfl|d
   .exact⟨e,hb,f⟩
   .exact m p (Az _ d)
  .rcases List.mem_cons.1 d with rfl|d
   .exact m _ Av
   .exact EJ.ah e hb f (λp h=>m p (Az _ h)) p d
def EJ.del {n:Nat} {a b:Int}:∀{l:GX},EJ n l->EJ n (Nh l a b)
 |[],m=>m
 |
  q::l,m=>λp c=>by
  rw[Nh] at c;split at c
  .exact m p (Az _ c)
  .rcases List.mem_cons.1 c with rfl|c
   .exact m _ Av
   .exact EJ.del (λp h=>m p (Az _ h)) p c
def QT (a b c:Int):∀l:GX,(ML l a b c).length<=l.length+1
 |[]=>Ae _
 |
  p::l=>by
  rw[ML];split
  .simp
  .have:=QT a b c l;simp;omega
def QZ (a b:Int):∀l:GX,(Nh l a b).length<=l.length
 |[]=>Ae _
 |
  p::l=>by
  rw[Nh];split
  .simp
  .have:=QZ a b l;simp;omega
def F6.ae {W:Nat->Prop} {h J:Y} {b n:Nat} {df:Int} {r:Nat} {l:GX} (m:F6 h b n df r l) (c:B0 W h J) (hb:¬W b) (a:¬W r):F6 J b n df r l:=
 ⟨m.1,m.2.1.ae c hb,m.2.2.1.ae c hb,m.2.2.2.1.ae c hb,m.2.2.2.2.ae c a⟩
def Cell.lt {h:Y} {b i:Nat} {v:Aa} (c:Cell h b i v):b<h.nx:=c.1
def Xg (b n:Nat) (df:Int) (r:Nat) (l:GX):Ct:={
 am:=λi=>i=b\/i=r
 holds:=λh=>F6 h b n df r l
 aH:=λc a o=>o.ae c (a b (.inl B)) (a r (.inr B))
 lt:=λo i U=>by
  rcases U with rfl|rfl
  .exact o.2.1.1
  .exact o.2.2.2.2.1
 bk:=λo=>⟨o.1,o.2.1.aa,o.2.2.1.aa,o.2.2.2.1.aa,P9 o.2.2.2.2⟩}
def Ada (g:Base2 S L) {h0 h:Y} {l:List Ct} (s:Sep h0 h l) {i k b1 b c:Nat} (u:i≠k) {v:Aa} {n:Nat} {bs:Bl} (c1:Cell h b1 0 v) (E:b1≠b) (r:Rd h v 1 n (Ay bs)) (F:n<=100000000) {j:Int} {e:Bool} (U:l[i]?=I (aO b 3 [Vi j])) (m:l[k]?=I (aO c 4 [.bool e])):
 Bk S L 2 117 [AG b1 0,AG b 0,AG c 0] h λw J=>∃(x:Nat) (a:Int) (f:Bool),w=Vi x/\x<=1048576/\(a=j\/0<=a/\a<=n)/\Sep h0 J ((l.set i (aO b 3 [Vi a])).set k (aO c 4 [.bool f])):=
 Cn f117 g.toBase λd H _=>by
  have c4:=(s.dD U).cell (i:=0) B;refine⟨_,ld B c1,_,ld B c4,_,Aki g r G d G,?_⟩;rintro _ h ⟨rfl,x,q,K,rfl,M,N,O⟩;obtain⟨x,rfl⟩:∃y:Nat,x=y:=⟨x.toNat,G⟩;obtain⟨z,o,A⟩:=s.st (t:=4) B m (j:=0) (v:=.bool Ag) (by show 0<1;decide) B;have p:∃(x:Nat) (a:Int) (f:Bool),Vi 0=Vi x/\x<=1048576/\(a=j\/0<=a/\a<=n)/\Sep h0 z ((l.set i (aO b 3 [Vi a])).set k (aO c 4 [.bool f])):=
   ⟨0,j,Ag,B,Al _,.inl B,by rw[Lx U];exact A⟩
  obtain⟨P,t1,t2⟩:=s.st (t:=3) B U (j:=0) (v:=Vi q) (by show 0<1;decide) B;have C:(l.set i (aO b 3 [Vi q]))[k]?=I (aO c 4 [.bool e]):=by rw[Amv u];exact m
  refine⟨_,_,B,Ad (λD=>?_) (λD=>?_)⟩
  .exact⟨_,o,p⟩
  apply Bz<;>intro Q
  .exact⟨_,o,p⟩
  refine⟨_,t1,_,.inl Pq,x,q,e,B,G,.inr G,?_⟩;rw[Lx C];exact t2
def c51 (C:Base2 S L) {h:Y} {v:Aa} {n:Nat} {bs:Bl} (r:Rd h v 1 n (Ay bs)) (K:n<=100000000):
 Bk S L 4 51 [v] h λw J=>AA h J/\∃(o:Aa) (z:Int),w=.tuple #[o,Vi z]/\one o=Ag/\(z=0->∃(b m r:Nat) (df:Int) (l:GX),h.nx<=b/\h.nx<=r/\o=AG b 0/\F6 J b m df r l/\EJ m l/\l.length<=5000/\(1<=m/\m<=64)/\(0<=df/\df<=30000)):=
 Cn f51 C.toBase λd ar hL=>by
  obtain⟨hr,R,T,rfl,af,ag,hA⟩:=r;have N:Rd h (.slice R n T) 1 n (Ay bs):=⟨hr,R,T,B,af,ag,hA⟩;have q:∀{H:Y},AA h H->AA h H/\∃(o:Aa) (z:Int),C4 #[.pointer Z,Vi 5]=.tuple #[o,Vi z]/\one o=Ag/\(z=0->∃(b m r:Nat) (df:Int) (l:GX),h.nx<=b/\h.nx<=r/\o=AG b 0/\F6 H b m df r l/\EJ m l/\l.length<=5000/\(1<=m/\m<=64)/\(0<=df/\df<=30000)):=λx=>⟨x,_,5,B,B,λh=>by cases h⟩;obtain⟨V,y1,s1⟩:=(Sep.nil h).box Ax 62 (.slice R n T);obtain⟨W,y2,D⟩:=s1.al (t:=3) (z:=Vi 0) Kq;obtain⟨g3,y3,f⟩:=D.al (t:=4) (z:=.bool Ah) Kq;obtain⟨g4,y4,X⟩:=f.st (t:=3) B (i:=1) B (j:=0) (v:=Vi 0) (by show 0<1;decide) B;obtain⟨g5,y5,u⟩:=X.st (t:=4) B (i:=0) B (j:=0) (v:=.bool Ah) (by show 0<1;decide) B;refine⟨_,_,y1,_,_,y2 _,_,_,y3 _,_,y4,_,y5,?_⟩;generalize ah:V.nx=b4 at u;generalize ai:W.nx=b5 at u;have O:h.nx≠b4:=λe=>u.2.2 2 1 _ _ (by decide) B B h.nx B e;have au:h.nx<=b4:=u.ge (i:=1) B b4 B;have av:h.nx<=b5:=u.ge (i:=0) B b5 B;subst ah ai;refine cl (Ada C u (i:=1) (k:=0) (by decide) ((u.dD (i:=2) B).cell (i:=0) B) O (N.ext u.e) K B B) ?_;rintro _ h6 ⟨m,j6,aw,rfl,hm,aj,s6⟩;refine cl (Ada C s6 (i:=1) (k:=0) (by decide) ((s6.dD (i:=2) B).cell (i:=0) B) O (N.ext s6.e) K B B) ?_;rintro _ h7 ⟨df,j7,ax,rfl,ay,ak,s7⟩;refine cl (Ada C s7 (i:=1) (k:=0) (by decide) ((s7.dD (i:=2) B).cell (i:=0) B) O (N.ext s7.e) K B B) ?_;rintro _ h8 ⟨Sm,j8,ad,rfl,az,al,s8⟩;refine cl (Avx C.toBase) ?_;rintro _ h9 ⟨x9,hc⟩;have E:=s8.ext x9;rcases hc with⟨rfl,-⟩|⟨a0,am,b,r,hb,a1,rfl,M⟩
  .have F:=(E.dD (i:=0) B).cell (i:=0) B
   refine⟨_,ld B F,?_⟩;cases ad with
   |true=>exact q E.e
   |false=>exact q E.e
  have aa:=s8.add (a:=Xg b m df r []) x9 M λi U=>by rcases U with rfl|rfl<;>assumption
  have F:=(E.dD (i:=0) B).cell (i:=0) B;refine⟨_,ld B F,Ad (λe1=>?_) (λe1=>?_)⟩
  .exact q E.e
  have an:h.nx<=b:=aa.ge (i:=0) B b (.inl B);have ao:h.nx<=r:=aa.ge (i:=0) B r (.inr B);clear F E s8 s7 s6 u X f D s1 al ak aj;refine⟨λμ A hh=>∃(k:Nat) (c j:Int) (ok:Bool) (g:GX),A=[(1,AG h.nx 0),(4,AG V.nx 0),(5,AG W.nx 0),(6,.func (.func 117) #[] #[AG h.nx 0,AG V.nx 0,AG W.nx 0]),(7,Vi m),(8,Vi df),(10,AG b 0),(12,Vi c),(33,Vi Sm),(34,Vi k)]/\
   k<=Sm/\μ=Sm-k/\(-1<=c/\(k:Int)<=c+1/\g.length<=k)/\c<5000/\EJ m g/\Sep h hh [Xg b m df r g,aO W.nx 4 [.bool ok],aO V.nx 3 [Vi j],aO h.nx 62 [.slice R n T]],
   ⟨_,_,Sq,?_,0,-1,j8,ad,[],B,Al _,B,⟨G,G,Ae _⟩,G,(λp hp=>by cases hp),aa⟩,?_⟩
  .omega
  clear aa e1 M;rintro μ A hh ⟨k,c,j,ok,g,rfl,hk,rfl,a2,a3,mo,s⟩ a4;apply Bz<;>intro k1;rotate_left
  .have l4:=(s.dD (i:=2) B).cell (i:=0) B
   have F:=(s.dD (i:=3) B).cell (i:=0) B;refine⟨_,ld B l4,_,ld B F,Ad (λk2=>?_) (λk2=>?_)⟩
   .exact q s.e
   .exact⟨s.e,_,0,B,B,λ_=>⟨b,m,r,df,g,an,ao,B,(s.2.1 0 _ B).1,mo,G,G,am⟩⟩
  refine cl (Ada C s (i:=2) (k:=1) (by decide) ((s.dD (i:=3) B).cell (i:=0) B) O (N.ext s.e) K B B) ?_;rintro _ h2 ⟨x,j2,a5,rfl,hx,a6,D⟩;refine cl (Ada C D (i:=2) (k:=1) (by decide) ((D.dD (i:=3) B).cell (i:=0) B) O (N.ext D.e) K B B) ?_;rintro _ P ⟨y,j3,ap,rfl,hy,a7,f⟩;have l5:=(f.dD (i:=1) B).cell (i:=0) B;refine⟨Pq,[.w 26],Kq,_,ld B l5,?_⟩;cases ap with
  |true=>exact q f.e
  |false=>
  apply Bz<;>intro k2
  .exact q f.e
  apply Bz<;>intro k3
  .exact q f.e
  have mm:(m:Int)*m=((m*m:Nat):Int):=by rw[Int.natCast_mul]
  have a8:m*m<=64*64:=Cj G G;refine⟨Pq,Bz (λk4=>?_) (λk4=>?_)⟩
  .exact q f.e
  have a9:0<=(c+x)/(m:Int)/\(c+x)/(m:Int)<=c+x:=⟨Int.ediv_nonneg G G,Int.ediv_le_self _ G⟩;refine⟨⟨G,G,G,G⟩,G,_,Avy (h:=P.ad) C.toBase (show F6 P b m df r g from(f.2.1 0 _ B).1) d G,?_⟩;rintro _ h4 ⟨Q,aq⟩;have ae:N5 P h4.lo:=by
   obtain⟨_,es,ck,e4,_⟩:=((f.2.1 0 _ B).1:F6 P b m df r g).2.2.2.2;exact Q.ok (λi U=>U) ⟨_,e4,B⟩
  have Q:B0 (λi=>i=b\/i=r) P.ad h4:=Q.mono λi U=>.inr U;rcases aq with⟨rfl,-,ab⟩|⟨rfl,q1,q2,q3,ab⟩
  .exact⟨ae,q (f.aZ (i:=0) B Q ab (a':=Xg b m df r g) λi U=>.inl U).e⟩
  have X:=f.aZ (i:=0) B Q (a':=Xg b m df r (if(y:Int)=df then Nh g ((c+x)/m) ((c+x)%m) else ML g ((c+x)/m) ((c+x)%m) y)) ab λi U=>.inl U
  refine⟨ae,Pq,?_⟩;refine⟨_,_,Sq,G,k+1,c+x,j3,Ah,_,B,G,B,⟨G,G,?_⟩,G,?_,X⟩
  .have h1:=QT ((c+x)/m) ((c+x)%m) y g
   have h2:=QZ ((c+x)/m) ((c+x)%m) g;split<;>omega
  split
  .exact mo.del
  .exact mo.ah q1 q2 q3
def E4 (p:Int×Int):AH:=[.int .i64 p.1,.int .i64 p.2]
structure Base3 (S:A9) (L:Nat):Prop extends Base2 S L where
 cy:∀{h:Y} {b r:Nat} {l:GX},Cell h b 0 (.map (I r))->HE h r l->l.length<=1000000->Bk S L 11 252 [.func (.func 318) #[] #[AG b 0],.func (.func 254) #[] #[]] h λw J=>AA h J/\∃ks:List (Int×Int),Rd J w 2 ks.length (ks.flatMap E4)/\ks.length=l.length/\∀k∈ks,∃c,(k,c)∈l
def Sx (z:Int):∃x:Nat,x<18446744073709551616/\(x:Int)=IntKind.u64.wrap z:=by
 have e:IntKind.u64.wrap z=z%18446744073709551616:=by
  rfl
 rw[e];exact⟨(z%18446744073709551616).toNat,G,G⟩
def AGm (a:Base S L) {h:Y} {m:Aa} (b:one m=Ag):Bk S L 1 253 [m] h λw J=>AA h J/\w=.func (.func 318) #[] #[AG h.nx 0]/\Cell J h.nx 0 m:=
 Cn f253 a λd f _=>by
  obtain⟨h1,b1,c,e,g⟩:=H1 Ax 294 m h;exact⟨_,_,b1,c,B,e.cell (i:=0) (by cases m<;>first|rfl|cases b)⟩
def ADa (e:Base3 S L) {h:Y} {b n r:Nat} {df:Int} {l:GX} (m:F6 h b n df r l) (g:l.length<=1000000):Bk S L 12 182 [AG b 0] h λw J=>AA h J/\∃a:List (Int×Int),Rd J w 2 a.length (a.flatMap E4)/\a.length=l.length/\∀k∈a,∃c,(k,c)∈l:=
 Cn f182 e.toBase λd t _=>by
  obtain⟨u,v,x,i,j⟩:=m;refine⟨_,ld B i,_,AGm e.toBase (m:=.map (I r)) B d G,?_⟩;rintro _ h1 ⟨f,rfl,c1⟩;refine cl (e.cy c1 (j.ext f) g) ?_;rintro _ y ⟨o,a,p,q,s⟩;exact⟨f.trans o,a,p,q,s⟩
def Axu {h:Y} {r:Nat} {l:GX} (m:HE h r l) (a b:Int):∃z,BW Ax 294 (.map (I r)) (C9 a b) Ah h=I (Vi z):=by
 obtain⟨_,es,ck,d,m6,_⟩:=m;have e:Ax.ds.get 294=I (.map 298 3):=by rfl
 have g:CP Ax 3=I (Vi 0):=by rfl
 have f:Do Ax 5 298 (C9 a b)=true:=by rfl
 unfold BW;rcases Adt a b es l 0 m6 with⟨f1,f2⟩|⟨j,i,c,f1,f2,f3⟩
 .simp only[e,f,D1,d,f1,g];exact⟨0,B⟩
 .simp only[e,f,D1,d,f1,f2];exact⟨c,B⟩
def ADj (C:Base3 S L) {h:Y} {b n r:Nat} {df:Int} {l:GX} (m:F6 h b n df r l) (mo:EJ n l) (hn:n<=64) (hl:l.length<=100000):Bk S L 14 102 [AG b 0] h λw J=>AA h J/\∃bs:Bl,bs.length<=180+120*l.length/\AS J h.nx 5 1 w bs.length (Ay bs):=
 Cn f102 C.toBase λd a6 hL=>by
  have M:=m;obtain⟨m1,m2,m3,m4,m5⟩:=m;refine⟨_,B,_,ADa C M G d G,?_⟩;rintro w1 h1 ⟨F,g,k1,k2,k3⟩;obtain⟨z1,q1,e1⟩:=Sx n;obtain⟨z2,q2,e2⟩:=Sx df;obtain⟨z3,q3,e3⟩:=Sx g.length;have k0:=k1;obtain⟨hr,A0,c0,rfl,a7,a8,hA⟩:=k1;have y1:=AT (AA.refl h1);have f2:=m2.ext F;have f3:=m3.ext F;have f4:=m4.ext F;refine⟨[],Kq,_,ld B f2,_,.inr e1,_,R5 (h:=(nb h1).ad) C.toBase (x:=z1) (AS.nil (nb h1).ad h.nx 5 1).rd (bs:=[]) G G d G,?_⟩;rintro K E ⟨s,p2,a9,V,r2⟩;have l2:=r2.len;rw[A7] at l2;have W:=y1.trans s.aa;have ai:AS ((nb h1).aa E) h1.nx 5 1 K (0+p2) (Ay ([]++V)):=r2.aa;have aj:=f3.ext W;have ak:=ai.ext (AT (AA.refl _));refine⟨s.ag,_,ld B aj,_,.inr e2,_,R5 (h:=(nb ((nb h1).aa E)).ad) C.toBase (x:=z2) ak.rd G G d G,?_⟩;rintro o3 O ⟨x3,p3,ba,ad,r3⟩;have l3:=r3.len;rw[A7] at l3;have ae:=(AT W).trans x3.aa;have al:AS ((nb ((nb h1).aa E)).aa O) h1.nx 5 1 o3 (0+p2+p3) (Ay ([]++V++ad)):=(r3.mono (by rw[BF];exact(AT W).nx)).aa;have am:=al.ext (AT (AA.refl _));refine⟨x3.ag,_,.inr e3,_,R5 (h:=(nb ((nb ((nb h1).aa E)).aa O)).ad) C.toBase (x:=z3) am.rd G G d G,?_⟩;rintro o4 h4 ⟨x4,p4,bb,an,X⟩;have l4:=X.len;rw[A7] at l4;have P:=(AT ae).trans x4.aa;obtain⟨bs,ao⟩:∃bs,bs=[]++V++ad++an:=⟨_,B⟩;rw[←ao] at X l4;have ap:AS ((nb ((nb ((nb h1).aa E)).aa O)).aa h4) h.nx 5 1 o4 bs.length (Ay bs):=by rw[←l4];exact(X.mono (by rw[BF];exact Ao F.nx (AT ae).nx)).aa
  have Q:=F.trans P;have R:=k0.ext P;refine⟨x4.ag,?_⟩;generalize(nb ((nb ((nb h1).aa E)).aa O)).aa h4=H at*;refine⟨λμ A u=>∃(k:Nat) (c:Int) (o:Aa) (bs:Bl),A=[(0,AG b 0),(4,o),(5,Vi c),(29,.slice A0 g.length c0),(30,Vi g.length),(31,Vi k)]/\
   k<=g.length/\μ=g.length-k/\(-1<=c/\c<100000000)/\bs.length<=180+120*k/\AS u h.nx 5 1 o bs.length (Ay bs)/\AA H u,
   ⟨_,_,Sq,?_,0,-1,o4,bs,B,Al _,B,G,G,ap,AA.refl _⟩,?_⟩
  .omega
  rintro μ A u ⟨k,c,o,bs,rfl,hk,rfl,hc,hb,ow,x⟩ bc;apply Bz<;>intro j1;rotate_left
  .exact⟨Q.trans x,bs,G,ow⟩
  have af:k<g.length:=G;have aa:g[k]?=I g[k]:=Ab af;obtain⟨q,aq⟩:∃q,q=g[k]:=⟨_,B⟩;rw[←aq] at aa;obtain⟨cq,au⟩:=k3 q (AZ aa);obtain⟨⟨a1,a2⟩,⟨b1,b2⟩,_⟩:=mo _ au;obtain⟨a,j⟩:=q;have a1:0<=a:=a1;have a2:a<n:=a2;have b1:0<=j:=b1;have b2:j<n:=b2;obtain⟨a,rfl⟩:∃y:Nat,a=y:=⟨a.toNat,G⟩;obtain⟨ar,y2,e9,_,g1⟩:=(R.ext x).el af;cases e9;rw[flatK (f:=E4) (λ_=>rfl) g aa] at g1;obtain⟨bd,v1,p,v2,s2⟩:=(Sep.nil u).var (t:=298) (z:=.agg #[Vi 0,Vi 0]) Kq (v:=.agg ⟨E4 ((a:Int),j)⟩) B B B;have K:Own p u.nx 298 [Vi a,Vi j]:=s2.dD (i:=0) B;have s:=x.trans s2.e;have av:=(f2.ext P).ext s;have aw:=(f4.ext P).ext s;have mm:(a:Int)*n=((a*n:Nat):Int):=by rw[Int.natCast_mul]
  have be:a*n<=64*64:=Cj G G;refine⟨G,_,EQ (k:=2) Kq (show BK u ar.block (ar.off+(k:Int).toNat*2) (E4 ((a:Int),j)) from g1) B,_,_,v1 _,_,v2,[],Kq,_,ld B (K.cell (i:=0) B),_,ld B av,Pq,_,ld B (K.cell (i:=1) B),Pq,?_⟩;obtain⟨T,bf,s3⟩:∃T:Nat,T<18446744073709551616/\(T:Int)=IntKind.u64.wrap ((a:Int)*n+j-c):=Sx _;have ab:=ow.ext s2.e;have ab:=ab.ext (AT (AA.refl _));refine⟨[],Kq,Pq,_,.inr s3,_,R5 (h:=(nb p).ad) C.toBase (x:=T) ab.rd G G d G,?_⟩;rintro o5 D ⟨x5,p5,bg,ag,r5⟩;have l5:=r5.len;rw[A7] at l5;have N:=(AT (AA.refl p)).trans x5.aa;have ax:AS ((nb p).aa D) h.nx 5 1 o5 (bs.length+p5) (Ay (bs++ag)):=(r5.mono (by rw[BF];exact(Q.trans (AT s)).nx)).aa;have ay:=ax.ext (AT (AA.refl _));have az:=aw.ext N;have a0:Own ((nb p).aa D) u.nx 298 [Vi a,Vi j]:=K.ext N;have a3:Bw Ax 298 ((nb p).aa D).ad u.nx 0=I (C9 a j):=EQ (k:=2) Kq (show BK ((nb p).aa D) u.nx 0 [Vi a,Vi j] from a0.cells) B;obtain⟨zz,hz⟩:=Axu ((((m5.ext Q).ext s).ext N):HE ((nb p).aa D) r l) a j;obtain⟨t1,t2,t3⟩:=Sx zz;refine⟨x5.ag,_,ld B az,_,a3,_,_,Cs (CN _) hz,_,.inr t3,_,R5 (h:=(nb ((nb p).aa D)).ad) C.toBase (x:=t1) ay.rd G G d G,?_⟩;rintro o6 h6 ⟨x6,p6,bh,a4,r6⟩;have l6:=r6.len;rw[A7] at l6;have a5:=(AT N).trans x6.aa;have ah:AS ((nb ((nb p).aa D)).aa h6) h.nx 5 1 o6 (bs.length+p5+p6) (Ay (bs++ag++a4)):=(r6.mono (by rw[BF];exact((Q.trans s).trans (AT N)).nx)).aa;rw[l6] at ah;refine⟨x6.ag,Pq,?_⟩;exact⟨_,_,Sq,G,k+1,_,_,_,B,G,B,G,G,ah,s.trans a5⟩
abbrev Qz:=Int×Int×Int
def YD (c:Qz):AH:=[.int .i64 c.1,.int .i64 c.2.1,.int .i64 c.2.2]
structure CI where
 rd:Bd
 tx:Bd
 l:Int
 r:Int
 c:Int
def BV (e:CI):AH:=[.string e.rd,.string e.tx,.int .i64 e.l,.int .i64 e.r,.int .i64 e.c]
def Dq (h:Y) (v:Aa) (es:List CI):Prop:=Rd h v 5 es.length (es.flatMap BV)
def Nw (h:Y) (v:Aa) (cs:List Qz):Prop:=Rd h v 3 cs.length (cs.flatMap YD)
def BK.at (c:BK h b off xs) (U:xs[i]?=I v):Cell h b (off+i) v:=by
 obtain⟨hb,c,m,e,lo,a,x,h1,d⟩:=c;exact⟨hb,c,m,e,lo,a,x,h1,d i v U⟩
def c47 (x:Base S L) {ps:List JT} {cs:List Qz} (p:Gt h pv ps) (F:ps.length<=100000000) (c:Nw h cv cs) (hc:cs.length<=100000000) (he:one ev=Ag):
 Bk S L 4 47 [.agg #[pv,Vi df,cv,ev]] h λw J=>AA h J/\(w=.pointer Z\/∃(b r:Nat) (l:GX),h.nx<=b/\h.nx<=r/\w=AG b 0/\F6 J b ps.length df r l/\EJ ps.length l/\l.length<=cs.length/\(1<=ps.length/\ps.length<=64)/\(0<=df/\df<=30000)):=
 Cn f47 x λd ah hL=>by
  have V:=c;obtain⟨hr,m,n,rfl,ai,aj,hA⟩:=p;obtain⟨ak,H,c1,rfl,al,am,an⟩:=c;obtain⟨K,W,o⟩:=(Sep.nil h).box Ax 26 (.agg #[.slice m ps.length n,Vi df,.slice H cs.length c1,ev]);refine⟨_,_,W,_,ld B ((o.dD (i:=0) B).cell B:Cell K h.nx 0 (.slice m ps.length n)),_,ld B ((o.dD (i:=0) B).cell B:Cell K h.nx 1 (Vi df)),_,Avx x d G,?_⟩;rintro _ h9 ⟨N,X⟩;rcases X with⟨rfl,-⟩|⟨ao,aa,b,r,hb,ap,rfl,M⟩
  .exact⟨(o.ext N).e,.inl B⟩
  have y:=o.add (a:=Xg b ps.length df r []) N M λi U=>by rcases U with rfl|rfl<;>assumption
  refine⟨_,B,λO A g=>∃(k:Nat) (l:GX),A=[(1,AG h.nx 0),(3,AG b 0),(5,Vi k)]/\k<=cs.length/\O=cs.length-k/\EJ ps.length l/\l.length<=k/\Sep h g [Xg b ps.length df r l,aO h.nx 26 [.slice m ps.length n,Vi df,.slice H cs.length c1,ev]],
   ⟨_,_,Sq,?_,0,[],B,Al _,B,(λp F=>by cases F),Al _,y⟩,?_⟩
  .omega
  rintro O A g ⟨k,l,rfl,hk,rfl,mo,aq,s⟩ ar;have t:=(s.dD (i:=1) B).cell (i:=2) B;refine⟨_,ld B t,Bz (λe1=>?_) (λe1=>?_)⟩;rotate_left
  .exact⟨s.e,.inr ⟨b,r,l,(y.ge (i:=0) B b (.inl B):h.nx<=b),(y.ge (i:=0) B r (.inr B):h.nx<=r),B,(s.2.1 0 _ B).1,mo,G,G,aa⟩⟩
  have P:k<cs.length:=G;have Q:=Ab P;obtain⟨q,ab⟩:∃q,q=cs[k]:=⟨_,B⟩;rw[←ab] at Q;obtain⟨j,y2,e9,_,u⟩:=(Rd.ext V s.e).el P;cases e9;rw[flatK (f:=YD) (λ_=>rfl) cs Q] at u;obtain⟨C,D,R⟩:=q;refine⟨[.w 19],Kq,_,ld B t,G,_,ld B (BK.at u B:Cell g j.block (j.off+(k:Int).toNat*3+0) (Vi C)),_,ld B t,G,_,ld B (BK.at u B:Cell g j.block (j.off+(k:Int).toNat*3+1) (Vi D)),_,ld B t,G,_,ld B (BK.at u B:Cell g j.block (j.off+(k:Int).toNat*3+2) (Vi R)),_,Avy (h:=g.ad) x (show F6 g b ps.length df r l from(s.2.1 0 _ B).1) d G,?_⟩;rintro _ v ⟨T,ad⟩;have ae:N5 g v.lo:=by
   obtain⟨_,es,ck,e4,_⟩:=((s.2.1 0 _ B).1:F6 g b ps.length df r l).2.2.2.2;exact T.ok (λi U=>U) ⟨_,e4,B⟩
  have Da:∀l',F6 v b ps.length df r l'->EJ ps.length l'->l'.length<=k+1->∃(k':Nat) (l:GX),[(1,AG h.nx 0),(3,AG b 0),(5,Vi ((k+1:Nat):Int))]=[(1,AG h.nx 0),(3,AG b 0),(5,Vi k')]/\k'<=cs.length/\cs.length-(k+1)=cs.length-k'/\EJ ps.length l/\l.length<=k'/\Sep h (g.aa v) [Xg b ps.length df r l,aO h.nx 26 [.slice m ps.length n,Vi df,.slice (I j) cs.length c1,ev]]:=
   λl' M' af ag=>⟨k+1,l',B,G,B,af,ag,s.aZ (i:=0) B (T.mono λi U=>.inr U:B0 (λi=>i=b\/i=r) g.ad v) M' λi U=>.inl U⟩
  refine⟨ae,Pq,_,_,CG (l:=[(1,_),(3,_),(5,Vi ((k+1:Nat):Int))]) ⟨B,B,Cs (λz=>I (Vi z)) (by omega),trivial⟩,(show cs.length-(k+1)<cs.length-k by omega),?_⟩;rcases ad with⟨rfl,-,E⟩|⟨rfl,r1,r2,r3,E⟩
  .exact Da _ E mo G
  .refine Da _ E ?_ ?_
   .split
    .exact mo.del
    .exact mo.ah r1 r2 r3
   .split
    .have:=QZ C D l;omega
    .have:=QT C D R l;omega
structure N8 where
 pv:Aa
 df:Int
 cv:Aa
 ev:Aa
 ps:List JT
 cs:List Qz
 es:List CI
def N8.cells (s:N8):AH:=[s.pv,.int .i64 s.df,s.cv,s.ev]
def Qx (L:Nat) (h:Y) (s:N8):Prop:=(Gt h s.pv s.ps/\Nw h s.cv s.cs/\Dq h s.ev s.es)/\(s.ps.length<L/\s.ps.length<=9223372036854775807)/\(s.cs.length<L/\s.cs.length<=9223372036854775807)/\(s.es.length<L/\s.es.length<=9223372036854775807)
def Qx.ext {s:N8} (a:Qx L h s) (x:AA h J):Qx L J s:=⟨⟨Rd.ext a.1.1 x,Rd.ext a.1.2.1 x,Rd.ext a.1.2.2 x⟩,a.2⟩
def N8.aV (s:N8):Prop:=(∀q∈s.ps,q.1.size<=400)/\(∀e∈s.es,e.rd.size<=400/\e.tx.size<=400)/\s.ps.length<=70/\s.cs.length<=300/\s.es.length<=300
def ABo (X:Base S L) {ps:List JT} {cs:List Qz} {es:List CI} (p:Gt h pv ps) (c:Nw h cv cs) (O:Dq h ev es)
 (hp:ps.length<L/\ps.length<=9223372036854775807) (hc:cs.length<L/\cs.length<=9223372036854775807) (he:es.length<L/\es.length<=9223372036854775807):
 Bk S L 1 17 [.agg #[pv,Vi df,cv,ev]] h λw J=>AA h J/\∃b:Bool,w=.bool b/\(b=Ag->N8.aV ⟨pv,df,cv,ev,ps,cs,es⟩):=
 Cn f17 X λd ad _=>by
  have p':=p;have aa:=O;obtain⟨hr,y,C,rfl,ae,af,hA⟩:=p;obtain⟨ag,D,c1,rfl,ah,ai,aj⟩:=c;obtain⟨ak,P,E,rfl,al,am,an⟩:=O;obtain⟨v,y1,g⟩:=(Sep.nil h).box Ax 26 (.agg #[.slice y ps.length C,Vi df,.slice D cs.length c1,.slice P es.length E]);have F:Cell v h.nx 0 (.slice y ps.length C):=(g.dD (i:=0) B).cell B;have l2:Cell v h.nx 2 (.slice D cs.length c1):=(g.dD (i:=0) B).cell B;have x:Cell v h.nx 3 (.slice P es.length E):=(g.dD (i:=0) B).cell B;refine⟨_,_,y1,λs A j=>∃k:Nat,A=[(1,AG h.nx 0),(3,Vi k)]/\k<=ps.length/\s=ps.length-k/\(∀q∈ps.take k,q.1.size<=400)/\j=v,
   ⟨_,_,Sq,G,0,B,Al _,B,(λq n=>by simp at n),B⟩,?_⟩
  rintro s A j ⟨k,rfl,hk,rfl,n,rfl⟩ ab;refine⟨_,ld B F,Bz (λe1=>?_) (λe1=>?_)⟩
  .have o:k<ps.length:=G
   have t:=Ab o;obtain⟨q,u⟩:∃q,q=ps[k]:=⟨_,B⟩;rw[←u] at t;obtain⟨m,y2,H,_,r⟩:=(Rd.ext p' g.e).el o;cases H;rw[flatK (f:=Mm) (λ_=>rfl) ps t] at r;obtain⟨Q,kd⟩:=q;have q1:Cell j m.block (m.off+(k:Int).toNat*2+0) (.string Q):=BK.at r B;refine⟨_,ld B F,G,_,ld B q1,Bz (λe2=>?_) (λe2=>?_)⟩
   .exact⟨g.e,Ah,B,λh=>by cases h⟩
   refine⟨Pq,_,_,CG (l:=[(1,_),(3,Vi ((k+1:Nat):Int))]) ⟨B,Cs (λz=>I (Vi z)) (by omega),trivial⟩,Jq,k+1,B,G,B,λq a=>?_,B⟩;rw[A5 o] at a;rcases List.mem_append.1 a with a|a
   .exact n q a
   .rw[List.mem_singleton.1 a,←u];show Q.size<=400;omega
  obtain rfl:k=ps.length:=G;rw[CS] at n;refine⟨λs A h2=>∃k:Nat,A=[(1,AG h.nx 0),(4,Vi k)]/\k<=es.length/\s=es.length-k/\(∀q∈es.take k,q.rd.size<=400/\q.tx.size<=400)/\h2=j,
   ⟨_,_,Sq,G,0,B,Al _,B,(λq n=>by simp at n),B⟩,?_⟩
  rintro s A j ⟨k,rfl,hk,rfl,K,rfl⟩ ab;refine⟨_,ld B x,Bz (λe3=>?_) (λe3=>?_)⟩
  .have o:k<es.length:=G
   have t:es[k]?=I es[k]:=Ab o;obtain⟨q,u⟩:∃q,q=es[k]:=⟨_,B⟩;rw[←u] at t;obtain⟨m,y2,H,_,r⟩:=(Rd.ext aa g.e).el o;cases H;rw[flatK (f:=BV) (λ_=>rfl) es t] at r;obtain⟨R,T,a_,b_,c_⟩:=q;have V:AA h j/\∃b:Bool,CU Ah=.bool b/\(b=Ag->N8.aV ⟨.slice y ps.length C,df,.slice D cs.length c1,.slice (I m) es.length E,ps,cs,es⟩):=⟨g.e,Ah,B,λh=>by cases h⟩;refine⟨_,ld B x,G,_,ld B (BK.at r B:Cell j m.block (m.off+(k:Int).toNat*5+0) (.string R)),Bz (λM=>?_) (λM=>?_)⟩
   .exact V
   refine⟨_,ld B x,G,_,ld B (BK.at r B:Cell j m.block (m.off+(k:Int).toNat*5+1) (.string T)),Bz (λN=>?_) (λN=>?_)⟩
   .exact V
   refine⟨Pq,_,_,CG (l:=[(1,_),(4,Vi ((k+1:Nat):Int))]) ⟨B,Cs (λz=>I (Vi z)) (by omega),trivial⟩,(show es.length-(k+1)<es.length-k by omega),k+1,B,G,B,λq a=>?_,B⟩;rw[A5 o] at a;rcases List.mem_append.1 a with a|a
   .exact K q a
   .rw[List.mem_singleton.1 a,←u];exact⟨by show R.size<=400;omega,by show T.size<=400;omega⟩
  obtain rfl:k=es.length:=G;rw[CS] at K;refine⟨_,ld B F,Bz (λM=>?_) (λM=>?_)⟩
  .refine⟨_,ld B l2,Bz (λN=>?_) (λN=>?_)⟩
   .refine⟨_,ld B x,g.e,_,B,λW=>?_⟩
    have W:=Fp W;exact⟨n,K,by show ps.length<=70;omega,by show cs.length<=300;omega,by show es.length<=300;omega⟩
   .exact⟨g.e,Ah,B,λh=>by cases h⟩
  .exact⟨g.e,Ah,B,λh=>by cases h⟩
def c17 (c:Base S L) {s:N8} (a:Qx L h s):Bk S L 1 17 [.agg ⟨s.cells⟩] h λw J=>AA h J/\∃b:Bool,w=.bool b/\(b=Ag->s.aV):=by
 exact ABo c a.1.1 a.1.2.1 a.1.2.2 a.2.1 a.2.2.1 a.2.2.2
structure RT where
 a:Bd
 b:Bd
 n:Int
def Qm (e:RT):AH:=[.string e.a,.string e.b,.int .i64 e.n]
def Ls (h:Y) (v:Aa) (es:List RT):Prop:=Rd h v 3 es.length (es.flatMap Qm)
structure Lf where
 src:N8
 ctx:Bd
 lv:Aa
 rv:Aa
 ls:List RT
 rs:List RT
def Lf.cells (s:Lf):AH:=s.src.cells++[.string s.ctx,s.lv,s.rv]
def Lt (L:Nat) (h:Y) (s:Lf):Prop:=Qx L h s.src/\(Ls h s.lv s.ls/\Ls h s.rv s.rs)/\(s.ls.length<L/\s.ls.length<=9223372036854775807)/\(s.rs.length<L/\s.rs.length<=9223372036854775807)
def Oq (es:List RT):Prop:=∀e∈es,e.a.size<=400/\e.b.size<=400
def Lf.aV (s:Lf):Prop:=s.src.aV/\Oq s.ls/\Oq s.rs/\s.ctx.size<=400/\s.ls.length<=40/\s.rs.length<=40
def Lt.ext {s:Lf} (a:Lt L h s) (x:AA h J):Lt L J s:=⟨a.1.ext x,⟨Rd.ext a.2.1.1 x,Rd.ext a.2.1.2 x⟩,a.2.2⟩
def c7e (ad:Base S L) {s:N8} {v:Bd} {O:Aa} {c a:List RT} (sa:Qx L h s) (p:Ls h lv c) (en:Ls h O a)
 (hp:c.length<L/\c.length<=9223372036854775807) (he:a.length<L/\a.length<=9223372036854775807):
 Bk S L 2 7 [.agg ⟨s.cells++[Sg v,lv,O]⟩] h λw J=>AA h J/\∃b:Bool,w=.bool b/\(b=Ag->Lf.aV ⟨s,v,lv,O,c,a⟩):=
 Cn f7 ad λd ah _=>by
  have p':=p;have af:=en;obtain⟨hr,P,Q,rfl,ai,aj,hA⟩:=p;obtain⟨ak,R,T,rfl,al,am,an⟩:=en;obtain⟨H,y1,j⟩:=(Sep.nil h).box Ax 30 (.agg ⟨s.cells++[Sg v,.slice P c.length Q,.slice R a.length T]⟩);have l4:Cell H h.nx 4 (Sg v):=(j.dD (i:=0) B).cell B;have K:Cell H h.nx 5 (.slice P c.length Q):=(j.dD (i:=0) B).cell B;have M:Cell H h.nx 6 (.slice R a.length T):=(j.dD (i:=0) B).cell B;refine⟨_,_,y1,λx A m=>∃k:Nat,A=[(1,AG h.nx 0),(3,Vi k)]/\k<=c.length/\x=c.length-k/\Oq (c.take k)/\m=H,
   ⟨_,_,Sq,G,0,B,Al _,B,(λq o=>by simp at o),B⟩,?_⟩
  rintro x A m ⟨k,rfl,hk,rfl,o,rfl⟩ ag;refine⟨_,ld B K,Bz (λy=>?_) (λy=>?_)⟩
  .have r:k<c.length:=G
   have C:=Ab r;obtain⟨q,D⟩:∃q,q=c[k]:=⟨_,B⟩;rw[←D] at C;obtain⟨n,y2,V,_,t⟩:=(Rd.ext p' j.e).el r;cases V;rw[flatK (f:=Qm) (λ_=>rfl) c C] at t;obtain⟨E,F,a_⟩:=q;have q1:Cell m n.block (n.off+(k:Int).toNat*3+0) (Sg E):=BK.at t B;have q2:Cell m n.block (n.off+(k:Int).toNat*3+1) (Sg F):=BK.at t B;refine⟨_,ld B K,G,_,ld B q1,Bz (λW=>?_) (λW=>?_)⟩
   .exact⟨j.e,Ah,B,λh=>by cases h⟩
   refine⟨_,ld B K,G,_,ld B q2,Bz (λX=>?_) (λX=>?_)⟩
   .exact⟨j.e,Ah,B,λh=>by cases h⟩
   refine⟨Pq,_,_,CG (l:=[(1,_),(3,Vi ((k+1:Nat):Int))]) ⟨B,Cs (λz=>I (Vi z)) (G),trivial⟩,(show c.length-(k+1)<c.length-k by omega),k+1,B,G,B,λq g=>?_,B⟩;rw[A5 r] at g;rcases List.mem_append.1 g with g|g
   .exact o q g
   .rw[List.mem_singleton.1 g,←D];exact⟨by show E.size<=400;omega,by show F.size<=400;omega⟩
  obtain rfl:k=c.length:=G;rw[CS] at o;refine⟨λx A h2=>∃k:Nat,A=[(1,AG h.nx 0),(4,Vi k)]/\k<=a.length/\x=a.length-k/\Oq (a.take k)/\h2=m,
   ⟨_,_,Sq,G,0,B,Al _,B,(λq o=>by simp at o),B⟩,?_⟩
  rintro x A m ⟨k,rfl,hk,rfl,aa,rfl⟩ ag;refine⟨_,ld B M,Bz (λy=>?_) (λy=>?_)⟩
  .have r:k<a.length:=G
   have C:a[k]?=I a[k]:=Ab r;obtain⟨q,D⟩:∃q,q=a[k]:=⟨_,B⟩;rw[←D] at C;obtain⟨n,y2,V,_,t⟩:=(Rd.ext af j.e).el r;cases V;rw[flatK (f:=Qm) (λ_=>rfl) a C] at t;obtain⟨E,F,a_⟩:=q;refine⟨_,ld B M,G,_,ld B (BK.at t B:Cell m n.block (n.off+(k:Int).toNat*3+0) (Sg E)),Bz (λW=>?_) (λW=>?_)⟩
   .exact⟨j.e,Ah,B,λh=>by cases h⟩
   refine⟨_,ld B M,G,_,ld B (BK.at t B:Cell m n.block (n.off+(k:Int).toNat*3+1) (Sg F)),Bz (λX=>?_) (λX=>?_)⟩
   .exact⟨j.e,Ah,B,λh=>by cases h⟩
   refine⟨Pq,_,_,CG (l:=[(1,_),(4,Vi ((k+1:Nat):Int))]) ⟨B,Cs (λz=>I (Vi z)) (G),trivial⟩,(show a.length-(k+1)<a.length-k by omega),k+1,B,G,B,λq g=>?_,B⟩;rw[A5 r] at g;rcases List.mem_append.1 g with g|g
   .exact aa q g
   .rw[List.mem_singleton.1 g,←D];exact⟨by show E.size<=400;omega,by show F.size<=400;omega⟩
  obtain rfl:k=a.length:=G;rw[CS] at aa;have c7:BK m h.nx 0 s.cells:=by
   have:=(j.dD (i:=0) B).cells;obtain⟨z1,z2,z3,z4,z5,z6,z7,z8,z9⟩:=this;exact⟨z1,z2,z3,z4,z5,z6,z7,z8,λi u hu=>z9 i u ((AB (List.getElem?_eq_some_iff.1 hu).1).trans hu)⟩
  refine⟨_,EQ Kq c7 B,_,c17 ad (sa.ext j.e) d G,?_⟩;rintro _ h3 ⟨N,b,rfl,hb⟩;have ae:=j.e.trans N;have ab:AA h h3/\∃b:Bool,CU Ah=.bool b/\(b=Ag->Lf.aV ⟨s,v,.slice P c.length Q,.slice R a.length T,c,a⟩):=⟨ae,Ah,B,λh=>by cases h⟩;cases b with
  |false=>exact ab
  |true=>
  refine⟨_,ld B (l4.ext N),Bz (λy=>?_) (λy=>?_)⟩;rotate_left
  .exact ab
  refine⟨_,ld B (K.ext N),Bz (λe2=>?_) (λe2=>?_)⟩;rotate_left
  .exact ab
  refine⟨_,ld B (M.ext N),ae,_,B,λe3=>?_⟩;have e3:=Fp e3;exact⟨hb B,o,aa,by show v.size<=400;omega,by show c.length<=40;omega,by show a.length<=40;omega⟩
def c7 (c:Base S L) {s:Lf} (a:Lt L h s):Bk S L 2 7 [.agg ⟨s.cells⟩] h λw J=>AA h J/\∃b:Bool,w=.bool b/\(b=Ag->s.aV):=by
 exact c7e c a.1 a.2.1.1 a.2.1.2 a.2.2.1 a.2.2.2
def U6 (v:Aa):Prop:=∃z,v=.int .i64 z
def KM (v:Aa):Prop:=∃z:Int,v=.int .i64 z/\0<=z/\z<=1048576
def PF (e:CI) (h:Y):∃g,K7 Ax 114 (.agg ⟨BV e⟩) h=I (AG h.nx 0,g)/\AA h g/\Own g h.nx 114 (BV e):=by
 obtain⟨g,y,s⟩:=(Sep.nil h).box Ax 114 (.agg ⟨BV e⟩);exact⟨g,y,s.e,s.dD (i:=0) B⟩
def c89 (a:Base S L) {e:CI}:Bk S L 1 89 [.agg ⟨BV e⟩] h λw J=>AA h J/\w=.string e.rd:=
 Cn f89 a λd b _=>by
  obtain⟨g,y,x,o⟩:=PF e h;exact⟨_,_,y,_,ld B (o.cell B),x,B⟩
def c90 (a:Base S L) {e:CI}:Bk S L 1 90 [.agg ⟨BV e⟩] h λw J=>AA h J/\w=.string e.tx:=
 Cn f90 a λd b _=>by
  obtain⟨g,y,x,o⟩:=PF e h;exact⟨_,_,y,_,ld B (o.cell B),x,B⟩
def ABe (a:Base S L) {e:CI}:Bk S L 1 105 [.agg ⟨BV e⟩] h λw J=>AA h J/\w=Vi e.l:=
 Cn f105 a λd b _=>by
  obtain⟨g,y,x,o⟩:=PF e h;exact⟨_,_,y,_,ld B (o.cell B),x,B⟩
def ADx (a:Base S L) {e:CI}:Bk S L 1 106 [.agg ⟨BV e⟩] h λw J=>AA h J/\w=Vi e.r:=
 Cn f106 a λd b _=>by
  obtain⟨g,y,x,o⟩:=PF e h;exact⟨_,_,y,_,ld B (o.cell B),x,B⟩
def ACd (a:Base S L) {e:CI}:Bk S L 1 107 [.agg ⟨BV e⟩] h λw J=>AA h J/\w=Vi e.c:=
 Cn f107 a λd b _=>by
  obtain⟨g,y,x,o⟩:=PF e h;exact⟨_,_,y,_,ld B (o.cell B),x,B⟩
def c95 (c:Base S L) {e f:CI}:Bk S L 1 95 [.agg ⟨BV e⟩,.agg ⟨BV f⟩] h λw J=>AA h J/\∃b,w=.bool b:=
 Cn f95 c λd k _=>by
  obtain⟨g,y,x,o⟩:=PF e h;obtain⟨l,i,a,j⟩:=PF f g;exact⟨_,_,y,_,_,i,_,ld B ((o.ext a).cell B),_,ld B (j.cell B),_,B,x.trans a,_,B⟩
def c98 (c:Base S L) {e f:CI}:Bk S L 1 98 [.agg ⟨BV e⟩,.agg ⟨BV f⟩] h λw J=>AA h J/\∃b,w=.bool b:=
 Cn f98 c λd k _=>by
  obtain⟨g,y,x,o⟩:=PF e h;obtain⟨l,i,a,j⟩:=PF f g;exact⟨_,_,y,_,_,i,_,ld B ((o.ext a).cell B),_,ld B (j.cell B),_,B,x.trans a,_,B⟩
def T1 (m:Gy h r Fh KM) (s:Bd):∃z:Int,BW Ax 192 (.map (I r)) (.string s) Ah h=I (Vi z)/\0<=z/\z<=1048576:=by
 obtain⟨v,b,h1,a,c⟩:=QH (et:=3) Kq MV (z:=Vi 0) Kq m ⟨s,B⟩ Ah;cases b with
 |true=>obtain⟨z,rfl,d⟩:=a B;exact⟨z,h1,d⟩
 |false=>rw[c B] at h1;exact⟨0,h1,by decide,by decide⟩
def AGd (a:Base S L) {e:CI} (c:Cell h b 0 (.map (I r))) (m:Gy h r Fh KM):Bk S L 1 104 [.agg ⟨BV e⟩,AG b 0] h λw J=>AA h J/\U6 w:=
 Cn f104 a λd i _=>by
  obtain⟨g,y,x,o⟩:=PF e h;obtain⟨z,f,_⟩:=T1 (⟨AC m.1 x.nx,by rw[x.t r m.1];exact m.2⟩:Gy g r Fh KM) e.tx;exact⟨_,_,y,_,ld B (c.ext x),_,ld B (o.cell B),_,_,Cs (CN _) f,x,_,B⟩
def c97 (p:Base S L) {es:List CI} (c:Cell h b 0 (.map (I r))) (m:Gy h r Fh KM) (e:Cell h q 0 v) (g:Dq h v es) (U:i<es.length) (k:j<es.length):
 Bk S L 1 97 [Vi i,Vi j,AG b 0,AG q 0] h λw J=>AA h J/\U6 w:=
 Cn f97 p λd u _=>by
  have l:=g;obtain⟨z,A,C,rfl,D,E,F⟩:=g;obtain⟨a1,H,a,_,n⟩:=Rd.el l U;cases a;obtain⟨K,M,a,_,o⟩:=Rd.el l k;cases a;rw[flatK (f:=BV) (λ_=>rfl) es (Ab U)] at n;rw[flatK (f:=BV) (λ_=>rfl) es (Ab k)] at o;obtain⟨x,s,N⟩:=T1 m es[i].tx;obtain⟨y,t,O⟩:=T1 m es[j].tx;exact⟨[],Kq,_,ld B c,_,ld B e,G,_,ld B (BK.at n B:Cell h a1.block (a1.off+(i:Int).toNat*5+1) (.string es[i].tx)),_,_,Cs (CN _) s,_,ld B c,_,ld B e,G,_,ld B (BK.at o B:Cell h a1.block (a1.off+(j:Int).toNat*5+1) (.string es[j].tx)),_,_,Cs (CN _) t,Pq,AA.refl h,_,B⟩
def YQ (S:A9) (L d:Nat) (fv:Aa) (h:Y) (es:List CI) (Q:Aa->Prop):Prop:=∃g first cap,fv=.func (.func g) first cap/\∀e∈es,∀J,AA h J->Bk S L d g (first.toList++[.agg ⟨BV e⟩]++cap.toList) J λv a=>AA J a/\Q v
def Aqz (S:A9) (L d:Nat) (fv:Aa) (h:Y):Prop:=∃g first cap,fv=.func (.func g) first cap/\∀e f J,AA h J->Bk S L d g (first.toList++[.agg ⟨BV e⟩,.agg ⟨BV f⟩]++cap.toList) J λv a=>AA J a/\∃b,v=.bool b
def c94 (ad:Base S L) {es:List CI} (Q:Dq h v es) (hn:es.length<=1000000) (s:Aqz S L 1 fv h):
 Bk S L 2 94 [v,fv] h λw J=>AA h J/\∃l:Bo,AS J h.nx 3 1 w l.length (Bn l)/\l.length<=es.length/\∀x∈l,x<es.length:=
 Cn f94 ad λd af hL=>by
  have R:=Q;obtain⟨g,first,cap,rfl,hc⟩:=s
  obtain⟨hr,T,c,rfl,ag,ah,hA⟩:=Q;refine⟨λV A j=>∃(k:Nat) (cv:Aa) (l:Bo),A=[(0,.slice T es.length c),(1,.func (.func g) first cap),(5,cv),(8,.slice T es.length c),(9,Vi es.length),(10,Vi k)]/\k<=es.length/\V=es.length-k/\(l.length<=k/\∀x∈l,x<es.length)/\AA h j/\AS j h.nx 3 1 cv l.length (Bn l),
   ⟨_,_,Sq,G,0,_,[],B,Al _,B,⟨Al _,λx a=>by cases a⟩,AA.refl _,AS.nil _ _ _ _⟩,?_⟩
  rintro V A j ⟨k,cv,l,rfl,hk,rfl,⟨ai,u⟩,x,o⟩ aj;apply Bz<;>intro k1;rotate_left
  .exact⟨x,l,o,G,u⟩
  have y:k<es.length:=G;obtain⟨a1,y1,C,_,W⟩:=(Rd.ext R x).el y;cases C;rw[flatK (f:=BV) (λ_=>rfl) es (Ab y)] at W;obtain⟨e,he⟩:∃e,e=es[k]:=⟨_,B⟩;rw[←he] at W;obtain⟨D,z1,m,z2,E⟩:=(Sep.nil j).var (t:=114) (z:=.agg #[.string ⟨#[]⟩,.string ⟨#[]⟩,Vi 0,Vi 0,Vi 0]) Kq (v:=.agg ⟨BV e⟩) B B B;have n:=x.trans E.e;have X:=o.ext E.e;refine⟨G,_,EQ Kq Jq B,_,_,z1 _,_,z2,[],Kq,?_⟩;have ap:∀H,AA h H->AS H h.nx 3 1 cv l.length (Bn l)->∃D,Bs Ax 48 1 [(0,Vi k)] H=I (sL H.nx 1 1,D)/\∃v' J,Bx Ax .append [48,48] [cv,sL H.nx 1 1] D=I (v',J)/\AA h J/\AS J h.nx 3 1 v' (l++[k]).length (Bn (l++[k])):=λH p q=>by
   have a:=p.nx;obtain⟨v',J,t1,t2,t3,t4⟩:=Tz Kq q (ys:=[Vi k]) B B a G;refine⟨_,Iv (k:=1) Kq (Vi k) B B (by decide) H,v',J,t1,p.then t3 λi U=>q.ai i U,?_⟩
   rw[Aj,show Bn (l++[k])=Bn l++[Vi k] by simp[Bn]];exact t2
  have Da:∀(H:Y) (r:Aa) (l':Bo),AA h H->AS H h.nx 3 1 r l'.length (Bn l')->(l'.length<=k+1/\∀x∈l',x<es.length)->∃(k':Nat) (cv:Aa) (l:Bo),[(0,.slice (I a1) es.length c),(1,.func (.func g) first cap),(5,r),(8,.slice (I a1) es.length c),(9,Vi es.length),(10,Vi ((k+1:Nat):Int))]=[(0,.slice (I a1) es.length c),(1,.func (.func g) first cap),(5,cv),(8,.slice (I a1) es.length c),(9,Vi es.length),(10,Vi k')]/\k'<=es.length/\es.length-(k+1)=es.length-k'/\(l.length<=k'/\∀x∈l,x<es.length)/\AA h H/\AS H h.nx 3 1 cv l.length (Bn l):=
   λH r l' p q ae=>⟨k+1,r,l',B,G,B,ae,p,q⟩
  have aa:(l++[k]).length<=k+1/\∀x∈l++[k],x<es.length:=by
   refine⟨by rw[Aj];show l.length+1<=_;omega,λx a=>?_⟩;rcases List.mem_append.1 a with a|a
   .exact u x a
   .rw[List.mem_singleton.1 a];exact y
  apply Bz<;>intro k2
  .obtain⟨g3,F,v',J,K,M,N⟩:=ap m n X
   exact⟨_,_,F,_,_,K,Pq,_,_,CG (l:=[(0,_),(1,_),(5,_),(8,_),(9,_),(10,Vi ((k+1:Nat):Int))]) ⟨B,B,B,B,B,Cs (λz=>I (Vi z)) (by omega),trivial⟩,(show es.length-(k+1)<es.length-k by omega),Da _ _ _ M N aa⟩
  obtain⟨a2,y2,C,_,O⟩:=(Rd.ext R n).el (show k-1<es.length by omega);cases C;rw[flatK (f:=BV) (λ_=>rfl) es (Ab (show k-1<es.length by omega))] at O;obtain⟨f,s⟩:∃e,e=es[k-1]:=⟨_,B⟩;rw[←s] at O;refine⟨_,EQ Kq (show BK m j.nx 0 (BV e) from (E.dD (i:=0) B:Own m j.nx 114 (BV e)).cells) B,Pq,G,_,EQ Kq (show BK m a1.block (a1.off+((k:Int)-1).toNat*5) (BV f) by rw[(G:((k:Int)-1).toNat=k-1)];exact O) B,_,hc e f m.ad (n.trans (AA.ad m)) d G,?_⟩;rintro _ h3 ⟨P,b,rfl⟩;have ab:=n.trans P.aa;have o3:=X.ext P.aa;refine⟨P.ag,Ad (λk3=>?_) (λk3=>?_)⟩
  .obtain⟨g3,F,v',J,K,M,N⟩:=ap _ ab o3
   exact⟨_,_,F,_,_,K,Pq,_,_,CG (l:=[(0,_),(1,_),(5,_),(8,_),(9,_),(10,Vi ((k+1:Nat):Int))]) ⟨B,B,B,B,B,Cs (λz=>I (Vi z)) (by omega),trivial⟩,(show es.length-(k+1)<es.length-k by omega),Da _ _ _ M N aa⟩
  .exact⟨Pq,_,_,CG (l:=[(0,_),(1,_),(5,_),(8,_),(9,_),(10,Vi ((k+1:Nat):Int))]) ⟨B,B,B,B,B,Cs (λz=>I (Vi z)) (by omega),trivial⟩,(show es.length-(k+1)<es.length-k by omega),Da _ _ _ ab o3 ⟨G,u⟩⟩
def Ew (l:List Int):AH:=l.map λx:Int=>AL .i64 x
def TG (l:Bo):AH:=l.map λx:Nat=>AL .u64 x
def VZ (l:Bo):(TG l).length=l.length:=by simp[TG]
def SE (l:List Int):(Ew l).length=l.length:=by simp[Ew]
def Z9 {l:List Int} (a:k<l.length):(Ew l)[k]?=I (Vi l[k]):=by
 unfold Ew;rw[AX,Ab a];rfl
def Ze (l:Bo):Bn l=Ew (l.map λx:Nat=>(x:Int)):=by simp[Bn,Ew]
def Ajo (g:Base S L) {zs:List Int} (r:Rd h v 1 zs.length (Ew zs)) (hn:zs.length<=1000000):
 Bk S L 3 100 [v] h λw J=>AA h J/\∃bs:Bl,bs.length<=10000000/\AS J h.nx 5 1 w bs.length (Ay bs):=
 Cn f100 g λd ab hL=>by
  have E:=r;obtain⟨hr,F,H,rfl,ad,ae,hA⟩:=r;obtain⟨g8,K,M,o,n8⟩:=MA (τ:=Ax) (t:=274) (z:=.int .u64 0) Kq Kq B zs.length G .i64 .i64 h;rw[show AE zs.length (AL .u64 0)=TG (AE zs.length 0) by simp[TG]] at o;have N:=(Sep.nil h).add (a:=aO h.nx 213 (TG (AE zs.length 0))) M o λi U=>A2 U.symm;refine⟨_,_,K,λp A f=>∃(k:Nat) (c:Bo),A=[(3,sL h.nx zs.length zs.length),(11,.slice F zs.length H),(12,Vi zs.length),(13,Vi k)]/\k<=zs.length/\p=zs.length-k/\c.length=zs.length/\(∀x∈c,x<18446744073709551616)/\Sep h f [aO h.nx 213 (TG c)],
   ⟨_,_,Sq,G,0,_,B,Al _,B,by simp,(λx l=>by rw[CH l];decide),N⟩,?_⟩
  rintro p A f ⟨k,c,rfl,hk,rfl,O,q,s⟩ af;apply Bz<;>intro k1
  .have u:k<zs.length:=G
   obtain⟨a1,y1,Q,_,T⟩:=(Rd.ext E s.e).el u;cases Q;obtain⟨x,l,V⟩:=Sx zs[k];obtain⟨W,X,C⟩:=s.st (t:=213) B (i:=0) B (j:=k) (v:=.int .u64 x) (by rw[VZ];omega) B;rw[show(TG c).set k (.int .u64 x)=TG (c.set k x) by simp[TG,Cp]] at C;refine⟨G,_,ld B (BK.at T (by rw[LS,Bi (by decide),Eg,BJ,UL];exact Z9 u):Cell f a1.block (a1.off+(k:Int).toNat*1+0) (Vi zs[k])),_,.inr V,G,_,Jp X (by show 0+k*1=k;omega),Pq,_,_,Sq,G,k+1,_,B,G,B,Jq,?_,C⟩;intro y m;rcases BT m with m|rfl
   .exact q y m
   .exact l
  have R:Rd f (sL h.nx zs.length zs.length) 1 c.length (c.map λx:Nat=>AL .u64 x):=by
   have:=(s.dD (i:=0) B).dB (n:=zs.length) (k:=1) (by rw[VZ];omega);rw[O];exact this
  refine⟨_,Aqg g R q G d G,?_⟩;rintro _ W ⟨D,⟨ag,rfl⟩|⟨ah,b,hb,rfl,P,_⟩⟩
  .omega
  .refine⟨_,Apt g P d G,?_⟩
   rintro o3 h3 ⟨x3,bs,aa,r3⟩;exact⟨(s.e.trans D).trans x3,bs,aa,r3.mono (Ao s.e.nx D.nx)⟩
def c99 (r:Base S L) {es:List CI} (c:Cell h q 0 v) (u:Dq h v es) (hn:es.length<=1000000) (K:YQ S L 1 fv h es U6):
 Bk S L 4 99 [fv,AG q 0] h λw J=>AA h J/\∃bs:Bl,bs.length<=10000000/\AS J h.nx 5 1 w bs.length (Ay bs):=
 Cn f99 r λd ab hL=>by
  have M:=u;obtain⟨g,first,cap,rfl,N⟩:=K
  obtain⟨hr,O,P,rfl,ad,ae,hA⟩:=u;obtain⟨g8,Q,x,y,n8⟩:=MA (τ:=Ax) (t:=48) (z:=Vi 0) Kq Kq B es.length G .i64 .i64 h;rw[show AE es.length (Vi 0)=Ew (AE es.length 0) by simp[Ew]] at y;have T:=(Sep.nil h).add (a:=aO h.nx 3 (Ew (AE es.length 0))) x y λi U=>A2 U.symm;refine⟨_,ld B c,_,_,Q,_,ld B (c.ext x),λC A l=>∃(k:Nat) (b:List Int),A=[(0,.func (.func g) first cap),(4,sL h.nx es.length es.length),(10,.slice O es.length P),(11,Vi es.length),(12,Vi k)]/\k<=es.length/\C=es.length-k/\b.length=es.length/\Sep h l [aO h.nx 3 (Ew b)],
   ⟨_,_,Sq,G,0,_,B,Al _,B,by simp,T⟩,?_⟩
  rintro C A l ⟨k,b,rfl,hk,rfl,D,s⟩ af;apply Bz<;>intro k1
  .have E:k<es.length:=G
   obtain⟨a1,y1,V,_,F⟩:=(Rd.ext M s.e).el E;cases V;rw[flatK (f:=BV) (λ_=>rfl) es (Ab E)] at F;obtain⟨e,W⟩:∃e,e=es[k]:=⟨_,B⟩;rw[←W] at F;obtain⟨g1,X,m,z2,o⟩:=s.var (t:=114) (z:=.agg #[.string ⟨#[]⟩,.string ⟨#[]⟩,Vi 0,Vi 0,Vi 0]) Kq (v:=.agg ⟨BV e⟩) B B B;refine⟨G,_,EQ Kq Jq B,_,_,X _,_,z2,_,EQ Kq (show BK m l.nx 0 (BV e) from (o.dD (i:=0) B:Own m l.nx 114 (BV e)).cells) B,_,N e Jq m o.e d G,?_⟩;rintro _ h3 ⟨p,z,rfl⟩;obtain⟨h4,u4,H⟩:=(o.ext p).st (t:=3) B (i:=1) B (j:=k) (v:=Vi z) (by rw[SE];omega) B;rw[show(Ew b).set k (Vi z)=Ew (b.set k z) by simp[Ew,Cp]] at H;exact⟨G,_,Jp u4 (by show 0+k*1=k;omega),Pq,_,_,Sq,G,k+1,_,B,G,B,by simp;exact D,H.drop 1⟩
  have R:Rd l (sL h.nx es.length es.length) 1 b.length (Ew b):=by
   have:=(s.dD (i:=0) B).dB (n:=es.length) (k:=1) (by rw[SE];omega);rw[D];exact this
  refine⟨_,Ajo r R G d G,?_⟩;rintro o3 h3 ⟨p,bs,aa,r3⟩;exact⟨s.e.trans p,bs,aa,r3.mono s.e.nx⟩
def NF (pre:AH):∀(vs r:AH) (i:Nat),I2 (pre++r) (pre.length+i) vs=pre++I2 r i vs
 |[],_,_=>rfl
 |
  v::vs,r,i=>by
  rw[I2,I2,Hj,Bm G,show pre.length+i-pre.length=i by omega,DD];exact NF pre vs _ _
def Awo (b off n c l:Nat) (h1:l<=n) (a:n<=c):C7 Ax 55 (.slice (I ⟨b,off,Z⟩) n c) (I (Vi (l:Int))) Z Z=I (.slice (I ⟨b,off+l*1,Z⟩) (n-l) (c-l)):=by
 show(bif Ar l n&&Ar n c then I (PA (I ⟨b,off+l*1,Z⟩) (n-l) (c-l)) else Z)=_
 rw[Aq h1,Aq a];rfl
def Avp (b off n c m:Nat) (a:m<=c):C7 Ax 55 (.slice (I ⟨b,off,Z⟩) n c) Z (I (Vi (m:Int))) Z=I (.slice (I ⟨b,off+0*1,Z⟩) (m-0) (c-0)):=by
 show(bif Ar 0 m&&Ar m c then I (PA (I ⟨b,off+0*1,Z⟩) (m-0) (c-0)) else Z)=_
 rw[Aq a];rfl
def Mg {h:Y} {b k:Nat} {xs:BZ} {sp:AH} (o:Own h b 9 (AR xs++sp)) (a:k<xs.length):Cell h b k (Sg xs[k]):=o.cell (by
 rw[AB (by simp[AR];exact a)];exact Dl a)
def AAd (ad:Base S L) {h:Y} {N n:Nat} {v:Aa} {ss:BZ} (o:AS h N 9 1 v n (AR ss)) (hn:n<=1000000):
 Bk S L 1 174 [v] h λw J=>B0 (BY v) h J/\∃p,AS J N 9 1 w p.length (AR p)/\p.length<=n/\∀s∈p,s∈ss:=
 Cn f174 ad λd ai hL=>by
  have V:n=ss.length:=by have:=o.len;simpa[AR] using this
  obtain⟨A0,e,rfl⟩:∃A c,v=.slice A n c:=by
   obtain⟨_,⟨rfl,rfl⟩|⟨b,c,sp,rfl,_⟩⟩:=o
   .exact⟨_,_,B⟩
   .exact⟨_,_,B⟩
  apply Bz<;>intro e1
  .exact⟨(AA.refl h).ae _,ss,V▸o,G,λs q=>q⟩
  obtain⟨_,⟨_,O⟩|⟨b,c,sp,O,hb,P,Q,f⟩⟩:=o
  .omega
  obtain⟨rfl,rfl⟩:A0=I ⟨b,0,Z⟩/\e=c:=by cases O;exact⟨B,B⟩
  clear O;have aj:sp.length+n=e:=by rw[Aj] at Q;simp[AR] at Q;omega
  refine⟨λC A r=>∃k:Nat,A=[(0,sL b n e),(3,Vi k)]/\1<=k/\k<=n/\C=n-k/\r=h,
   ⟨_,_,Sq,G,1,B,G,G,B,B⟩,?_⟩
  rintro C A r ⟨a,rfl,ak,hk,rfl,rfl⟩ W;apply Bz<;>intro k1;rotate_left
  .exact⟨(AA.refl r).ae _,ss,V▸⟨by simp[AR];omega,.inr ⟨b,e,sp,B,hb,P,Q,f⟩⟩,G,λs q=>q⟩
  have D:Cell r b (0+(a:Int).toNat*1) (Sg (ss[a]'G)):=by
   rw[show 0+(a:Int).toNat*1=a by omega];exact Mg f G
  have F:Cell r b (0+((a:Int)-1).toNat*1) (Sg (ss[a-1]'G)):=by
   rw[show 0+((a:Int)-1).toNat*1=a-1 by omega];exact Mg f G
  refine⟨[],Kq,G,_,ld B D,Pq,G,_,ld B F,_,B,Ad (λk2=>?_) (λk2=>?_)⟩;rotate_left
  .exact⟨Pq,_,_,CG (l:=[(0,_),(3,Vi ((a+1:Nat):Int))]) ⟨B,Cs (λz=>I (Vi z)) (G),trivial⟩,(show n-(a+1)<n-a by omega),a+1,B,G,G,B,B⟩
  refine⟨_,_,Cs (CN _) (Awo b 0 n e a G P),?_⟩;refine⟨λC A g=>∃(k j:Nat) (xs:BZ),A=[(0,sL b n e),(3,Vi k),(4,.slice (I ⟨b,0+a*1,Z⟩) (n-a) (e-a)),(5,Vi j)]/\k+1<=a+j/\1<=k/\j<=n-a/\1<=j/\C=n-a-j/\xs.length=n/\(∀s∈xs,s∈ss)/\Own g b 9 (AR xs++sp)/\B0 (·=b) r g,
   ⟨_,_,Sq,G,a,1,ss,B,G,G,G,G,B,G,λs h=>h,f,(AA.refl r).ae _⟩,?_⟩
  clear f D F W;rintro C A g ⟨k,j,xs,rfl,al,am,hj,an,rfl,X,K,f,x⟩ W;apply Bz<;>intro k3
  .have D:Cell g b (0+a*1+(j:Int).toNat*1) (Sg (xs[a+j]'G)):=by
    rw[show 0+a*1+(j:Int).toNat*1=a+j by omega];exact Mg f G
   have F:Cell g b (0+a*1+((j:Int)-1).toNat*1) (Sg (xs[a+j-1]'G)):=by
    rw[show 0+a*1+((j:Int)-1).toNat*1=a+j-1 by omega];exact Mg f G
   refine⟨[],Kq,G,_,ld B D,Pq,G,_,ld B F,_,B,Ad (λk4=>?_) (λk4=>?_)⟩
   .obtain⟨y,E,o3,c3⟩:=Own.st (τ:=Ax) (t:=9) B f (i:=k) (v:=.string (xs[a+j]'G)) (by rw[Aj];simp[AR];omega) B
    rw[Hj,Bi (by simp[AR];omega),show(AR xs).set k (Sg (xs[a+j]'G))=AR (xs.set k (xs[a+j]'G)) by simp[AR,Cp]] at o3;refine⟨G,_,ld B D,G,_,Jp E (by show 0+k*1=k;omega),Pq,Pq,?_⟩;refine⟨_,_,Sq,(show n-a-(j+1)<n-a-j by omega),k+1,j+1,_,B,G,G,G,G,B,by simp;exact X,?_,o3,x.trans c3.ae⟩;intro s q;rcases BT q with q|rfl
    .exact K s q
    .exact K _ (Bu _)
   .exact⟨Pq,_,_,CG (l:=[(0,_),(3,_),(4,_),(5,Vi ((j+1:Nat):Int))]) ⟨B,B,B,Cs (λz=>I (Vi z)) (G),trivial⟩,(show n-a-(j+1)<n-a-j by omega),k,j+1,xs,B,G,G,G,G,B,X,K,f,x⟩
  have ae:k<=n:=by omega
  have Da:∀H u,Own H b 9 (AR (xs.take k)++u)->(u.length+k=e)->B0 (·=b) r H->B0 (·=b) r H/\∃p,AS H N 9 1 (.slice (I ⟨b,0+0*1,Z⟩) (k-0) (e-0)) p.length (AR p)/\p.length<=n/\∀s∈p,s∈ss:=λH u oH hl cH=>by
   have af:(xs.take k).length=k:=by rw[Cg];omega
   refine⟨cH,xs.take k,⟨by simp[AR],.inr ⟨b,e,u,?_,hb,G,?_,oH⟩⟩,G,λs q=>K s (List.mem_of_mem_take q)⟩
   .rw[af];rfl
   .rw[Aj];simp[AR];omega
  have cl:∃y u,Bx Ax .clear [55] [.slice (I ⟨b,0+k*1,Z⟩) (n-k) (e-k)] g=I (.tuple #[],y)/\Own y b 9 (AR (xs.take k)++u)/\u.length+k=e/\B0 (·=b) g y:=by
   have es:AR xs++sp=AR (xs.take k)++(AR (xs.drop k)++sp):=by
    rw[←KA];unfold AR;rw[←BS,FO]
   have aa:(AR (xs.take k)).length=k:=by simp[AR];omega
   have ab:(AR (xs.drop k)++sp).length+k=e:=by rw[Aj];simp[AR];omega
   rw[es] at f;generalize hm:n-k=m;cases m with
   |zero=>exact⟨g,_,B,f,ab,(AA.refl g).ae _⟩
   |
    succ m=>
    have ag:(Dy [Sg ⟨#[]⟩] (m+1)).length=m+1:=by
     have:∀m,(Dy [Sg ⟨#[]⟩] m).length=m:=by
      intro m
      induction m with
      |zero=>rfl
      |succ m R=>rw[Dy,Aj,R];simp;omega
     exact this _
    have ah:(Dy [Sg ⟨#[]⟩] (m+1)).all one=true:=by
     have:∀m,(Dy [Sg ⟨#[]⟩] m).all one=true:=by
      intro m
      induction m with
      |zero=>rfl
      |succ m R=>rw[Dy,Aph,R];rfl
     exact this _
    obtain⟨y,T,M,E⟩:=Own.bb f (i:=k) (vs:=Dy [Sg ⟨#[]⟩] (m+1)) (by rw[ag,Aj,aa];omega) ah;have hp:=NF (AR (xs.take k)) (Dy [Sg ⟨#[]⟩] (m+1)) (AR (xs.drop k)++sp) 0;rw[aa,UL] at hp;rw[hp] at M;refine⟨y,_,?_,M,by rw[LH];exact ab,E.ae⟩;show(match Gi g b (0+k*1) (Dy [Sg ⟨#[]⟩] (m+1)) with|some J=>I (C4 #[],J)|none=>Z)=_
    rw[show 0+k*1=k by omega,T]
  obtain⟨y,u,T,M,E,u4⟩:=cl;exact⟨_,_,Cs (CN _) (Awo b 0 n e k ae P),_,_,T,_,_,Cs (CN _) (Avp b 0 n e k (G)),Da y u M E (x.trans u4)⟩
def Agl (S:A9) (L d:Nat) (fv:Aa) (h:Y) (W:Nat->Prop) (xs:Bo):Prop:=∃g first cap,fv=.func (.func g) first cap/\∀x∈xs,∀y∈xs,∀J,B0 W h J->Bk S L d g (first.toList++[.int .i64 x,.int .i64 y]++cap.toList) J λv a=>AA J a/\U6 v
structure Base4 (S:A9) (L:Nat):Prop extends Base3 S L where
 b7:∀{h:Y} {N n:Nat} {v:Aa} {ss:BZ},AS h N 9 1 v n (AR ss)->n<=1000000->Bk S L 10 173 [v] h λw J=>B0 (BY v) h J/\∃ss',ss'.Perm ss/\AS J N 9 1 v n (AR ss')
 cc:∀{h:Y} {N n d:Nat} {v fv:Aa} {xs:Bo},AS h N 3 1 v n (Bn xs)->n<=1000000->Agl S L d fv h (BY v) xs->Bk S L (d+26) 96 [v,fv] h λw J=>B0 (BY v) h J/\∃xs',xs'.Perm xs/\AS J N 3 1 v n (Bn xs')
def c88 (j:Base4 S L) {es:List CI} {P:Bd->Prop} (q:Dq h v es) (hn:es.length<=1000000) (F:YQ S L 1 fv h es λv=>∃s,v=.string s/\P s):
 Bk S L 12 88 [v,fv] h λw J=>AA h J/\∃ss:BZ,AS J h.nx 9 1 w ss.length (AR ss)/\ss.length<=es.length/\∀s∈ss,P s:=
 Cn f88 j.toBase λd af hL=>by
  have H:=q;obtain⟨g,first,cap,rfl,K⟩:=F
  obtain⟨hr,M,N,rfl,ag,ah,hA⟩:=q;obtain⟨v5,g5,O,Q⟩:=(Sep.nil h).dk (τ:=Ax) (t:=55) (z:=.string ⟨#[]⟩) Kq Kq B 0 es.length Jq G .i64 .i64;refine⟨_,_,O,λr A c=>∃(k:Nat) (cv:Aa) (ss:BZ),A=[(1,.func (.func g) first cap),(5,cv),(11,.slice M es.length N),(12,Vi es.length),(13,Vi k)]/\k<=es.length/\r=es.length-k/\ss.length=k/\(∀s∈ss,P s)/\Sep h c [aS h.nx 9 1 cv ss.length (AR ss)],
   ⟨_,_,Sq,G,0,_,[],B,Al _,B,B,(λs a=>by cases a),Q⟩,?_⟩
  rintro r A c ⟨k,cv,ss,rfl,hk,rfl,ai,u,s⟩ aj;apply Bz<;>intro k1
  .have x:k<es.length:=G
   obtain⟨a1,y1,R,_,y⟩:=(Rd.ext H s.e).el x;cases R;rw[flatK (f:=BV) (λ_=>rfl) es (Ab x)] at y;obtain⟨e,T⟩:∃e,e=es[k]:=⟨_,B⟩;rw[←T] at y;obtain⟨g1,V,l,W,m⟩:=s.var (t:=114) (z:=.agg #[.string ⟨#[]⟩,.string ⟨#[]⟩,Vi 0,Vi 0,Vi 0]) Kq (v:=.agg ⟨BV e⟩) B B B;refine⟨G,_,EQ Kq Jq B,_,_,V _,_,W,_,EQ Kq (show BK l c.nx 0 (BV e) from (m.dD (i:=0) B:Own l c.nx 114 (BV e)).cells) B,_,K e Jq l m.e d G,?_⟩;rintro _ C ⟨n,b,rfl,X⟩;have D:=(m.ext n).drop 1;obtain⟨v',J,t1,t2⟩:=D.ba Kq (i:=0) B (ys:=[.string b]) B B D.e.nx G (n':=(ss++[b]).length) (xs':=AR (ss++[b])) (by simp) (by simp[AR]);refine⟨_,_,Iv (τ:=Ax) (t:=55) (k:=1) Kq (.string b) B B Jq C,_,_,t1,Pq,_,_,Sq,G,k+1,v',ss++[b],B,G,B,Jq,λs a=>?_,t2⟩;rcases List.mem_append.1 a with a|a
   .exact u s a
   .rw[List.mem_singleton.1 a];exact X
  have o:=s.sl (i:=0) B;refine⟨_,j.b7 o G d G,?_⟩;rintro _ C ⟨n,ak,E,p⟩;have aa:=E.length_eq;rw[←aa] at p;refine⟨_,AAd j.toBase p G d G,?_⟩;rintro w h4 ⟨x4,ab,o4,al,ad⟩;have ae:=(s.e.then n λi U=>o.ai i U).then x4 λi U=>p.ai i U
  exact⟨ae,ab,o4,G,λs a=>u s (E.subset (ad s a))⟩
def Fk (b:Nat):Nat:=if b<128 then 240 else if b<194 then 241 else if b<224 then 2 else if b=224 then 19 else if b=237 then 35 else if b<240 then 3 else if b=240 then 52 else if b<244 then 4 else if b=244 then 68 else 241
def K6:Nat->Nat×Nat
 |0=>(128,191)
 |1=>(160,191)
 |2=>(128,159)
 |3=>(144,191)
 |4=>(128,143)
 |_=>(0,0)
def Ce (h:Y):Prop:=(∀b:Nat,b<256->Cell h 0 b (.int .u8 (Fk b)))/\∀j:Nat,j<16->BK h 1 (j*2) [.int .u8 (K6 j).1,.int .u8 (K6 j).2]
def Ce.ext {h J:Y} (F:Ce h) (x:AA h J):Ce J:=⟨λb hb=>(F.1 b hb).ext x,λj a=>(F.2 j a).ext x⟩
def KI (p:Nat×Nat) (c:UInt8):Bool:=Ar p.1 c.toNat&&Ar c.toNat p.2
def Li (b:UInt8) (l:Bl):Option Bl:=
 if b.toNat<128 then I l else match Fk b.toNat%8,l with
  |2,c::l=>bif KI (K6 (Fk b.toNat/16)) c then I l else Z
  |3,c::d::l=>bif KI (K6 (Fk b.toNat/16)) c&&KI (128,191) d then I l else Z
  |4,c::d::e::l=>bif KI (K6 (Fk b.toNat/16)) c&&KI (128,191) d&&KI (128,191) e then I l else Z
  |_,_=>Z
def Lk:Nat->Bl->Bool
 |_,[]=>Ag
 |0,_::_=>Ah
 |
  n+1,b::l=>match Li b l with
  |some l'=>Lk n l'
  |none=>Ah
def FH (s:Bd):Bool:=Lk s.size s.data.toList
def H5 (s:Bd):Nat:=(CA s.size s.data.toList).length
def El (s:Bd):Int:=if FH s then H5 s else-1
def Po:∀(n m:Nat) (l:Bl),l.length<=n->l.length<=m->CA n l=CA m l
 |_,_,[],_,_=>by rename_i n m _ _;cases n<;>cases m<;>rfl
 |0,_,_::_,h,_=>by simp at h
 |_,0,_::_,_,h=>by simp at h
 |
  n+1,m+1,b::l,h1,a=>by
  have c:1<=(FF (b::l)).2:=TU _ _ _ _;simp only[AO] at h1 a;rw[CA,CA,Po n m _ (by rw[AV,AO];omega) (by rw[AV,AO];omega)]
structure Base5 (S:A9) (L:Nat):Prop extends Base4 S L where
 valid:∀{h:Y} {s:Bd},Ce h->s.size<=100000000->Bk S L 5 139 [.string s] h λw J=>AA h J/\w=.bool (FH s)
def Rw {s:Bd} {p:Nat} (e:p<s.size):(CA (s.size-p) (s.data.toList.drop p)).length=(CA (s.size-(p+(FF (s.data.toList.drop p)).2)) (s.data.toList.drop (p+(FF (s.data.toList.drop p)).2))).length+1:=by
 have a:(s.data.toList.drop p).length=s.size-p:=by rw[AV];rfl
 cases c:s.data.toList.drop p with
 |nil=>rw[c] at a;simp at a;omega
 |
  cons b l=>
  rw[c] at a;simp only[AO] at a;have f:1<=(FF (b::l)).2:=TU _ _ _ _;rw[show s.size-p=l.length+1 by omega,CA,AO,←GR,c];have d:((b::l).drop (FF (b::l)).2).length<=l.length:=by rw[AV,AO];omega
  rw[Po l.length (s.size-(p+(FF (b::l)).2)) _ d (by rw[AV,AO];omega)]
def Kp:∀(n:Nat) (l:Bl),(CA n l).length<=n
 |0,_=>Ae _
 |_+1,[]=>Al _
 |n+1,b::l=>by rw[CA,AO];have:=Kp n ((b::l).drop (FF (b::l)).2);omega
def TI (a b c d:Nat):(ZN a b c d).2<=4:=
 Ni (P:=λx:Nat×Nat=>x.2<=4) (by show 1<=4;decide) (Ni (P:=λx:Nat×Nat=>x.2<=4) (Ni (P:=λx:Nat×Nat=>x.2<=4) (by show 2<=4;decide) (by show 1<=4;decide))
  (Ni (P:=λx:Nat×Nat=>x.2<=4) (Ni (P:=λx:Nat×Nat=>x.2<=4) (by show 3<=4;decide) (by show 1<=4;decide)) (Ni (P:=λx:Nat×Nat=>x.2<=4) (Ni (P:=λx:Nat×Nat=>x.2<=4) (by show 4<=4;decide) (by show 1<=4;decide)) (by show 1<=4;decide))))
def SP:∀(n:Nat) (l:Bl),l.length<=n->l.length<=4*(CA n l).length
 |_,[],_=>Al _
 |0,_::_,h=>by simp at h
 |
  n+1,b::l,h=>by
  have c:1<=(FF (b::l)).2:=TU _ _ _ _;have d:(FF (b::l)).2<=4:=TI _ _ _ _;have a:((b::l).drop (FF (b::l)).2).length=(b::l).length-(FF (b::l)).2:=AV;rw[AO] at h a;have:=SP n ((b::l).drop (FF (b::l)).2) G;rw[CA,AO,AO];omega
def VD {s:Bd} (h:1<=El s):(s.size:Int)<=4*El s:=by
 have:=SP s.size s.data.toList (Ae _);have e:s.data.toList.length=s.size:=rfl;unfold El H5 at*;split at h
 .rw[Bi (by assumption)];omega
 .omega
def YZ (s:Bd):-1<=El s/\El s<=s.size:=by
 have:=Kp s.size s.data.toList;unfold El H5;split<;>omega
def AGa (m:Base S L) {h:Y} {s:Bd} (v:s.size<=100000000):Bk S L 1 140 [Sg s] h λw J=>AA h J/\w=Vi (H5 s):=
 Cn f140 m λd y C=>by
  have b:=(Sep.nil h).add (a:=aB h.nx (.str s 0)) (AA.new h (.str s 0)) ⟨by rw[Ck];omega,by rw[CK,Bi B]⟩ λi U=>A2 U.symm;have n:Gh Ax 9 (Sg s) h=I (AG h.nx 0,h.new (.str s 0)):=rfl;have o:=Kp s.size s.data.toList;refine⟨_,_,n,?_⟩;refine⟨λj A f=>∃p c:Nat,A=[(2,Vi c),(4,AG h.nx 0)]/\j=s.size-p/\c+(CA (s.size-p) (s.data.toList.drop p)).length=H5 s/\Sep h f [aB h.nx (.str s p)],
   ⟨_,_,Sq,?_,0,0,B,B,Ba _,b⟩,?_⟩
  .omega
  rintro j A f ⟨p,c,rfl,rfl,k,b⟩ D;have E:H5 s<=s.size:=o;rcases NE (b.a7 (i:=0) B) with⟨l,w,z,q,g⟩|⟨l,g⟩
  .refine⟨_,_,g,?_⟩
   have r:=Rw l;rw[←q.2.1] at r;have t:=b.ah (i:=0) (a':=aB h.nx (.str s (p+w))) B (Er.put f h.nx (.str s (p+w))).ae ⟨by rw[Cc];exact(b.2.1 0 _ B).1.1,by rw[BQ,Bi B]⟩ (λx u=>.inl u);exact⟨Pq,_,_,Sq,G,p+w,c+1,B,B,G,t⟩
  .refine⟨_,_,g,b.e,?_⟩
   rw[show s.size-p=0 by omega,CA] at k;rw[←k];rfl
def c58 (a:Base5 S L) {h:Y} (f:Ce h) {s:Bd} (b:s.size<=100000000):Bk S L 6 58 [Sg s] h λw J=>AA h J/\w=Vi (El s):=
 Cn f58 a.toBase λd i _=>by
  refine cl (a.valid f b) ?_;rintro _ h1 ⟨c,rfl⟩;refine⟨_,_,B,Ad (λe=>?_) (λe=>?_)⟩
  .exact⟨c,by rw[El,Bm (by simpa using e)];rfl⟩
  refine cl (AGa a.toBase b) ?_;rintro _ j ⟨g,rfl⟩;exact⟨c.trans g,by rw[El,Bi (by simpa using e)];rfl⟩
def c68 (a:Base S L) {h:Y} {z:Int}:Bk S L 1 68 [.int .i32 z] h λw J=>J=h/\∃c:Int,w=Vi c/\0<=c/\c<=6:=
 Cn f68 a λd b _=>by
  repeat' first
   |exact⟨rfl,_,rfl,by decide,by decide⟩
   |apply Ad<;>intro _
def ADr (a:Base S L) {h:Y} {z:Int}:Bk S L 2 295 [.int .i32 z] h λw J=>J=h/\∃b,w=.bool b:=
 Cn f295 a λd e _=>by
  apply Ad<;>intro _
  .refine cl (c68 a) ?_
   rintro _ h1 ⟨rfl,c,rfl,_,_⟩;exact⟨B,_,B⟩
  .exact⟨B,_,B⟩
def ABz (a:Base S L) {h:Y} {z:Int}:Bk S L 1 296 [.int .i32 z] h λw J=>J=h/\∃b,w=.bool b:=
 Cn f296 a λd c _=>by
  repeat' first
   |exact⟨rfl,_,rfl⟩
   |apply Ad<;>intro _
def AAo (a:Base5 S L) {h:Y} (g:Ce h) {s:Bd} (f:s.size<=100000000):Bk S L 7 235 [Sg s] h λw J=>AA h J/\∃b,w=.bool b/\(b=Ag->1<=El s):=
 Cn f235 a.toBase λd k _=>by
  refine cl (c58 a g f) ?_;rintro _ h1 ⟨c,rfl⟩;apply Ad<;>intro i
  .apply Ad<;>intro l
   .refine cl (Ajq a.toBase f (e:=2) ⟨295,#[],#[],B,λz J _=>ADr a.toBase⟩) ?_
    rintro _ m ⟨j,b,rfl⟩;exact⟨_,_,B,c.trans j,_,B,λ_=>Fp i⟩
   .exact⟨c,_,B,λh=>by cases h⟩
  .exact⟨c,_,B,λh=>by cases h⟩
def AEo (a:Base5 S L) {h:Y} (j:Ce h) {s:Bd} (g:s.size<=100000000):Bk S L 7 236 [Sg s] h λw J=>AA h J/\∃b,w=.bool b/\(b=Ag->s.size<=256):=
 Cn f236 a.toBase λd l _=>by
  refine cl (c58 a j g) ?_;rintro _ h1 ⟨c,rfl⟩;apply Ad<;>intro f
  .apply Ad<;>intro i
   .refine cl (Ajq a.toBase g (e:=1) ⟨296,#[],#[],B,λz J _=>ABz a.toBase⟩) ?_
    rintro _ m ⟨k,b,rfl⟩;refine⟨_,_,B,c.trans k,_,B,λ_=>?_⟩;have f:=Fp f;have i:=Fp i;have:=VD f;omega
   .exact⟨c,_,B,λh=>by cases h⟩
  .exact⟨c,_,B,λh=>by cases h⟩
def CI.ok (n:Nat) (e:CI):Prop:=(0<=e.l/\e.l<n)/\(0<=e.r/\e.r<n)/\(0<=e.c/\e.c<=30000)/\1<=El e.rd
def Auu (f:Base5 S L) {h:Y} (m:Ce h) {e:CI} {n:Nat} (h1:e.rd.size<=100000000) (D:e.tx.size<=100000000):Bk S L 8 166 [.agg ⟨BV e⟩,Vi n] h λw J=>AA h J/\∃z:Int,w=Vi z/\(z=0->e.ok n/\e.tx.size<=256):=
 Cn f166 f.toBase λd V _=>by
  obtain⟨g,y,x,o⟩:=PF e h;have a:∀{H:Y} (z:Int),z≠0->AA h H->AA h H/\∃p:Int,Vi z=Vi p/\(p=0->e.ok n/\e.tx.size<=256):=λz E x=>⟨x,z,B,λh=>Cf h E⟩;refine⟨_,_,y,_,ld B (o.cell (i:=0) B),_,AAo f (m.ext x) h1 d G,?_⟩;rintro _ W ⟨q,b,rfl,F⟩;have r:=o.ext q;have j:=x.trans q;have rest:∀H,AA h H->Own H h.nx 114 (BV e)->∀k:Prop,k->k:=λ_ _ _ _ k=>k;refine⟨_,_,B,Ad (λs=>?_) (λs=>?_)⟩
  .exact a 5 (by decide) j
  refine⟨_,ld B (r.cell (i:=1) B),_,AEo f (m.ext j) D d G,?_⟩;rintro _ X ⟨t,K,rfl,M⟩;have l:=r.ext t;have c:=j.trans t;have u:=l.cell (i:=2) B;have v:=l.cell (i:=3) B;have A:=l.cell (i:=4) B;refine⟨_,_,B,Ad (λC=>?_) (λC=>?_)⟩
  .exact a 5 (by decide) c
  refine⟨_,ld B u,Bz (λN=>?_) (λN=>?_)⟩
  .exact a 150 (by decide) c
  refine⟨_,ld B u,Bz (λO=>?_) (λO=>?_)⟩
  .exact a 150 (by decide) c
  refine⟨_,ld B v,Bz (λP=>?_) (λP=>?_)⟩
  .exact a 150 (by decide) c
  refine⟨_,ld B v,Bz (λQ=>?_) (λQ=>?_)⟩
  .exact a 150 (by decide) c
  refine⟨_,ld B A,Bz (λR=>?_) (λR=>?_)⟩
  .exact a 6 (by decide) c
  refine⟨_,ld B A,Bz (λT=>?_) (λT=>?_)⟩
  .exact a 6 (by decide) c
  exact⟨c,0,B,λ_=>⟨⟨G,G,G,F (by cases b<;>first|rfl|cases s)⟩,M (by cases K<;>first|rfl|cases C)⟩⟩
def Sw (ps:List JT):Prop:=1<=ps.length/\ps.length<=64/\∀q∈ps,q.1.size<=16/\0<=q.2/\q.2<=2
def c85 (o:Base5 S L) (T:Ce h) {a:Aa} {ps:List JT} {es:List CI} (p:Gt h pv ps) (V:ps.length<=100000000) (E:Dq h ev es) (hn:es.length<=100000000) (F:∀e∈es,e.rd.size<=100000000/\e.tx.size<=100000000)
 (r:a=.pointer Z\/∃b n:Nat,a=AG b 0/\Cell h b 0 (Vi n)):
 Bk S L 9 85 [pv,a,ev] h λw J=>AA h J/\∃z:Int,w=Vi z/\(z=0->Sw ps/\a≠.pointer Z/\es.length<=20000/\(∀e∈es,e.ok ps.length)/\∀b n:Nat,a=AG b 0->Cell h b 0 (Vi n)->n=ps.length):=
 Cn f85 o.toBase λd ad hL=>by
  have W:=p;have X:=E;obtain⟨hr,A0,c0,rfl,ae,af,hA⟩:=p;obtain⟨ag,aa,c2,rfl,ah,ai,aj⟩:=E;have j:∀{H:Y} (z:Int),z≠0->AA h H->AA h H/\∃K:Int,Vi z=Vi K/\(K=0->Sw ps/\a≠.pointer Z/\es.length<=20000/\(∀e∈es,e.ok ps.length)/\∀b n:Nat,a=AG b 0->Cell h b 0 (Vi n)->n=ps.length):=λz u x=>⟨x,z,B,λh=>Cf h u⟩;refine cl (Apq o.toBase W V) ?_;rintro _ h1 ⟨c,z,rfl,u⟩;apply Ad<;>intro e1
  .exact j 5 Jq c
  rcases r with rfl|⟨b,n,rfl,M⟩
  .exact⟨_,B,j 9 (by decide) c⟩
  refine⟨_,B,GZ (Aux o.toBase (M.ext c) d G) ?_⟩;apply Ad<;>intro e2
  .exact j 5 Jq c
  have e2:n=ps.length:=Gq;apply Bz<;>intro e3
  .exact j 2 Jq c
  refine⟨λN A m=>∃k:Nat,A=[(0,.slice A0 ps.length c0),(27,.slice aa es.length c2),(28,Vi es.length),(29,Vi k)]/\k<=es.length/\N=es.length-k/\(∀e∈es.take k,e.ok ps.length)/\AA h m,
   ⟨_,_,Sq,G,0,B,Al _,B,(λe s=>by simp at s),c⟩,?_⟩
  rintro N A m ⟨k,rfl,hk,rfl,y,x⟩ ak;apply Bz<;>intro k1;rotate_left
  .obtain rfl:k=es.length:=G
   rw[CS] at y;exact⟨x,0,B,λ_=>⟨u Jq,(λh=>by cases h),G,y,λb' n' hb' c'=>by
    cases hb';have:=c'.inj M;injection this with _ this;omega⟩⟩
  have C:k<es.length:=G;obtain⟨a1,y1,e9,_,O⟩:=(Rd.ext X x).el C;cases e9;rw[flatK (f:=BV) (λ_=>rfl) es (Ab C)] at O;obtain⟨e,s⟩:∃e,e=es[k]:=⟨_,B⟩;have r:e∈es:=Gq;rw[←s] at O;obtain⟨g1,z1,P,z2,D⟩:=(Sep.nil m).var (t:=114) (z:=.agg #[Sg ⟨#[]⟩,Sg ⟨#[]⟩,Vi 0,Vi 0,Vi 0]) Kq (v:=.agg ⟨BV e⟩) B B B;refine⟨G,_,EQ Kq Jq B,_,_,z1 _,_,z2,_,EQ Kq (show BK P m.nx 0 (BV e) from (D.dD (i:=0) B:Own P m.nx 114 (BV e)).cells) B,_,Auu o (T.ext (x.trans D.e)) (F e r).1 (F e r).2 d G,?_⟩;rintro _ h3 ⟨x3,z3,rfl,ab⟩;have Q:=(x.trans D.e).trans x3;apply Ad<;>intro R
  .exact j z3 (by simpa using R) Q
  refine⟨Pq,_,_,CG (l:=[(0,_),(27,_),(28,_),(29,Vi ((k+1:Nat):Int))]) ⟨B,B,B,Cs (λz=>I (Vi z)) (G),trivial⟩,(show es.length-(k+1)<es.length-k by omega),k+1,B,G,B,λq g=>?_,Q⟩;rw[A5 C] at g;rcases List.mem_append.1 g with g|g
  .exact y q g
  .rw[List.mem_singleton.1 g,←s];exact (ab (by simpa using R)).1
structure Base6 (S:A9) (L:Nat):Prop extends Base5 S L where
 cw:∀{h:Y} {v:Aa} {es:List CI},Dq h v es->es.length<=20000->Bk S L 10 86 [v] h λw J=>AA h J/\∃C3:List CI,AS J h.nx 114 5 w C3.length (C3.flatMap BV)/\C3.length<=es.length/\∀e'∈C3,∃e∈es,∃e2∈es,e'.rd=e.rd/\e'.tx=e.tx/\e'.l=e.l/\e'.r=e.r/\e'.c=e2.c
def Awk:CI:=⟨⟨#[]⟩,⟨#[]⟩,0,0,0⟩
def Aib (m:Nat):Dy (AJ (.agg #[Sg ⟨#[]⟩,Sg ⟨#[]⟩,Vi 0,Vi 0,Vi 0])) m=(AE m Awk).flatMap BV:=by
 induction m with
 |zero=>rfl
 |succ m a=>rw[Dy,a];rfl
def SS:∀(vs ys rest:AH),vs.length=ys.length->I2 (ys++rest) 0 vs=vs++rest
 |[],[],_,_=>rfl
 |
  v::vs,y::ys,rest,h=>by
  have e:=NF [v] vs (ys++rest) 0;rw[(SS vs ys rest (by simpa using h))] at e;exact e
 |[],_::_,_,h=>by simp at h
 |_::_,[],_,h=>by simp at h
def Ail {b:Type} {f:b->AH} {K:Nat} (c:∀a,(f a).length=K) (l:List b) (d:k<l.length) (a:b):I2 (l.flatMap f) (k*K) (f a)=(l.set k a).flatMap f:=by
 have e:l.set k a=l.take k++a::l.drop (k+1):=by
  rw[List.set_eq_take_append_cons_drop,Bi d]
 have g:l.flatMap f=(l.take k).flatMap f++(f l[k]++(l.drop (k+1)).flatMap f):=by
  conv=>lhs;rw[(by rw[List.getElem_cons_drop,FO]:l=l.take k++l[k]::l.drop (k+1))]
  rw[E0,Dg]
 rw[g,e,E0,Dg];have:=NF ((l.take k).flatMap f) (f a) (f l[k]++(l.drop (k+1)).flatMap f) 0;rw[(by rw[HV c,Cg,N4 G]:((l.take k).flatMap f).length=k*K)] at this;have this:I2 ((l.take k).flatMap f++(f l[k]++(l.drop (k+1)).flatMap f)) (k*K) (f a)=_:=this;rw[this,SS _ _ _ Jq]
def AS.dd (o:AS h N e k (sL b n n) n xs):Own h b e xs:=by
 obtain⟨f,⟨a,_⟩|⟨i,c,sp,a,_,_,g,d⟩⟩:=o
 .cases a
 .cases a
  rw[Aj,f] at g;have:sp=[]:=BO G;rw[this,Fb] at d;exact d
def Own.bN (o:Own h b e xs) (a:xs.length=n*k) (c:N<=b):AS h N e k (sL b n n) n xs:=
 ⟨a,.inr ⟨b,n,[],B,c,Ae _,by rw[Fb];exact a,by rw[Fb];exact o⟩⟩
def Gy.ae {K V:Aa->Prop} (m:Gy h r K V) (c:B0 W h J) (a:¬W r):Gy J r K V:=(aM r K V).aH c (λi U=>by rw[show i=r from U];exact a) m
def AS.aX (o:AS h N e k v n xs):∃A n c,v=.slice A n c:=by
 obtain⟨_,A,c,e,_⟩:=o.rd;exact⟨A,n,c,e⟩
def RdZ {l:Bo} (r:Rd h v 1 l.length (Bn l)):Rd h v 1 (l.map λx:Nat=>(x:Int)).length (Ew (l.map λx:Nat=>(x:Int))):=by
 rw[Ze] at r;rw[A4];exact r
def Azp (a b c d e f g h i j k:Bd) (l m n o p q r s t u v:Option BD) (w x y z A C m6 D m8 E F K c1 L c3 c4 M N c7 c8 c9 c10:Nat) (H:Y):
 Bs Ax 118 11 [(0,.agg ⟨[Sg a,.slice l w K]⟩),(1,.agg ⟨[Sg b,.slice m x c1]⟩),(2,.agg ⟨[Sg c,.slice n y L]⟩),(3,.agg ⟨[Sg d,.slice o z c3]⟩),(4,.agg ⟨[Sg e,.slice p A c4]⟩),(5,.agg ⟨[Sg f,.slice q C M]⟩),(6,.agg ⟨[Sg g,.slice r m6 N]⟩),(7,.agg ⟨[Sg h,.slice s D c7]⟩),(8,.agg ⟨[Sg i,.slice t m8 c8]⟩),(9,.agg ⟨[Sg j,.slice u E c9]⟩),(10,.agg ⟨[Sg k,.slice v F c10]⟩)] H=
 I (sL H.nx 11 11,BN H 203 [Sg a,.slice l w K,Sg b,.slice m x c1,Sg c,.slice n y L,Sg d,.slice o z c3,Sg e,.slice p A c4,Sg f,.slice q C M,Sg g,.slice r m6 N,Sg h,.slice s D c7,Sg i,.slice t m8 c8,Sg j,.slice u E c9,Sg k,.slice v F c10]):=by
 kernel_rfl
def c46 (q:Base6 S L) (bz:Ce h) {mv:Aa} {ps:List JT} {es:List CI} (qq:G3 h) (p:Gt h pv ps) (hp:ps.length<=100000000) (en:Dq h ev es) (hn:es.length<=100000000) (b0:∀e∈es,e.rd.size<=100000000/\e.tx.size<=100000000)
 (hm:mv=.pointer Z\/∃(b r:Nat) (df:Int) (l:GX),mv=AG b 0/\∃m:Nat,F6 h b m df r l/\EJ m l/\m<=64/\l.length<=100000):
 Bk S L 30 46 [pv,mv,ev] h λw J=>AA h J/\∃(o:Aa) (z:Int),w=.tuple #[o,Vi z]/\(z=0->(Sw ps/\∀e∈es,e.ok ps.length)/\(∀b n:Nat,mv=AG b 0->Cell h b 0 (Vi n)->n=ps.length)/\∃bs:Bl,bs.length<=20000000/\AS J h.nx 5 1 o bs.length (Ay bs)):=
 Cn f46 q.toBase λd dg hL=>by
  have am:∀{H:Y} (z:Int),z≠0->AA h H->AA h H/\∃(o:Aa) (z':Int),C4 #[sN,Vi z]=.tuple #[o,Vi z']/\(z'=0->(Sw ps/\∀e∈es,e.ok ps.length)/\(∀b n:Nat,mv=AG b 0->Cell h b 0 (Vi n)->n=ps.length)/\∃bs:Bl,bs.length<=20000000/\AS H h.nx 5 1 o bs.length (Ay bs)):=λz hz x=>⟨x,_,z,B,λh=>Cf h hz⟩;obtain⟨g0,y0,s0⟩:=(Sep.nil h).box Ax 24 ev;have ca:AJ ev=[ev]:=by
   obtain⟨_,A,c,rfl,_⟩:=en;rfl
  rw[ca] at s0;have x0:=s0.e;have c5:Cell g0 h.nx 0 ev:=(s0.dD (i:=0) B).cell B;refine⟨_,_,y0,_,ld B c5,_,c85 q.toBase5 (bz.ext x0) (Rd.ext p x0) hp (Rd.ext en x0) hn b0 (hm.imp id λ⟨b,r,df,l,e,m,M,_⟩=>⟨b,m,e,(M.ext x0).2.1⟩) d G,?_⟩;rintro _ h1 ⟨x1,z,rfl,hz⟩;have s1:=s0.ext x1;apply Ad<;>intro e1
  .exact am z Jq s1.e
  obtain⟨cb,cd,ce,cf,cg⟩:=hz Jq;obtain⟨b,r,df,l,rfl,m,M,mo,ch,ci⟩:=hm.resolve_left cd;refine⟨_,ld B (c5.ext x1),_,q.cw (Rd.ext en s1.e) ce d G,?_⟩;rintro X C ⟨x2,es2,ay,dh,di⟩;have az:=ay.rd;have D:=s1.ext x2;obtain⟨h3,u3,s3,v3⟩:=D.a5 (τ:=Ax) (t:=24) B (i:=0) B (by show 0<1;decide) (Rd.one az);have c3:Cell h3 h.nx 0 X:=(s3.dD (i:=0) B).cell B;have cj:∀i,BY X i->i≠h.nx:=λi U E=>by
   have q1:=ay.ai i U;have q2:=(s0.dD (i:=0) B).1;have q3:=x1.nx;omega
  have a0:=Rd.ae az v3.ae λi U=>cj i U;refine⟨_,u3,_,ld B c3,_,c88 q.toBase4 (P:=λ_=>True) a0 G ⟨89,#[],#[],B,λe _ J _=>(c89 q.toBase).mono λv C E=>⟨E.1,_,E.2,trivial⟩⟩ d G,?_⟩;rintro w4 h4 ⟨x4,dj,o4,dk,_⟩;have s4:=s3.ext x4;refine cl (c87 q.toBase o4.rd) ?_;rintro _ h5 ⟨x5,⟨e,he,rfl⟩|⟨b9,t9,rfl,ck,dl,_⟩⟩
  .apply Ad<;>intro k
   .exact am 2 Jq (s4.ext x5).e
   .have:e=0:=by simpa using k
    omega
  have s5:=s4.ext x5;have c35:=(c3.ext x4).ext x5;have a2:=Rd.ext (Rd.ext a0 x4) x5;refine⟨_,ld B c35,_,c88 q.toBase4 (P:=λ_=>True) a2 G ⟨90,#[],#[],B,λe _ J _=>(c90 q.toBase).mono λv C E=>⟨E.1,_,E.2,trivial⟩⟩ d G,?_⟩;rintro w6 h6 ⟨x6,dm,o6,dn,_⟩;refine cl (c87 q.toBase o6.rd) ?_;rintro _ g ⟨x7,⟨e,he,rfl⟩|⟨an,t11,rfl,ao,dp,_⟩⟩
  .apply Ad<;>intro k
   .exact am 2 Jq ((s5.ext x6).ext x7).e
   .have:e=0:=by simpa using k
    omega
  have s7:=(s5.ext x6).ext x7;have ad:=s7.e;have s8:=(Sep.nil g).mk Fh KM;obtain⟨g9,y9,s9⟩:=s8.al (z:=.map Z) Kq;obtain⟨dq,cm,a3⟩:=s9.st (t:=192) B (i:=0) B (j:=0) (v:=.map (I g.nx)) (by show 0<1;decide) B;refine⟨_,_,y9 _,_,cm,GZ (c91 q.toBase (ao.ext a3.e) d G) ?_⟩;refine⟨λV A E=>∃k:Nat,A=[(0,pv),(1,AG b 0),(5,AG h.nx 0),(9,AG b9 0),(11,AG an 0),(12,AG (g.new (.map [] 0)).nx 0),(53,Vi t11.nd.length),(54,Vi k)]/\k<=t11.nd.length/\V=t11.nd.length-k/\Sep g E [aO (g.new (.map [] 0)).nx 192 [.map (I g.nx)],aM g.nx Fh KM],
   ⟨_,_,Sq,G,0,B,Al _,B,a3⟩,?_⟩
  rintro V A E ⟨k,rfl,hk,rfl,s⟩ a4;have c12:=(s.dD (i:=0) B).cell (i:=0) (v:=.map (I g.nx)) B;apply Bz<;>intro k1
  .refine cl (c92 q.toBase (ao.ext s.e)) ?_
   rintro _ h8 ⟨x8,st,dr,rfl,ds,_⟩;have D:=s.ext x8;obtain⟨h9,u9,s9⟩:=D.up (τ:=Ax) (t:=192) (kt:=9) (et:=3) (i:=1) B Kq MV (k:=.string st) (v:=Vi k) ⟨st,B⟩ ⟨k,B,G,G⟩;exact⟨_,ld B (c12.ext x8),_,_,(by rw[u9];rfl:Nb (BH Ax 192 (.map (I g.nx)) (Sg st) (Vi k) h8)=I (.tuple #[],h9)),Pq,_,_,Sq,G,k+1,B,G,B,s9⟩
  have cn:Cell E h.nx 0 X:=((c35.ext x6).ext x7).ext s.e;refine cl (c93 q.toBase (Rd.ext (Rd.ext p ad:Gt g pv ps) s.e) G) ?_;rintro _ cp ⟨ap,dt,du,a5,rfl,dv,a6⟩;obtain⟨ae,af,PT,rfl⟩:=a6.aX;have a7:=cn.ext ap;have a8:Dq cp X es2:=Rd.ext (Rd.ext (Rd.ext (Rd.ext a2 x6) x7:Dq g X es2) s.e) ap;refine⟨_,ld B a7,_,c94 q.toBase a8 G ⟨95,#[],#[],B,λe f J _=>c95 q.toBase⟩ d G,?_⟩;rintro a9 u ⟨ag,dw,cq,dx,dy⟩;have aq:=(s.ext ap).ext ag;have ah:=a7.ext ag;have ai:Dq u X es2:=Rd.ext a8 ag;obtain⟨ab,k5,rfl⟩:∃A c,X=.slice A es2.length c:=by
   obtain⟨_,A,c,e,_⟩:=ai;exact⟨A,c,e⟩
  obtain⟨g8,y8,x8,o8,n8⟩:=MA (τ:=Ax) (t:=48) (e:=3) (z:=Vi 0) Kq Kq B es2.length G .i64 .i64 u;rw[show AE es2.length (Vi 0)=Bn (AE es2.length 0) by simp[Bn]] at o8;have s8:=aq.add (a:=aO u.nx 3 (Bn (AE es2.length 0))) x8 o8 λi U=>A2 U.symm;refine⟨_,ld B ah,_,_,y8,λV A C=>∃(k:Nat) (us:Bo),A=[(1,AG b 0),(5,AG h.nx 0),(9,AG b9 0),(11,AG an 0),(12,AG (g.new (.map [] 0)).nx 0),(16,.slice ae af PT),(18,a9),(19,sL u.nx es2.length es2.length),(78,Vi es2.length),(79,Vi k)]/\k<=es2.length/\V=es2.length-k/\us.length=es2.length/\(∀x∈us,x<es2.length)/\AA u C/\Sep g C [aO u.nx 3 (Bn us),aO (g.new (.map [] 0)).nx 192 [.map (I g.nx)],aM g.nx Fh KM],
   ⟨_,_,Sq,G,0,_,B,Al _,B,by simp,?_,x8,s8⟩,?_⟩
  .intro x W
   obtain⟨q1,q2⟩:=List.mem_replicate.1 W;omega
  rintro V A C ⟨k,us,rfl,hk,rfl,ba,aj,N,D⟩ a4;apply Bz<;>intro k1
  .obtain⟨h3,u3,s3,v3⟩:=D.a5 (τ:=Ax) (t:=3) B (i:=0) B (j:=k) (v:=Vi k) (by rw[HO];omega) B
   rw[show(Bn us).set k (Vi k)=Bn (us.set k k) by simp[Bn,Cp]] at s3;refine⟨G,_,Jp u3 (by show 0+k*1=k;omega),Pq,_,_,Sq,G,k+1,_,B,G,B,by simp;exact ba,?_,N.then v3.ae (λi U=>by rw[U];omega),s3⟩
   intro y hy;rcases BT hy with hy|rfl
   .exact aj y hy
   .omega
  have oS:AS C u.nx 3 1 (sL u.nx es2.length es2.length) es2.length (Bn us):=(D.dD (i:=0) B).bN (by rw[HO];omega) (Ae _);have n1:(g.new (.map [] 0)).nx<u.nx:=(aq.dD (i:=0) B).1;have n2:g.nx<u.nx:=(aq.mw (i:=1) B).1;have n3:h.nx<u.nx:=ah.1;have c12:Cell C (g.new (.map [] 0)).nx 0 (.map (I g.nx)):=(D.dD (i:=1) B).cell (i:=0) B;have m12:Gy C g.nx Fh KM:=D.mw (i:=2) B;have c52:=ah.ext N;have cr:Dq C (.slice ab es2.length k5) es2:=Rd.ext ai N;refine cl (q.cc (d:=1) oS G ⟨97,#[],#[AG (g.new (.map [] 0)).nx 0,AG h.nx 0],B,λx W y hy J c=>c97 q.toBase (c12.ae c (by show¬_=u.nx;omega)) (m12.ae c (by show¬_=u.nx;omega)) (c52.ae c (by show¬_=u.nx;omega)) (Rd.ae cr c λi U=>by have:=Rd.aw ai i U;show¬i=u.nx;omega) (aj x W) (aj y hy)⟩) ?_;rintro _ O ⟨bb,Q,bc,cs⟩;have ct:Sep g O [aO u.nx 3 (Bn Q),aO (g.new (.map [] 0)).nx 192 [.map (I g.nx)],aM g.nx Fh KM]:=D.ah (i:=0) B (a':=aO u.nx 3 (Bn Q)) bb cs.dd λi U=>.inl U;have ak:AA u O:=N.then bb λi U=>by rw[show i=u.nx from U];exact Ae _
  have cu:Q.length=es2.length:=by rw[bc.length_eq];exact ba
  have cv:∀x∈Q,x<es2.length:=λx W=>aj x (bc.subset W);have ar:=ah.ext ak;have bd:Dq O (.slice ab es2.length k5) es2:=Rd.ext ai ak;obtain⟨dz,cw,be,bf,_⟩:=YH (τ:=Ax) (t:=24) (e:=114) (k:=5) (z:=.agg #[Sg ⟨#[]⟩,Sg ⟨#[]⟩,Vi 0,Vi 0,Vi 0]) Kq Kq es2.length es2.length (Ae _) G .i64 .i64 O;rw[Aib] at bf;have cx:=ct.add (a:=aO O.nx 114 ((AE es2.length Awk).flatMap BV)) be bf λi U=>A2 U.symm;refine⟨_,ld B ar,_,_,cw,λV A C=>∃(k:Nat) (T:List CI),A=[(1,AG b 0),(5,AG h.nx 0),(9,AG b9 0),(11,AG an 0),(12,AG (g.new (.map [] 0)).nx 0),(16,.slice ae af PT),(18,a9),(19,sL u.nx es2.length es2.length),(21,sL O.nx es2.length es2.length),(93,sL u.nx es2.length es2.length),(94,Vi es2.length),(95,Vi k)]/\k<=es2.length/\V=es2.length-k/\T.length=es2.length/\AA O C/\Sep g C [aO O.nx 114 (T.flatMap BV),aO u.nx 3 (Bn Q),aO (g.new (.map [] 0)).nx 192 [.map (I g.nx)],aM g.nx Fh KM],
   ⟨_,_,Sq,G,0,_,B,Al _,B,by simp,be,cx⟩,?_⟩
  rintro V A C ⟨k,T,rfl,hk,rfl,au,N,D⟩ a4;apply Bz<;>intro k1
  .have bg:k<Q.length:=G
   obtain⟨x,W⟩:∃x,x=Q.getD k 0:=⟨_,B⟩;have bh:x<es2.length:=by
    rw[W,Ak,Ab bg];exact cv _ (Bu _)
   have q1:Bw Ax 3 C u.nx (0+((k:Int)).toNat*t3.size)=I (Vi x):=by
    rw[W];exact Dz (ld B ((D.dD (i:=1) B).cell (GH bg))) (by show 0+k*1=k;omega)
   obtain⟨a1,y1,e9,_,q2⟩:=(Rd.ext bd N).el bh;cases e9;rw[flatK (f:=BV) (λ_=>rfl) es2 (Ab bh)] at q2;obtain⟨e,he⟩:∃e,e=es2[x]:=⟨_,B⟩;rw[←he] at q2;obtain⟨h3,u3,o3,v3⟩:=(D.dD (i:=0) B).bD (τ:=Ax) (t:=114) (k:=5) Kq (i:=k*5) (vs:=BV e) B (by rw[(HV (f:=BV) (λ_=>rfl) T:(T.flatMap BV).length=T.length*5)];show k*5+5<=_;omega) B;rw[Ail (f:=BV) (K:=5) (λ_=>rfl) T G e] at o3;exact⟨G,_,q1,_,ld B (ar.ext N),G,_,EQ (k:=5) Kq (show BK C a1.block (a1.off+(x:Int).toNat*5) (BV e) from q2) B,G,_,Jp u3 (by show 0+k*5=k*5;omega),Pq,_,_,Sq,G,k+1,_,B,G,B,by simp;exact au,N.then v3.ae (λi U=>by rw[U];exact Ae _),(D.ah (i:=0) B v3.ae o3 λi U=>.inl U:Sep g h3 [aO O.nx 114 ((T.set k e).flatMap BV),aO u.nx 3 (Bn Q),aO (g.new (.map [] 0)).nx 192 [.map (I g.nx)],aM g.nx Fh KM])⟩
  have R:Dq C (sL O.nx es2.length es2.length) T:=by
   have:=(D.dD (i:=0) B).dB (n:=es2.length) (k:=5) (by rw[HV (f:=BV) (k:=5) (λ_=>rfl),au]);rw[←au] at this⊢;exact this
  have cy:=ad.trans D.e;have cz:Rd C (sL u.nx es2.length es2.length) 1 (Q.map λx:Nat=>(x:Int)).length (Ew (Q.map λx:Nat=>(x:Int))):=by
   have:=(D.dD (i:=1) B).dB (n:=es2.length) (k:=1) (by rw[HO];omega);rw[Ze] at this;rw[A4,cu];exact this
  have c12:Cell C (g.new (.map [] 0)).nx 0 (.map (I g.nx)):=(D.dD (i:=2) B).cell (i:=0) B;have m12:Gy C g.nx Fh KM:=D.mw (i:=3) B;have cc:=ar.ext N;have al:Dq C (.slice ab es2.length k5) es2:=Rd.ext bd N;have c0:=(M.ext ad).ext D.e;have da:=((ck.ext x6).ext x7).ext D.e;have db:=(qq.ext ad).ext D.e;have av:∀l:Bo,(l.map λx:Nat=>(x:Int)).length=l.length:=λl=>by simp
  refine cl (c94 q.toBase R G ⟨98,#[],#[],B,λe f J _=>c98 q.toBase⟩) ?_;rintro ea k0 ⟨bi,eb,dc,ec,ed⟩;refine cl (ADj q.toBase3 (c0.ext bi) mo ch ci) ?_;rintro o1 k1 ⟨y1,b1,ee,w1⟩;obtain⟨A1,n1,c1,rfl⟩:=w1.aX;have z1:=bi.trans y1;refine cl (Aqp q.toBase (da.ext z1)) ?_;rintro o2 k2 ⟨y2,b2,ef,w2⟩;obtain⟨bj,n2,c2,rfl⟩:=w2.aX;have z2:=z1.trans y2;refine cl (Ajo q.toBase ((RdZ (cq.rd.ext (ak.trans N))).ext z2) (by rw[av];omega)) ?_;rintro o3 k3 ⟨y3,b3,eg,w3⟩;obtain⟨bk,n3,c3,rfl⟩:=w3.aX;have z3:=z2.trans y3;refine cl (Aqp q.toBase ((ao.ext D.e).ext z3)) ?_;rintro o4 k4 ⟨y4,b4,eh,w4⟩;obtain⟨bl,n4,c4,rfl⟩:=w4.aX;have z4:=z3.trans y4;refine cl (c99 q.toBase (cc.ext z4) (Rd.ext al z4) G ⟨104,#[],#[AG (g.new (.map [] 0)).nx 0],B,λe _ J x=>AGd q.toBase ((c12.ext z4).ext x) (m12.ae ((z4.trans x).ae λ_=>False) (λh=>h))⟩) ?_;rintro o5 ei ⟨y5,b5,ej,w5⟩;obtain⟨ab,n5,c5,rfl⟩:=w5.aX;have z5:=z4.trans y5;refine cl (c99 q.toBase (cc.ext z5) (Rd.ext al z5) G ⟨105,#[],#[],B,λe _ J x=>(ABe q.toBase).mono λv C E=>⟨E.1,_,E.2⟩⟩) ?_;rintro o6 k6 ⟨y6,b6,ek,w6⟩;obtain⟨bm,n6,c6,rfl⟩:=w6.aX;have z6:=z5.trans y6;refine cl (c99 q.toBase (cc.ext z6) (Rd.ext al z6) G ⟨106,#[],#[],B,λe _ J x=>(ADx q.toBase).mono λv C E=>⟨E.1,_,E.2⟩⟩) ?_;rintro o7 k7 ⟨y7,b7,eo,w7⟩;obtain⟨bn,n7,c7,rfl⟩:=w7.aX;have z7:=z6.trans y7;refine cl (c99 q.toBase (cc.ext z7) (Rd.ext al z7) G ⟨107,#[],#[],B,λe _ J x=>(ACd q.toBase).mono λv C E=>⟨E.1,_,E.2⟩⟩) ?_;rintro o8 k8 ⟨y8,b8,ep,w8⟩;obtain⟨bo,n8,c8,rfl⟩:=w8.aX;have z8:=z7.trans y8;refine cl (Ajo q.toBase (cz.ext z8) (by rw[av];omega)) ?_;rintro o9 k9 ⟨y9,bp,er,w9⟩;obtain⟨bq,n9,c9,rfl⟩:=w9.aX;refine cl (Ajo q.toBase ((((((((((RdZ dc.rd).ext y1).ext y2).ext y3).ext y4).ext y5).ext y6).ext y7).ext y8).ext y9) (by rw[av];omega)) ?_;rintro ew aa ⟨br,bt,ex,aw⟩;obtain⟨bu,bv,c10,rfl⟩:=aw.aX;have bw:=(z8.trans y9).trans br;obtain⟨parts,ax⟩:∃parts:List DQ,parts=[⟨⟨#[112,111,115]⟩,.slice ae af PT,a5⟩,⟨⟨#[109,97,116,114,105,120]⟩,.slice A1 n1 c1,b1⟩,⟨⟨#[114,101,97,100,105,110,103,115]⟩,.slice bj n2 c2,b2⟩,⟨⟨#[102,105,114,115,116]⟩,.slice bk n3 c3,b3⟩,⟨⟨#[115,117,114,102,97,99,101,115]⟩,.slice bl n4 c4,b4⟩,⟨⟨#[115,117,114,102,97,99,101]⟩,.slice ab n5 c5,b5⟩,⟨⟨#[108,101,102,116]⟩,.slice bm n6 c6,b6⟩,⟨⟨#[114,105,103,104,116]⟩,.slice bn n7 c7,b7⟩,⟨⟨#[99,111,115,116]⟩,.slice bo n8 c8,b8⟩,⟨⟨#[111,114,100,101,114]⟩,.slice bq n9 c9,bp⟩,⟨⟨#[97,116]⟩,.slice bu bv c10,bt⟩]:=⟨_,B⟩;have zz:=bw.trans (AA.row aa 203 (parts.flatMap Fj));have P:EC (BN aa 203 (parts.flatMap Fj)) (sL aa.nx parts.length parts.length) parts:=by
   refine⟨(Own.row aa 203 (parts.flatMap Fj)).dB (n:=parts.length) (k:=2) (HV (f:=Fj) (λ_=>rfl) parts),λp hp=>?_⟩;have f9:=br;have f8:=y9.trans f9;have f7:=y8.trans f8;have f6:=y7.trans f7;have f5:=y6.trans f6;have f4:=y5.trans f5;have f3:=y4.trans f4;have f2:=y3.trans f3;have F:∀{v:Aa} {bs:Bl},Rd aa v 1 bs.length (Ay bs)->Rd (BN aa 203 (parts.flatMap Fj)) v 1 bs.length (Ay bs):=λo=>o.ext (AA.row _ _ _);rw[ax] at hp;simp only[List.mem_cons,List.mem_nil_iff,or_false] at hp;rcases hp with rfl|rfl|rfl|rfl|rfl|rfl|rfl|rfl|rfl|rfl|rfl
   .exact⟨Ac (by rfl),by show a5.length<=16777216;omega,F ((((a6.rd.ext ag).ext (ak.trans N))).ext bw)⟩
   .exact⟨Ac (by rfl),by show b1.length<=16777216;omega,F (w1.rd.ext (y2.trans f2))⟩
   .exact⟨Ac (by rfl),by show b2.length<=16777216;omega,F (w2.rd.ext f2)⟩
   .exact⟨Ac (by rfl),by show b3.length<=16777216;omega,F (w3.rd.ext f3)⟩
   .exact⟨Ac (by rfl),by show b4.length<=16777216;omega,F (w4.rd.ext f4)⟩
   .exact⟨Ac (by rfl),by show b5.length<=16777216;omega,F (w5.rd.ext f5)⟩
   .exact⟨Ac (by rfl),by show b6.length<=16777216;omega,F (w6.rd.ext f6)⟩
   .exact⟨Ac (by rfl),by show b7.length<=16777216;omega,F (w7.rd.ext f7)⟩
   .exact⟨Ac (by rfl),by show b8.length<=16777216;omega,F (w8.rd.ext f8)⟩
   .exact⟨Ac (by rfl),by show bp.length<=16777216;omega,F (w9.rd.ext f9)⟩
   .exact⟨Ac (by rfl),by show bt.length<=16777216;omega,F (aw.rd)⟩
  have bx:=cy.trans zz;clear w1 w2 w3 w4 w5 w6 w7 w8 w9 aw;rw[(by rw[ax];rfl:parts.length=11)] at P;subst ax;refine⟨_,_,Azp ⟨#[112,111,115]⟩ ⟨#[109,97,116,114,105,120]⟩ ⟨#[114,101,97,100,105,110,103,115]⟩ ⟨#[102,105,114,115,116]⟩ ⟨#[115,117,114,102,97,99,101,115]⟩ ⟨#[115,117,114,102,97,99,101]⟩ ⟨#[108,101,102,116]⟩ ⟨#[114,105,103,104,116]⟩ ⟨#[99,111,115,116]⟩ ⟨#[111,114,100,101,114]⟩ ⟨#[97,116]⟩ ae A1 bj bk bl ab bm bn bo bq bu af n1 n2 n3 n4 n5 n6 n7 n8 n9 bv PT c1 c2 c3 c4 c5 c6 c7 c8 c9 c10 aa,_,Awq q.toBase P (Ac (by rfl)) (db.ext zz) d G,?_⟩;rintro _ kf ⟨xf,o7,z,rfl,hz⟩;refine⟨bx.trans xf,o7,z,B,λdd=>?_⟩;obtain⟨bs,de,F⟩:=hz dd;exact⟨⟨cb,cf⟩,(λb' n e c=>cg b' n e (c.ext x0):∀b' n:Nat,AG b 0=AG b' 0->Cell h b' 0 (Vi n)->n=ps.length),bs,de,F.mono bx.nx⟩
def AAi (j:Base6 S L) (H:Ce h) {ps:List JT} {cs:List Qz} {es:List CI} (K:G3 h) (p:Gt h pv ps) (c:Nw h cv cs) (t:Dq h ev es) (N:N8.aV ⟨pv,df,cv,ev,ps,cs,es⟩):
 Bk S L 31 18 [.agg #[pv,Vi df,cv,ev]] h λw J=>AA h J/\∃(o:Aa) (z:Int),w=.tuple #[o,Vi z]/\(z=0->∃bs:Bl,bs.length<=20000000/\Rd J o 1 bs.length (Ay bs)):=
 Cn f18 j.toBase λd X _=>by
  obtain⟨l1,l2,u,v,x⟩:=N;have u:ps.length<=70:=u;have v:cs.length<=300:=v;have x:es.length<=300:=x;have y:=p;have O:=c;have P:=t;obtain⟨_,A,C,rfl,_⟩:=p;obtain⟨_,D,c1,rfl,_⟩:=c;obtain⟨_,k,m,rfl,_⟩:=t;obtain⟨a,Q,E⟩:=(Sep.nil h).box Ax 26 (.agg #[.slice A ps.length C,Vi df,.slice D cs.length c1,.slice k es.length m]);have n:=E.dD (i:=0) B;have R:=n.cell (i:=0) B;have q:=E.e;refine⟨_,_,Q,[],Kq,_,ld B R,_,EQ Kq (show BK a h.nx 0 [.slice A ps.length C,Vi df,.slice D cs.length c1,.slice k es.length m] from n.cells) B,_,c47 (h:=a.ad) j.toBase (show Gt a _ _ from Rd.ext y q) G (show Nw a _ _ from Rd.ext O q) G B d G,?_⟩;rintro w2 f ⟨s,T⟩;have g:=q.trans s.aa;refine⟨s.ag,_,ld B ((n.ext s.aa).cell B:Cell (a.aa f) h.nx 3 (.slice k es.length m)),_,c46 (h:=(a.aa f).ad) j (show Ce (a.aa f) from H.ext g) (show G3 (a.aa f) from K.ext g) (show Gt (a.aa f) _ _ from Rd.ext y g) G (show Dq (a.aa f) _ _ from Rd.ext P g) G Jq ?_ d G,?_⟩
  .rcases T with rfl|⟨b,r,l,h1,aa,rfl,M,mo,ab,_⟩
   .exact .inl B
   .refine .inr ⟨b,r,df,l,B,ps.length,?_,mo,G,G⟩
    show F6 (a.aa f) b ps.length df r l;exact⟨M.1,M.2.1.aa,M.2.2.1.aa,M.2.2.2.1.aa,P9 M.2.2.2.2⟩
  rintro _ h3 ⟨F,o,z,rfl,V⟩;refine⟨F.ag,g.trans F.aa,o,z,B,λh0=>?_⟩;obtain⟨_,_,bs,W,r⟩:=V h0;exact⟨bs,W,r.rd.aa⟩
def Xc (b:Base6 S L) (c:Ce h) {s:N8} (d:G3 h) (a:Qx L h s) (e:s.aV):Bk S L 31 18 [.agg ⟨s.cells⟩] h λw J=>AA h J/\∃(o:Aa) (z:Int),w=.tuple #[o,Vi z]/\(z=0->∃bs:Bl,bs.length<=20000000/\Rd J o 1 bs.length (Ay bs)):=by
 exact AAi b c d a.1.1 a.1.2.1 a.1.2.2 e
def Sep.cW (a:Gv τ t=Ag) {l:List Ct} (s:Sep h0 h l) (U:l[i]?=I (aO b e xs)) (c:j<xs.length) (h1:one v=Ag):
 ∃J,BA τ t h b j v=I J/\Sep h0 J (l.set i (aO b e (xs.set j v)))/\Er b h J:=s.a5 a U c h1
def c50 (u:Base S L) {l:List Ct} (s:Sep h0 h l) {f:Nat} {b:Bool} {ps:List DQ} (p:EC h0 pv ps) (x:ps.length<=64) (U:l[i]?=I (aO f 123 [pv,.bool b])) {y:Bd}:
 Bk S L 3 50 [AG f 0,.string y] h λw J=>∃j:Bool,Sep h0 J (l.set i (aO f 123 [pv,.bool j]))/\(b=Ag->j=Ag)/\h.nx<=J.nx/\B0 (·=f) h J/\∃n bs,n<=16777216/\Rd J w 1 n (Ay bs):=
 Cn f50 u λd E _=>by
  have z:=(s.dD U).cell (i:=0) B;refine⟨_,ld B z,_,ACf u (p.ext s.e) G d G,?_⟩;have Da:∀(h1:Y) (c:AA h h1) (w:Aa) (n:Nat) (bs:Bl),n<=16777216->AS h1 h.nx 5 1 w n (Ay bs)->∀j:Bool,∃a,BA Ax 4 h1 f 1 (.bool j)=I a/\Sep h0 a (l.set i (aO f 123 [pv,.bool j]))/\h.nx<=a.nx/\B0 (·=f) h a/\∃n bs,n<=16777216/\Rd a w 1 n (Ay bs):=λh1 c w n bs x o j=>by
   obtain⟨a,g,A,m⟩:=(s.ext c).cW (τ:=Ax) (t:=4) B U (v:=.bool j) (by show 1<2;decide) B;have F:=(s.dD U).1;refine⟨a,g,A,by rw[m.nx];exact c.nx,(c.ae _).trans m.ae,n,bs,x,o.rd.ae m.ae λi U H=>?_⟩;have:=o.ai i U;omega
  rintro _ h1 ⟨c,rfl|⟨q,C,o,rfl,D⟩⟩
  .have c1:=((s.ext c).dD U).cell (i:=1) B
   have Da:=Da h1 c _ 0 [] Jq (AS.nil h1 h.nx 5 1);cases b
   .obtain⟨a,g,k,r⟩:=Da Ag
    exact⟨_,ld B c1,_,_,B,_,g,Ag,k,(λh=>by rfl),r⟩
   .obtain⟨a,g,k,r⟩:=Da Ag
    exact⟨_,ld B c1,_,g,Ag,k,(λh=>by rfl),r⟩
  .have c1:=((s.ext c).dD U).cell (i:=1) B
   have Da:=Da h1 c o _ q.db (p.2 q C).2.1 D;cases b
   .obtain⟨a,g,k,r⟩:=Da Ah
    exact⟨_,ld B c1,_,_,B,_,g,Ah,k,(λh=>by cases h),r⟩
   .obtain⟨a,g,k,r⟩:=Da Ag
    exact⟨_,ld B c1,_,g,Ag,k,(λh=>by rfl),r⟩
def c52 (x:Base2 S L) {l:List Ct} (s:Sep h0 h l) {f:Nat} {b:Bool} {ps:List DQ} (p:EC h0 pv ps) (H:ps.length<=64) (U:l[i]?=I (aO f 123 [pv,.bool b])) {K:Bd}:
 Bk S L 7 52 [AG f 0,.string K] h λw J=>∃e:Bool,Sep h0 J (l.set i (aO f 123 [pv,.bool e]))/\(b=Ag->e=Ag)/\h.nx<=J.nx/\B0 (·=f) h J/\((w=.pointer Z/\e=Ag)\/∃q t,w=AG q 0/\Ge J h.nx q t):=
 Cn f52 x.toBase λd N _=>by
  refine⟨_,c50 x.toBase s p H U d G,?_⟩;rintro w h1 ⟨b1,y,C,D,c1,n,bs,O,r⟩;have z:(l.set i (aO f 123 [pv,.bool b1]))[i]?=I (aO f 123 [pv,.bool b1]):=by rw[O4 ((List.getElem?_eq_some_iff.1 U).1:i<l.length)]
  refine⟨_,ACo x.toBase r G d G,?_⟩;have P:=(s.dD U).1;have Da:∀(g:Y) (a:AA h1 g) (e:Bool),∃c,BA Ax 4 g f 1 (.bool e)=I c/\Sep h0 c (l.set i (aO f 123 [pv,.bool e]))/\h.nx<=c.nx/\B0 (·=f) h c/\B0 (·=f) g c:=λg a e=>by
   obtain⟨c,j,E,A⟩:=(y.ext a).cW (τ:=Ax) (t:=4) B z (v:=.bool e) (by show 1<2;decide) B;rw[List.set_set] at E;exact⟨c,j,E,by rw[A.nx];exact Ao D a.nx,(c1.trans (a.ae _)).trans A.ae,A.ae⟩
  rintro _ g ⟨a,rfl|⟨q,t,rfl,T⟩⟩
  .have k:=((y.ext a).dD z).cell (i:=1) B
   obtain⟨c,j,m,o,u,_⟩:=Da g a Ag;cases b1
   .exact⟨_,ld B k,_,j,Ag,m,(λ_=>rfl),o,u,.inl ⟨B,B⟩⟩
   .exact⟨_,ld B k,_,j,Ag,m,(λ_=>rfl),o,u,.inl ⟨B,B⟩⟩
  .have k:=((y.ext a).dD z).cell (i:=1) B
   obtain⟨c,j,m,o,u,M⟩:=Da g a b1;have F:=(T.fr M (λi U=>by rw[show i=f from U];omega)).mono D;cases b1
   .exact⟨_,ld B k,_,j,_,m,C,o,u,.inr ⟨q,t,B,F⟩⟩
   .exact⟨_,ld B k,_,j,_,m,C,o,u,.inr ⟨q,t,B,F⟩⟩
def Lb (h:Y) (N b n w:Nat) (ws:Bo):Prop:=BX h b n w ws/\Fl h N b
def Lb.fr {w:Nat} (p:Lb h N b n w ws) (c:B0 W h J) (a:∀i,W i->i<N):Lb J N b n w ws:=by
 exact⟨p.1.fr p.2 c a,p.2.1,λv y=>p.2.2 v (y.rev p.1.1.1 c (λd=>by have:=a b d;have:=p.2.1;omega:¬W b))⟩
def Lb.ext {w:Nat} (p:Lb h N b n w ws) (x:AA h J):Lb J N b n w ws:=p.fr (x.ae λ_=>False) λ_ h=>h.elim
def Lb.mono {M w:Nat} (p:Lb h N b n w ws) (a:M<=N):Lb h M b n w ws:=⟨p.1,p.2.mono a⟩
def c53 (y:Base2 S L) {l:List Ct} (s:Sep h0 h l) {f:Nat} {b:Bool} {ps:List DQ} (p:EC h0 pv ps) (K:ps.length<=64) (U:l[i]?=I (aO f 123 [pv,.bool b])) {M:Bd}:
 Bk S L 7 53 [AG f 0,.string M] h λw J=>∃e:Bool,Sep h0 J (l.set i (aO f 123 [pv,.bool e]))/\(b=Ag->e=Ag)/\h.nx<=J.nx/\B0 (·=f) h J/\((w=.pointer Z/\e=Ag)\/∃q n k ws,w=AG q 0/\Lb J h.nx q n k ws):=
 Cn f53 y.toBase λd Q _=>by
  refine⟨_,c50 y.toBase s p K U d G,?_⟩;rintro w h1 ⟨b1,z,D,E,c1,n,bs,R,r⟩;have A:(l.set i (aO f 123 [pv,.bool b1]))[i]?=I (aO f 123 [pv,.bool b1]):=by rw[O4 ((List.getElem?_eq_some_iff.1 U).1:i<l.length)]
  refine⟨_,Awa y.toBase r G d G,?_⟩;have T:=(s.dD U).1;have Da:∀(g:Y) (a:AA h1 g) (e:Bool),∃c,BA Ax 4 g f 1 (.bool e)=I c/\Sep h0 c (l.set i (aO f 123 [pv,.bool e]))/\h.nx<=c.nx/\B0 (·=f) h c/\B0 (·=f) g c:=λg a e=>by
   obtain⟨c,j,F,C⟩:=(z.ext a).cW (τ:=Ax) (t:=4) B A (v:=.bool e) (by show 1<2;decide) B;rw[List.set_set] at F;exact⟨c,j,F,by rw[C.nx];exact Ao E a.nx,(c1.trans (a.ae _)).trans C.ae,C.ae⟩
  rintro _ g ⟨a,rfl|⟨q,n,k,ws,_,rfl,P,N⟩⟩
  .have m:=((z.ext a).dD A).cell (i:=1) B
   obtain⟨c,j,o,u,x,_⟩:=Da g a Ag;cases b1
   .exact⟨_,ld B m,_,j,Ag,o,(λ_=>rfl),u,x,.inl ⟨B,B⟩⟩
   .exact⟨_,ld B m,_,j,Ag,o,(λ_=>rfl),u,x,.inl ⟨B,B⟩⟩
  .have m:=((z.ext a).dD A).cell (i:=1) B
   obtain⟨c,j,o,u,x,O⟩:=Da g a b1;have H:=((show Lb g h1.nx q n k ws from⟨P,N⟩).fr O (λi U=>by rw[show i=f from U];omega)).mono E;cases b1
   .exact⟨_,ld B m,_,j,_,o,D,u,x,.inr ⟨q,n,k,ws,B,H⟩⟩
   .exact⟨_,ld B m,_,j,_,o,D,u,x,.inr ⟨q,n,k,ws,B,H⟩⟩
structure Nl where
 b:Nat
 n:Nat
 w:Nat
 ws:Bo
def Nl.at_ (p:Nl) (h:Y):Prop:=BX h p.b p.n p.w p.ws
structure Dt where
 pv:Aa
 ps:List JT
 mb:Nat
 mn:Nat
 mr:Nat
 df:Int
 ml:GX
 b2:Nat
 t2:En
 b3:Nat
 t3:En
 p4:Nl
 p5:Nl
 p6:Nl
 p7:Nl
 p8:Nl
 p9:Nl
 b8:Nl
def Dt.cells (D:Dt):AH:=[D.pv,AG D.mb 0,AG D.b2 0,AG D.b3 0,AG D.p4.b 0,AG D.p5.b 0,AG D.p6.b 0,AG D.p7.b 0,AG D.p8.b 0,AG D.p9.b 0,AG D.b8.b 0]
structure DT (h:Y) (b:Nat) (D:Dt):Prop where
 c:∀i v,D.cells[i]?=I v->Cell h b i v
 pos:Gt h D.pv D.ps
 cJ:F6 h D.mb D.mn D.df D.mr D.ml
 t2:DE h D.b2 D.t2
 t3:DE h D.b3 D.t3
 p4:D.p4.at_ h
 p5:D.p5.at_ h
 p6:D.p6.at_ h
 p7:D.p7.at_ h
 p8:D.p8.at_ h
 p9:D.p9.at_ h
 b8:D.b8.at_ h
def DT.ext {h J:Y} {b:Nat} {D:Dt} (A:DT h b D) (x:AA h J):DT J b D:=
 ⟨λi v e=>(A.c i v e).ext x,Rd.ext A.pos x,A.cJ.ext x,A.t2.ext x,A.t3.ext x,BX.ext A.p4 x,BX.ext A.p5 x,BX.ext A.p6 x,BX.ext A.p7 x,BX.ext A.p8 x,BX.ext A.p9 x,BX.ext A.b8 x⟩
def DT.ad {h:Y} {b:Nat} {D:Dt} (A:DT h b D):DT h.ad b D:=A.ext (AA.ad h)
def Dt.fits (D:Dt):Prop:=D.p5.n<=20000/\D.p6.n=D.p5.n/\D.p7.n=D.p5.n/\D.p8.n=D.p5.n/\D.p9.n=D.p5.n/\D.p4.n=D.t2.nd.length/\D.b8.n=D.t3.nd.length/\(∀j:Nat,j<D.p4.n->E1 D.p4.ws D.p4.w j<D.p5.n)/\∀j:Nat,j+1<D.p4.n->E1 D.p4.ws D.p4.w j<E1 D.p4.ws D.p4.w (j+1)
def c54 (f:Base S L) {h:Y} {b:Nat} {D:Dt} (A:DT h b D):Bk S L 3 54 [AG b 0] h λw J=>AA h J/\∃r:Bool,w=.bool r/\(r=Ag->D.fits):=
 Cn f54 f λd aj hL=>by
  have g:∀{H:Y},AA h H->AA h H/\∃r:Bool,CU Ah=.bool r/\(r=Ag->D.fits):=λe=>⟨e,Ah,B,λh=>by cases h⟩;refine⟨_,ld B (A.c 5 _ B),_,K3 f A.p5.1 d G,?_⟩;rintro _ h ⟨rfl,rfl⟩;have k2:=A.c 2 _ B;have k3:=A.c 3 _ B;have k4:=A.c 4 _ B;have k6:=A.c 6 _ B;have k7:=A.c 7 _ B;have k8:=A.c 8 _ B;have k9:=A.c 9 _ B;have ah:=A.c 10 _ B;refine⟨[],Kq,Bz (λe1=>?_) (λe1=>?_)⟩
  .exact g (AA.refl _)
  have K:=AA.refl h;have Q:=A.ext K;have R:=k6.ext K;refine⟨_,ld B R,_,K3 (h:=Y.ad h) f (show Cell h _ _ _ from(Q.p6:BX _ _ _ _ _).1) d G,?_⟩;rintro _ _ ⟨rfl,rfl⟩;have v:=AT K;refine⟨B,Ad (λf6=>?_) (λf6=>?_)⟩
  .exact g v
  have f6:D.p6.n=D.p5.n:=by
   have:=f6;simp at this;omega
  have T:=A.ext v;have V:=k7.ext v;refine⟨_,ld B V,_,K3 (h:=Y.ad (nb h)) f (show Cell (nb h) _ _ _ from(T.p7:BX _ _ _ _ _).1) d G,?_⟩;rintro _ _ ⟨rfl,rfl⟩;have y:=AT v;refine⟨B,Ad (λf7=>?_) (λf7=>?_)⟩
  .exact g y
  have f7:D.p7.n=D.p5.n:=by
   have:=f7;simp at this;omega
  have W:=A.ext y;have X:=k8.ext y;refine⟨_,ld B X,_,K3 (h:=Y.ad (nb (nb h))) f (show Cell (nb (nb h)) _ _ _ from(W.p8:BX _ _ _ _ _).1) d G,?_⟩;rintro _ _ ⟨rfl,rfl⟩;have C:=AT y;refine⟨B,Ad (λf8=>?_) (λf8=>?_)⟩
  .exact g C
  have f8:D.p8.n=D.p5.n:=by
   have:=f8;simp at this;omega
  have a9:=A.ext C;have q9:=k9.ext C;refine⟨_,ld B q9,_,K3 (h:=Y.ad (nb (nb (nb h)))) f (show Cell (nb (nb (nb h))) _ _ _ from(a9.p9:BX _ _ _ _ _).1) d G,?_⟩;rintro _ _ ⟨rfl,rfl⟩;have E:=AT C;refine⟨B,Ad (λf9=>?_) (λf9=>?_)⟩
  .exact g E
  have f9:D.p9.n=D.p5.n:=by
   have:=f9;simp at this;omega
  have a4:=A.ext E;have q4:=k4.ext E;refine⟨_,ld B q4,_,K3 (h:=Y.ad (nb (nb (nb (nb h))))) f (show Cell (nb (nb (nb (nb h)))) _ _ _ from(a4.p4:BX _ _ _ _ _).1) d G,?_⟩;rintro _ _ ⟨rfl,rfl⟩;have M:=AT E;have N:=A.ext M;have aa:=k2.ext M;refine⟨B,_,ld B aa,_,c91 (h:=Y.ad (nb (nb (nb (nb (nb h)))))) f (show DE (nb (nb (nb (nb (nb h))))) _ _ from N.t2) d G,?_⟩;rintro _ _ ⟨rfl,rfl⟩;have F:=AT M;refine⟨B,Ad (λf4=>?_) (λf4=>?_)⟩
  .exact g F
  have f4:D.p4.n=D.t2.nd.length:=by
   have:=f4;simp at this;omega
  have ab:=A.ext F;have ad:=ah.ext F;refine⟨_,ld B ad,_,K3 (h:=Y.ad (nb (nb (nb (nb (nb (nb h))))))) f (show Cell (nb (nb (nb (nb (nb (nb h)))))) _ _ _ from(ab.b8:BX _ _ _ _ _).1) d G,?_⟩;rintro _ _ ⟨rfl,rfl⟩;have O:=AT F;have ae:=A.ext O;have af:=k3.ext O;refine⟨B,_,ld B af,_,c91 (h:=Y.ad (nb (nb (nb (nb (nb (nb (nb h)))))))) f (show DE (nb (nb (nb (nb (nb (nb (nb h))))))) _ _ from ae.t3) d G,?_⟩;rintro _ _ ⟨rfl,rfl⟩;have o:=AT O;refine⟨B,Ad (λf10=>?_) (λf10=>?_)⟩
  .exact g o
  have f10:D.b8.n=D.t3.nd.length:=by
   have:=f10;simp at this;omega
  have ag:(∀j:Nat,j<D.p4.n->E1 D.p4.ws D.p4.w j<D.p5.n)->(∀j:Nat,j+1<D.p4.n->E1 D.p4.ws D.p4.w j<E1 D.p4.ws D.p4.w (j+1))->D.fits:=λl m=>⟨G,f6,f7,f8,f9,f4,f10,l,m⟩;have ak:D.p4.n<=20000:=by have:=N.t2.1.2.2.2.2.2.2.1;omega
  have p:=A.ext o;clear a4 ab N ae q4 ad aa af Q T W a9 R V X q9;refine⟨_,ld B (p.c 4 _ B),_,ZZ f p.p4 d G,?_⟩;rintro _ _ ⟨rfl,rfl⟩;apply Ad<;>intro g1
  .refine⟨_,_,B,Ad (λg2=>?_) (λg2=>?_)⟩
   .exact g o
   apply Ad<;>intro g3
   .exact g o
   refine⟨_,ld B (p.c 4 _ B),_,K3 f (show Cell (nb (nb (nb (nb (nb (nb (nb (nb h)))))))) _ _ _ from(p.p4:BX _ _ _ _ _).1) d G,?_⟩;rintro _ _ ⟨rfl,rfl⟩;refine⟨λq A a=>∃(k:Nat) (z:Int),A=[(0,AG b 0),(3,Vi D.p5.n),(6,Vi z),(101,Vi D.p4.n),(102,Vi k)]/\k<=D.p4.n/\q=D.p4.n-k/\(∀j:Nat,j<k->E1 D.p4.ws D.p4.w j<D.p5.n)/\AA h a/\(0<k->z=E1 D.p4.ws D.p4.w (k-1))/\∀j:Nat,j+1<k->E1 D.p4.ws D.p4.w j<E1 D.p4.ws D.p4.w (j+1),
    ⟨_,_,Sq,G,0,-1,B,Al _,B,(λj i=>Cf i (F5 _)),o,(λh=>Cf h (W7 _)),(λj i=>Cf i (F5 _))⟩,?_⟩
   rintro q A' a ⟨k,z,rfl,hk,rfl,l,x,P,m⟩ ai;apply Bz<;>intro g4
   .have gr:=FM D.p4.ws D.p4.w k
    have s:=A.ext x;refine⟨_,ld B (s.c 4 _ B),_,ZZ f s.p4 d G,?_⟩;rintro _ _ ⟨rfl,rfl⟩;refine⟨_,.inl Pq,Bz (λt=>?_) (λt=>?_)⟩
    .exact g x
    rw[Bi G,show((k:Int)).toNat=k from B] at t⊢;refine⟨_,.inl Pq,Bz (λu=>?_) (λu=>?_)⟩
    .exact g x
    exact⟨_,.inl Pq,Pq,_,_,Sq,G,k+1,_,B,G,B,λj i=>by
     rcases A8 j k with a|a
     .exact l j a
     .have:j=k:=G
      rw[this];omega,x,λ_=>rfl,λj i=>by
     rcases A8 (j+1) k with a|a
     .exact m j a
     .have:=P G
      have e:k-1=j:=G;rw[e] at this;have e:k=j+1:=G;rw[e] at u;omega⟩
   .obtain rfl:k=D.p4.n:=G
    exact⟨x,Ag,B,λ_=>ag l m⟩
  .refine⟨_,ld B (p.c 4 _ B),_,K3 f (show Cell (nb (nb (nb (nb (nb (nb (nb (nb h)))))))) _ _ _ from(p.p4:BX _ _ _ _ _).1) d G,?_⟩
   rintro _ _ ⟨rfl,rfl⟩;refine⟨λq A a=>∃(k:Nat) (z:Int),A=[(0,AG b 0),(3,Vi D.p5.n),(6,Vi z),(101,Vi D.p4.n),(102,Vi k)]/\k<=D.p4.n/\q=D.p4.n-k/\(∀j:Nat,j<k->E1 D.p4.ws D.p4.w j<D.p5.n)/\AA h a/\(0<k->z=E1 D.p4.ws D.p4.w (k-1))/\∀j:Nat,j+1<k->E1 D.p4.ws D.p4.w j<E1 D.p4.ws D.p4.w (j+1),
    ⟨_,_,Sq,G,0,-1,B,Al _,B,(λj i=>Cf i (F5 _)),o,(λh=>Cf h (W7 _)),(λj i=>Cf i (F5 _))⟩,?_⟩
   rintro q A' a ⟨k,z,rfl,hk,rfl,l,x,P,m⟩ ai;apply Bz<;>intro g4
   .have gr:=FM D.p4.ws D.p4.w k
    have s:=A.ext x;refine⟨_,ld B (s.c 4 _ B),_,ZZ f s.p4 d G,?_⟩;rintro _ _ ⟨rfl,rfl⟩;refine⟨_,.inl Pq,Bz (λt=>?_) (λt=>?_)⟩
    .exact g x
    rw[Bi G,show((k:Int)).toNat=k from B] at t⊢;refine⟨_,.inl Pq,Bz (λu=>?_) (λu=>?_)⟩
    .exact g x
    exact⟨_,.inl Pq,Pq,_,_,Sq,G,k+1,_,B,G,B,λj i=>by
     rcases A8 j k with a|a
     .exact l j a
     .have:j=k:=G
      rw[this];omega,x,λ_=>rfl,λj i=>by
     rcases A8 (j+1) k with a|a
     .exact m j a
     .have:=P G
      have e:k-1=j:=G;rw[e] at this;have e:k=j+1:=G;rw[e] at u;omega⟩
   .obtain rfl:k=D.p4.n:=G
    exact⟨x,Ag,B,λ_=>ag l m⟩
def CI.small (e:CI):Prop:=(e.rd.size<=256/\e.tx.size<=256)/\(0<=e.l/\e.l<=1073741824)/\(0<=e.r/\e.r<=1073741824)/\(0<=e.c/\e.c<=1073741824)
def Dt.atR (D:Dt) (i:Int):Int:=((BG D.p4.n).find? λz=>decide (i+1<=E1 D.p4.ws D.p4.w z)).getD D.p4.n-1
def Dt.bG (D:Dt) (i:Int):CI:=⟨Sv D.t2 (D.atR i),Sv D.t3 (Hm D.p5.n D.p5.w D.p5.ws i),Hm D.p6.n D.p6.w D.p6.ws i,Hm D.p7.n D.p7.w D.p7.ws i,Hm D.p8.n D.p8.w D.p8.ws i⟩
def Ye {z:Nat} {p:Nat->Bool} (d:z<=n) (h1:∀j,j<z->p j=Ah) (c:z<n->p z=Ag):((BG n).find? p).getD n=z:=by
 rcases A8 z n with a|e
 .have:(BG n).find? p=I z:=by
   rw[List.find?_range_eq_some];exact⟨c a,List.mem_range.2 a,λj b=>by rw[h1 j b];rfl⟩
  rw[this];rfl
 .obtain rfl:z=n:=G
  have:(BG z).find? p=none:=List.find?_eq_none.2 λj b=>by rw[h1 j Jq];decide
  rw[this];rfl
def Age {f:Nat->Int} (a:∀j,j+1<n->f j<f (j+1)):∀k j,j+k<n->f j<=f (j+k)
 |0,j,_=>Int.le_refl _
 |k+1,j,h=>by have:=Age a k j G;have:=a (j+k) G;rw[←DD];omega
def ACy (g:Base S L) {D:Dt} (A:DT h b D) (K:D.fits) {i:Int} (U:0<=i/\i<=1000000000):Bk S L 8 122 [AG b 0,Vi i] h λw J=>AA h J/\∃e:CI,w=.agg ⟨BV e⟩/\e.small/\e=D.bG i:=
 Cn f122 g λd ag _=>by
  obtain⟨g1,M,q⟩:=(Sep.nil h).al (z:=.agg #[.string ⟨#[]⟩,.string ⟨#[]⟩,Vi 0,Vi 0,Vi 0]) Kq;have m:=A.ext q.e;have ah:=A.p4.2.2.1;refine⟨_,_,M _,_,ld B (m.c 4 _ B),_,.inl Pq,Pq,_,ACz g m.p4 d G,?_⟩;rintro _ h2 ⟨r,z,rfl,N,ai,O⟩;have P:D.atR i=(z:Int)-1:=by
   have Q:=Ye (p:=λz=>decide (i+1<=E1 D.p4.ws D.p4.w z)) N (λj hj=>decide_eq_false λs=>?_) λs=>decide_eq_true (O s)
   .unfold Dt.atR;rw[Q]
   have:=Age K.2.2.2.2.2.2.2.2 (z-1-j) j G;rw[show j+(z-1-j)=z-1 by omega] at this;omega
  have o:=m.ext r;refine⟨_,ld B (o.c 2 _ B),Pq,_,c92 g o.t2 d G,?_⟩;rintro _ a ⟨t,st,aj,rfl,R,T⟩;have V:=(q.ext r).ext t;have k:=o.ext t;refine⟨[],Kq,_,ld B (k.c 3 _ B),_,ld B (k.c 5 _ B),GZ (Xo (h:=a.ad) g (show BX a _ _ _ _ from k.p5) d G) ?_⟩;have u:=AT (AA.refl a);refine⟨B,_,c92 (h:=(nb a).ad) g (show DE (nb a) _ _ from (k.ext u).t3) d G,?_⟩;rintro _ f ⟨v,W,ak,rfl,X,aa⟩;have x:=u.trans v.aa;have l:=k.ext x;refine⟨v.ag,[],Kq,_,ld B (l.c 6 _ B),GZ (Xo (h:=((nb a).aa f).ad) g (show BX ((nb a).aa f) _ _ _ _ from l.p6) d G) ?_⟩;have y:=AT (AA.refl ((nb a).aa f));have C:=l.ext y;refine⟨B,_,ld B (C.c 7 _ B),GZ (Xo (h:=(nb ((nb a).aa f)).ad) g (show BX (nb ((nb a).aa f)) _ _ _ _ from C.p7) d G) ?_⟩;have n8:=AT y;have E:=l.ext n8;refine⟨B,_,ld B (E.c 8 _ B),GZ (Xo (h:=(nb (nb ((nb a).aa f))).ad) g (show BX (nb (nb ((nb a).aa f))) _ _ _ _ from E.p8) d G) ?_⟩;have F:=(V.ext x).ext Jq;obtain⟨e,he⟩:∃e:CI,e=⟨st,W,Hm D.p6.n D.p6.w D.p6.ws i,Hm D.p7.n D.p7.w D.p7.ws i,Hm D.p8.n D.p8.w D.p8.ws i⟩:=⟨_,B⟩;obtain⟨H,ab,ad,ae⟩:=Own.bD (h:=(nb (nb (nb ((nb a).aa f)))).ad) Kq (F.dD (i:=0) B) (vs:=BV e) B (by show 0+5<=5;decide) B;have af:Own ((nb (nb (nb ((nb a).aa f)))).aa H) h.nx 114 (BV e):=ad.aa;subst he;refine⟨B,_,ab,_,EQ Kq af.cells B,(F.e.ah ae.aa (Ae _):AA h ((nb (nb (nb ((nb a).aa f)))).aa H)),_,B,⟨⟨R,X⟩,Im _ _ _ _,Im _ _ _ _,Im _ _ _ _⟩,by rw[Dt.bG,P,T,aa]⟩
def Avq (g:Base S L) {a b:Int}:Bk S L 1 123 [Vi a,Vi b] h λw J=>AA h J/\w=.func (.func 202) #[] #[AG h.nx 0,AG (h.nx+1) 0]/\Cell J h.nx 0 (Vi a)/\Cell J (h.nx+1) 0 (Vi b):=
 Cn f123 g λd l _=>by
  obtain⟨h1,b1,i,j,k⟩:=H1 Ax 3 (Vi a) h;obtain⟨m,c,e,f,n⟩:=H1 Ax 3 (Vi b) h1;rw[k] at c f;exact⟨_,_,b1,_,_,c,i.trans e,B,(j.cell B).ext e,f.cell B⟩
def c56 (a:Base S L) {D:Dt} (A:DT h b D):Bk S L 2 56 [AG b 0] h λw J=>AA h J/\w=.func (.func 202) #[] #[AG h.nx 0,AG (h.nx+1) 0]/\Cell J h.nx 0 (Vi 0)/\Cell J (h.nx+1) 0 (Vi D.p5.n):=
 Cn f56 a λd i _=>by
  refine⟨_,ld B (A.c 5 _ B),GZ (K3 a A.p5.1 d G) ?_⟩;refine⟨_,Avq a d G,?_⟩;rintro _ j ⟨e,rfl,f,g⟩;exact⟨e,B,f,g⟩
def ADq (l:Base S L) {f dy:Nat} (r:n<=100000000) (s:a<=100000000) (c:Nat->Y->Prop) (g:∀k b,c k b->Cell b p 0 (Vi a)/\Cell b q 0 (Vi n)) (h0:c 0 h)
 (m:∀k b,c k b->a+k<n->ZP S L dy (.yield f) [Vi ((a+k:Nat):Int)] b λu J=>u=.bool Ag/\c (k+1) J):
 Bk S L (dy+1) 202 [.func (.yield f) #[] #[],AG p 0,AG q 0] h λ_ J=>c (n-a) J:=
 Cn f202 l λd t v=>by
  refine⟨_,ld B (g 0 h h0).1,λi A b=>∃k:Nat,A=[(0,.func (.yield f) #[] #[]),(2,AG q 0),(4,Vi ((a+k:Nat):Int))]/\k<=n-a/\i=n-a-k/\c k b,
   ⟨_,_,Sq,G,0,B,Al _,B,h0⟩,?_⟩
  rintro i A b ⟨k,rfl,w,rfl,j⟩ x;refine⟨_,ld B (g k b j).2,Bz (λe=>?_) (λe=>?_)⟩
  .refine⟨_,m k b j G d G,?_⟩
   rintro _ y ⟨rfl,o⟩;exact⟨Pq,_,_,Sq,G,k+1,B,G,B,o⟩
  .obtain rfl:k=n-a:=G
   exact j
def c55 (M:Base S L) {D:Dt} (A:DT h b D) (hf:D.fits) (hp:Cell h p 0 (Vi a)) (hq:Cell h q 0 (Vi N)) (ha:a<=20000) (hn:N<=20000):
 Bk S L 12 55 [AG b 0,.func (.func 202) #[] #[AG p 0,AG q 0]] h λw J=>AA h J/\∃es:List CI,Dq J w es/\es.length=N-a/\(∀e∈es,e.small)/\es=(BG (N-a)).map λj=>D.bG ((a+j:Nat):Int):=
 Zd (fn:=f55) M Kq B λd ae=>by
  obtain⟨C,y1,s1⟩:=(Sep.nil h).box Ax 36 (AG b 0);obtain⟨c,y2,s2⟩:=s1.al (z:=.slice Z 0 0) Kq;have s3:=s2.add (a:=aS h.nx 114 5 (.slice Z 0 0) 0 []) (AA.refl _) (AS.nil _ _ _ _) (λi U=>U.elim);refine⟨Dc B,_,_,y1,_,_,y2 _,XI (τ:=Ax) (f:=202) (fn:=f202) Kq B,T3 λg aa=>?_⟩;have s4:=s3.add (a:=aB c.nx (.aq Ah)) (AA.new c (.aq Ah)) ⟨by rw[Ck];omega,by rw[CK,Bi B]⟩ (λi U=>A2 U.symm);have s5:=s4.add (a:=aB (A3 c.nx) (g .ready Z)) (AA.new _ (g .ready Z)) ⟨by rw[Ck,Ck];omega,by rw[CK,Ck,Bi B]⟩ (λi U=>by rw[Ck];exact A2 U.symm)
  let O:Nat->Y->Prop:=λk h2=>∃(cv:Aa) (es:List CI),es=(BG k).map (λj=>D.bG ((a+j:Nat):Int))/\(∀e∈es,e.small)/\Sep h h2 [aB (A3 c.nx) (g .ready Z),aB c.nx (.aq Ah),aS h.nx 114 5 cv es.length (es.flatMap BV),aO C.nx 24 [cv],aO h.nx 36 [AG b 0]]
  have hy:∀k y,O k y->a+k<N->ZP S L 10 (.yield (A3 c.nx)) [Vi ((a+k:Nat):Int)] y λu J=>u=.bool Ag/\O (k+1) J:=by
   rintro k y ⟨cv,es,E,P,s⟩ hk n af;obtain rfl:es.length=k:=by rw[E];simp
   obtain⟨m,rfl⟩:∃m,n=m+1:=⟨n-1,G⟩;refine aa m [(2,AG h.nx 0),(5,AG C.nx 0)] _ y _ (Sq) (s.a7 (i:=0) B) ?_;refine⟨s.a7 (i:=0) B,?_⟩;have r:=s.ah (i:=0) (a':=aB (A3 c.nx) (g .busy Z)) B (Er.put y (A3 c.nx) (g .busy Z)).ae ⟨by rw[Cc];exact(s.2.1 0 _ B).1.1,by rw[BQ,Bi B]⟩ (λx o=>.inl o);generalize y.put (A3 c.nx) (g .busy Z)=H at r⊢;refine⟨[],Kq,_,ld B ((r.dD (i:=3) B).cell B:Cell H C.nx 0 cv),_,ld B ((r.dD (i:=4) B).cell (i:=0) B:Cell H h.nx 0 (AG b 0)),_,ACy (h:=H.ad) M ((A.ext r.e).ext (AA.ad H)) hf (i:=((a+es.length:Nat):Int)) G m G,?_⟩;rintro _ T ⟨V,e,rfl,Q,ab⟩;have F:=r.bz V;obtain⟨gx,e1,W,h8,t8,K,hB⟩:=F.bo (st:=24) (t2:=24) (e:=114) (k:=5) Kq (i:=2) B (ys:=BV e) B B F.e.nx G (n':=(es++[e]).length) (xs':=(es++[e]).flatMap BV) (by simp) (by simp);obtain⟨h9,t9,R⟩:=K.stM (t:=24) B (i:=3) B (j:=0) (v:=W) (by show 0<1;decide) (D5 (K.sl (i:=2) B));subst e1;have ad:=R.ah (i:=0) (a':=aB (A3 c.nx) (g .ready Z)) B (Er.put _ (A3 c.nx) (g .ready Z)).ae ⟨by rw[Cc];exact(R.2.1 0 _ B).1.1,by rw[BQ,Bi B]⟩ (λx o=>.inl o);refine⟨V.ag,_,_,Iv (τ:=Ax) (t:=24) (e:=114) (k:=5) Kq (.agg ⟨BV e⟩) B B (by decide) _,_,_,t8,_,t9,.busy,Z,R.a7 (i:=0) B,B,W,es++[e],by rw[Acb,BS,←E,ab];rfl,λx o=>?_,ad⟩;rcases List.mem_append.1 o with o|o
   .exact P x o
   .rw[List.mem_singleton.1 o];exact Q
  refine⟨_,ADq M (a:=a) (n:=N) (dy:=10) G G O (λk y ⟨cv,es,_,_,s⟩=>⟨hp.ext s.e,hq.ext s.e⟩) ⟨_,[],B,(λe Q=>by cases Q),s5⟩ hy d G,?_⟩;rintro u X ⟨cv,es,E,P,r⟩;refine⟨.ready,Z,r.a7 (i:=0) B,(by intro h;cases h),?_⟩;have F:=r.ah (i:=0) (a':=aB (A3 c.nx) (g .exhausted Z)) B (Er.put X (A3 c.nx) (g .exhausted Z)).ae ⟨by rw[Cc];exact(r.2.1 0 _ B).1.1,by rw[BQ,Bi B]⟩ (λx o=>.inl o);generalize X.put (A3 c.nx) (g .exhausted Z)=T at F⊢;have K:Sep h T ([aS h.nx 114 5 cv es.length (es.flatMap BV),aO C.nx 24 [cv],aO h.nx 36 [AG b 0]]++Oc [c.nx]):=
   ((F.drop 1).perm (l':=[aS h.nx 114 5 cv es.length (es.flatMap BV),aO C.nx 24 [cv],aO h.nx 36 [AG b 0]]++Oc [c.nx]) (Gm _ _).symm)
  refine⟨_,ld B ((K.dD (i:=1) B).cell (i:=0) B),?_⟩;obtain⟨n1,n2,n3,n4⟩:=Sep.aq (l:=[aS h.nx 114 5 cv es.length (es.flatMap BV),aO C.nx 24 [cv],aO h.nx 36 [AG b 0]]) (D:=[c.nx]) K;exact JM _ n1 n2 λJ _ hc=>⟨(n4 J hc).e,es,((n4 J hc).sl (i:=0) B).rd,(by rw[E];simp:es.length=N-a),P,E⟩
def AEj (f:Base S L) {D:Dt} (A:DT h b D):Bk S L 1 203 [AG b 0] h λw J=>J=h/\w=Vi D.ps.length:=
 Cn f203 f λd g _=>by
  have a:=A.c 0 _ B;obtain⟨_,V,i,e,_⟩:=A.pos;rw[e] at a;exact⟨_,B,_,ld B a,B,B⟩
def ACt (m:Base S L) {D:Dt} (A:DT h b D) {i:Int}:Bk S L 1 204 [AG b 0,Vi i] h λw J=>J=h/\∃z:Int,w=Vi z/\(z=0\/∃q∈D.ps,z=q.2):=
 Cn f204 m λd r _=>by
  have j:=A.pos;have a:=A.c 0 _ B;obtain⟨_,V,s,e,_⟩:=A.pos;rw[e] at a j;refine⟨_,B,Bz (λn=>?_) (λn=>?_)⟩
  .exact⟨B,0,B,.inl B⟩
  refine⟨_,ld B a,Bz (λo=>?_) (λo=>?_)⟩
  .exact⟨B,0,B,.inl B⟩
  obtain⟨k,rfl⟩:∃k:Nat,i=k:=⟨i.toNat,G⟩;have g:k<D.ps.length:=G;obtain⟨a1,t,p,_,l⟩:=Rd.el j g;cases p;rw[flatK (f:=Mm) (λ_=>rfl) D.ps (Ab g)] at l;exact⟨_,ld B a,G,_,ld B (BK.at l B:Cell h a1.block (a1.off+(k:Int).toNat*2+1) (Vi D.ps[k].2)),B,_,B,.inr ⟨_,Bu g,B⟩⟩
def c75 (a:Base S L) {D:Dt} (A:DT h b D) {i j:Int}:Bk S L 4 75 [AG b 0,Vi i,Vi j] h λw J=>J=h/\w=Vi (Mz D.mn D.df D.ml i j):=
 Cn f75 a λd l _=>by
  obtain⟨m,e,f,g,k⟩:=A.cJ;refine⟨_,B,_,ld B (A.c 1 _ B),GZ (ADb a (show Vk h D.mb D.mn D.df D.ml from⟨e,f,D.mr,g,k⟩) d G) ?_⟩;exact⟨B,B⟩
def Afw {D:Dt} (f:D.fits) (i:Int):0<=Hm D.p4.n D.p4.w D.p4.ws i/\Hm D.p4.n D.p4.w D.p4.ws i<=20000:=by
 have h1:=f.1;refine⟨(Im _ _ _ _).1,?_⟩;unfold Hm;split
 .have:=f.2.2.2.2.2.2.2.1 i.toNat G
  omega
 .omega
def Dt.has (D:Dt) (e:CI):Prop:=e.small/\∃i:Nat,i<D.p5.n/\e=D.bG (i:Int)
def Awh (g:Base S L) {D:Dt} (A:DT h b D) (f:D.fits) {i:Int} (U:0<=i/\i<=1000000000):Bk S L 14 206 [AG b 0,Vi i] h λw J=>AA h J/\∃es:List CI,Dq J w es/\es.length<=20000/\∀e∈es,D.has e:=
 Cn f206 g λd H _=>by
  have f1:=f.1;refine⟨[],Kq,_,ld B (A.c 4 _ B),_,ld B (A.c 5 _ B),GZ (K3 (h:=h.ad) g (show Cell h _ _ _ from(A.p5:BX _ _ _ _ _).1) d G) ?_⟩;have m:=AT (AA.refl h);refine⟨B,GZ (AGe (h:=(nb h).ad) g (show BX (nb h) _ _ _ _ from (A.ext m).p4) G d G) ?_⟩;have t:=AT m;have u:=Afw f i;have v:0<=(if i+1<(D.p4.n:Int) then Hm D.p4.n D.p4.w D.p4.ws (i+1) else(D.p5.n:Int))/\(if i+1<(D.p4.n:Int) then Hm D.p4.n D.p4.w D.p4.ws (i+1) else(D.p5.n:Int))<=20000:=by
   have:=Afw f (i+1);split<;>omega
  obtain⟨a,o⟩:∃a:Nat,Hm D.p4.n D.p4.w D.p4.ws i=a:=⟨(Hm D.p4.n D.p4.w D.p4.ws i).toNat,G⟩;obtain⟨N,k⟩:∃N:Nat,(if i+1<(D.p4.n:Int) then Hm D.p4.n D.p4.w D.p4.ws (i+1) else(D.p5.n:Int))=N:=⟨(if i+1<(D.p4.n:Int) then Hm D.p4.n D.p4.w D.p4.ws (i+1) else(D.p5.n:Int)).toNat,G⟩
  rw[o] at u;rw[k] at v;refine⟨B,_,Avq (h:=(nb (nb h)).ad) g d G,?_⟩;rintro _ x ⟨p,rfl,y,z⟩;rw[o] at y;rw[k] at z;have q:=t.trans p.aa;refine⟨p.ag,_,c55 (h:=((nb (nb h)).aa x).ad) g (A.ext q).ad f Jq Jq G G d G,?_⟩;rintro w K ⟨r,es,C,M,E,F⟩;refine⟨r.ag,q.trans r.aa,es,Rd.aa C,G,λe l=>⟨E e l,?_⟩⟩;rw[F] at l;obtain⟨j,s,rfl⟩:=List.mem_map.1 l;have s:=List.mem_range.1 s;have O:N<=D.p5.n:=by
   split at k
   .unfold Hm at k
    split at k
    .have:=f.2.2.2.2.2.2.2.1 (i+1).toNat G;omega
    .omega
   .omega
  exact⟨a+j,G,B⟩
def AAp (a:Base S L) {D:Dt} (A:DT h b D) (f:D.fits) (i:s.size<=100000000):Bk S L 15 133 [AG b 0,.string s] h λw J=>AA h J/\∃es:List CI,Dq J w es/\es.length<=20000/\∀e∈es,D.has e:=
 Cn f133 a λd o _=>by
  refine⟨_,B,_,ld B (A.c 2 _ B),_,ABs a A.t2 i d G,?_⟩;rintro _ h1 ⟨g,k,p,rfl,q⟩;refine⟨_,_,B,Ad (λe=>?_) (λe=>?_)⟩
  .exact⟨g,[],(AS.nil h1 0 114 5).rd,Al _,λe j=>by cases j⟩
  .refine⟨_,Awh a (A.ext g) f G d G,?_⟩
   rintro w r ⟨l,es,E,m,n⟩;exact⟨g.trans l,es,E,m,n⟩
def Zb:∀es:List CI,(es.flatMap BV).all one=Ag
 |[]=>rfl
 |e::es=>by rw[Dg,Aph,Zb es];rfl
def Akf (p:Nat×Nat):AH:=[.int .i64 p.1,.int .i64 p.2]
def ADy (n:Base S L) {D:Dt} (A:DT h b D) (f:D.fits) (hs:s.size<=10000):Bk S L 16 129 [AG b 0,.string s] h λw J=>AA h J/\∃es:List CI,AS J h.nx 114 5 w es.length (es.flatMap BV)/\es.length<=20000*s.size/\∀e∈es,D.has e:=
 Cn f129 n λd ad hL=>by
  refine⟨_,B,_,ld B (A.c 2 _ B),_,ABu n A.t2 G d G,?_⟩;rintro O h1 ⟨p,a,P,Q,ae⟩;have u:Rd h1 O 2 a.length (a.flatMap Akf):=P.rd;have R:=u;obtain⟨_,T,V,rfl,af,ag,hA⟩:=u;refine⟨λy C j=>∃(k:Nat) (cv:Aa) (es:List CI),C=[(0,AG b 0),(5,cv),(15,.slice T a.length V),(16,Vi a.length),(17,Vi k)]/\k<=a.length/\y=a.length-k/\es.length<=20000*k/\(∀e∈es,D.has e)/\AA h1 j/\AS j h1.nx 114 5 cv es.length (es.flatMap BV),
   ⟨_,_,Sq,G,0,_,[],B,Al _,B,Al _,(λe g=>by cases g),AA.refl _,AS.nil _ _ _ _⟩,?_⟩
  rintro y C j ⟨k,cv,es,rfl,hk,rfl,ah,E,x,o⟩ ai;apply Bz<;>intro k1;rotate_left
  .exact⟨p.trans x,es,o.mono p.nx,by have:=Nat.mul_le_mul_left 20000 (show k<=s.size by omega);omega,E⟩
  have F:k<a.length:=G;obtain⟨a1,y1,W,_,H⟩:=(R.ext x).el F;cases W;rw[flatK (f:=Akf) (λ_=>rfl) a (Ab F)] at H;obtain⟨q,X⟩:∃q,q=a[k]:=⟨_,B⟩;have aj:=Q q Jq;rw[←X] at H;obtain⟨g1,z1,g2,z2,l⟩:=(Sep.nil j).var (t:=326) (z:=.agg #[Vi 0,Vi 0]) Kq (v:=.agg ⟨Akf q⟩) B B B;have aa:=(p.trans x).trans l.e;refine⟨G,_,EQ Kq Jq B,_,_,z1 _,_,z2,_,ld B ((l.dD (i:=0) B:Own g2 j.nx 326 (Akf q)).cell B),_,Awh n (A.ext aa) f G d G,?_⟩;rintro w3 h3 ⟨r,m,K,ak,ab⟩;have M:=(o.ext l.e).ext r;obtain⟨v4,h4,u1,N,u3,u4⟩:=UN Kq M (Rd.bu K) (Rd.src K) (HV (f:=BV) (λ_=>rfl) m) (Zb m) (((x.trans l.e).trans r).nx) (G:es.length+m.length<=1000000000);rw[←E0,←Aj] at N;refine⟨_,_,u1,Pq,_,_,Sq,G,k+1,v4,es++m,B,G,B,Jq,λe g=>?_,(((x.trans l.e).trans r).then u3 λi U=>M.ai i U:AA h1 h4),N⟩
  rcases List.mem_append.1 g with g|g
  .exact E e g
  .exact ab e g
def ACa (b:Base5 S L) (g:Ce h) (i:s.size<=100000000):Bk S L 7 124 [.string s] h λw J=>AA h J/\∃z:Int,w=Vi z/\(z=0->1<=El s/\El s<=64):=
 Cn f124 b.toBase λd j _=>by
  refine⟨_,c58 b g i d G,?_⟩;rintro _ h1 ⟨a,rfl⟩;refine Ad (λ_=>⟨a,_,B,λh=>Cf h (by decide)⟩) (λc=>?_);refine Ad (λ_=>⟨a,_,B,λh=>Cf h (by decide)⟩) (λe=>?_);exact Ad (λ_=>⟨a,_,B,λh=>Cf h (by decide)⟩) (λf=>⟨a,_,B,λ_=>by
   have c:=KK c;have e:=KK e;have f:=KK f;omega⟩)
def AEv (a:Base5 S L) (c:Ce h) (f:s.size<=100000000):Bk S L 9 131 [.string s] h λw J=>AA h J/\∃b:Bool,w=.bool b/\(b=Ag->s.size<=256):=
 Cn f131 a.toBase λd j _=>by
  refine⟨_,Auu a c (e:=⟨_,s,0,0,0⟩) (Ac (by rfl)) f d G,?_⟩;rintro _ h1 ⟨g,z,rfl,i⟩;exact⟨g,_,B,λh=>(i (Fp h)).2⟩
def ABi (m:Base S L) {es:List CI} (c:Dq h v es) (y:es.length<=1000000000) (n:YQ S L e fv h es λv=>∃b,v=.bool b):
 Bk S L (e+1) 208 [v,fv] h λw J=>AA h J/\∃z:Int,w=Vi z:=
 Cn f208 m λd C D=>by
  have o:=c;obtain⟨g,first,cap,rfl,p⟩:=n
  obtain⟨E,q,r,rfl,F,H,K⟩:=c;refine⟨λi A a=>∃k:Nat,A=[(0,.slice q es.length r),(1,.func (.func g) first cap),(7,Vi es.length),(8,Vi k)]/\k<=es.length/\i=es.length-k/\AA h a,
   ⟨_,_,Sq,G,0,B,Al _,B,AA.refl _⟩,?_⟩
  rintro i A a ⟨k,rfl,M,rfl,x⟩ N;apply Bz<;>intro O
  .have j:k<es.length:=G
   obtain⟨a1,P,s,_,t⟩:=(Rd.ext o x).el j;cases s;rw[flatK (f:=BV) (λ_=>rfl) es (Ab j)] at t;refine⟨G,_,EQ Kq Jq B,_,p _ Jq a x d G,?_⟩;rintro _ Q ⟨l,b,rfl⟩;refine Ad (λu=>?_) (λu=>?_)
   .exact⟨x.trans l,k,B⟩
   .exact⟨Pq,_,_,Sq,G,k+1,B,G,B,x.trans l⟩
  .exact⟨x,-1,B⟩
def AEc (a:Base S L) {es:List CI} (c:Dq h v es) (f:es.length<=1000000000) (g:YQ S L e fv h es λv=>∃b,v=.bool b):
 Bk S L (e+2) 132 [v,fv] h λw J=>AA h J/\∃b:Bool,w=.bool b:=
 Cn f132 a λd j _=>by
  refine⟨_,ABi a c f g d G,?_⟩;rintro _ h1 ⟨i,z,rfl⟩;exact⟨i,_,B⟩
def ABd (a:Base S L) {e:CI} (c:Cell h b 1 (.string s)):Bk S L 1 134 [.agg ⟨BV e⟩,AG b 0] h λw J=>AA h J/\∃b,w=.bool b:=
 Cn f134 a λd f _=>by
  obtain⟨g,y,x,o⟩:=PF e h;exact⟨_,_,y,_,ld B (o.cell B),_,ld B (c.ext x),_,B,x,_,B⟩
def ACg (a:Base S L) {D:Dt} (A:DT h b D) (l:D.ps.length<=100000000):Bk S L 2 127 [AG b 0] h λw J=>AA h J/\∃z:Nat,w=Vi z/\(z=0\/z<D.ps.length):=
 Cn f127 a λd m n=>by
  refine⟨λc f g=>∃k:Nat,f=[(0,AG b 0),(3,Vi k)]/\k<=D.ps.length+1/\c=D.ps.length+1-k/\AA h g,
   ⟨_,_,Sq,G,1,B,G,B,AA.refl _⟩,?_⟩
  rintro c f g ⟨k,rfl,o,rfl,x⟩ p;have i:=A.ext x;refine⟨_,AEj a i d G,?_⟩;rintro _ _ ⟨rfl,rfl⟩;apply Bz<;>intro e
  .refine⟨_,ACt a i d G,?_⟩
   rintro _ _ ⟨rfl,z,rfl,_⟩;refine Ad (λj=>?_) (λj=>?_)
   .exact⟨x,k,B,.inr G⟩
   .exact⟨Pq,_,_,Sq,G,k+1,B,G,B,x⟩
  .exact⟨x,0,B,.inl B⟩
def Lj (v:Aa):Prop:=∃z:Int,v=.int .i32 z
def LJ:∀(n:Nat) (l:Bl),(CA n l).length<=n/\∀v∈CA n l,Lj v
 |0,_=>⟨Ae _,λv a=>by cases a⟩
 |_+1,[]=>⟨Al _,λv a=>by cases a⟩
 |
  n+1,b::l=>by
  obtain⟨h1,c⟩:=LJ n ((b::l).drop (FF (b::l)).2);rw[CA];refine⟨Jq,λv a=>?_⟩;rcases List.mem_cons.1 a with rfl|a
  .exact⟨_,B⟩
  .exact c v a
def ADp (b:Base5 S L) (i:Ce h) (j:s.size<=100000000):Bk S L 6 125 [.string s] h λw J=>AA h J/\((FH s=Ah/\w=.tuple #[.slice Z 0 0,.bool Ah])\/∃l:AH,(FH s=Ag/\l=CA s.size s.data.toList)/\w=.tuple #[sL (J.nx-1) l.length l.length,.bool Ag]/\Own J (J.nx-1) 21 l/\h.nx<=J.nx-1/\l.length<=s.size/\∀v∈l,Lj v):=
 Cn f125 b.toBase λd k _=>by
  refine⟨_,b.valid i j d G,?_⟩;rintro _ h1 ⟨a,rfl⟩;refine⟨_,_,B,Ad (λe=>?_) (λe=>?_)⟩
  .exact⟨a,.inl ⟨by simpa using e,B⟩⟩
  obtain⟨l,c⟩:∃l,l=CA s.size s.data.toList:=⟨_,B⟩;obtain⟨f,g⟩:=LJ s.size s.data.toList;rw[←c] at f g;have nx:(HY h1 21 l).nx-1=h1.nx:=by unfold HY;rw[Ck];rfl
  refine⟨_,_,(by rw[c];rfl:Ea Ax 9 176 (.string s) h1=I (sL h1.nx l.length l.length,HY h1 21 l)),a.trans (AA.a4 h1 21 l),.inr ⟨l,Jq,?_,?_,?_,f,g⟩⟩
  .rw[nx];rfl
  .rw[nx];exact Own.a4 h1 21 l
  .rw[nx];exact a.nx
def Jt (v:Aa):Prop:=∃a b:Bd,v=.agg #[.string a,.string b]/\a.size<=400/\b.size<=400
def CZ (v:Aa):Prop:=∃z:Int,v=.int .i64 z/\0<=z/\z<=30000
def Axg (a b c d:Bd):IZ Ax Op.maxDepth 238 (.agg #[Sg a,Sg b]) (.agg #[Sg c,Sg d])=I (Gp a.data.toList c.data.toList&&Gp b.data.toList d.data.toList):=by
 rw[(by rfl:IZ Ax Op.maxDepth 238 (.agg #[Sg a,Sg b]) (.agg #[Sg c,Sg d])=(match I (Gp a.data.toList c.data.toList) with|some Ag=>(match I (Gp b.data.toList d.data.toList) with|some Ag=>I Ag|some Ah=>I Ah|none=>Z)|some Ah=>I Ah|none=>Z))]
 cases Gp a.data.toList c.data.toList<;>cases Gp b.data.toList d.data.toList<;>rfl
def XA:K8 Ax 238 Jt:=by
 rintro _ ⟨a,b,rfl,_⟩;refine⟨B,?_⟩;rintro _ ⟨c,d,rfl,_⟩;refine⟨_,Axg a b c d,λh=>?_⟩;rw[An] at h;obtain rfl:=CJ.1 h.1;obtain rfl:=CJ.1 h.2;show((Cy (Sg a) (Sg a))&&((Cy (Sg b) (Sg b))&&Ag))=Ag;have e:Cy (Sg a) (Sg a)=true:=h.1;have f:Cy (Sg b) (Sg b)=true:=h.2;rw[e,f];rfl
def ACs (O:Base S L) {c:List RT} (p:Ls h v c) (hn:c.length<=100000000) (P:∀x∈c,x.1.size<=400/\x.2.size<=400):Bk S L 1 126 [v] h λw J=>AA h J/\∃r,w=.map (I r)/\Avm J r Jt CZ c.length/\h.nx<=r:=
 Cn f126 O λd ad hL=>by
  have Q:=p;obtain⟨hr,R,T,rfl,ae,af,hA⟩:=p;have V:=(Sep.nil h).add (a:=PW h.nx Jt CZ 0) (AA.new h (.map [] 0)) ⟨Gy.new h _ _,[],0,by rw[CK,Bi B],Ae _⟩ λi U=>A2 U.symm;refine⟨λC A l=>∃k:Nat,A=[(3,.map (I h.nx)),(8,.slice R c.length T),(9,Vi c.length),(10,Vi k)]/\k<=c.length/\C=c.length-k/\Sep h l [PW h.nx Jt CZ k],
   ⟨_,_,Sq,G,0,B,Al _,B,V⟩,?_⟩
  rintro C A l ⟨k,rfl,hk,rfl,s⟩ ag;apply Bz<;>intro k1;rotate_left
  .obtain rfl:k=c.length:=G
   exact⟨s.e,h.nx,B,(s.2.1 0 _ B).1,Ae _⟩
  have o:k<c.length:=G;obtain⟨a1,y1,W,_,m⟩:=(Rd.ext Q s.e).el o;cases W;rw[flatK (f:=Qm) (λ_=>rfl) c (Ab o)] at m;obtain⟨⟨a,b,n⟩,D⟩:∃q,q=c[k]:=⟨_,B⟩;have E:a.size<=400/\b.size<=400:=by
   have:=P _ (Bu o);rw[←D] at this;exact this
  rw[←D] at m;obtain⟨g1,X,u,z2,F⟩:=s.var (t:=59) (z:=.agg #[Sg ⟨#[]⟩,Sg ⟨#[]⟩,Vi 0]) Kq (v:=.agg ⟨Qm ⟨a,b,n⟩⟩) B B B;have H:=F.dD (i:=0) B;obtain⟨g3,z3,g,z4,j⟩:=F.var (t:=238) (z:=.agg #[Sg ⟨#[]⟩,Sg ⟨#[]⟩]) Kq (v:=.agg #[Sg a,Sg b]) B B B;obtain⟨lv,bb,l1,l2,l3⟩:=QH (t:=231) (et:=3) Kq XA (z:=Vi 0) Kq (j.cz (i:=2) B) ⟨a,b,B,E⟩ Ah;obtain⟨x,rfl,K⟩:CZ lv:=by
   cases bb with
   |true=>exact l2 B
   |false=>rw[l3 B];exact⟨0,B,by decide,by decide⟩
  have M:Bw Ax 238 g.ad u.nx 0=I (.agg #[Sg a,Sg b]):=EQ Kq (show BK g u.nx 0 [Sg a,Sg b] from (j.dD (i:=0) B:Own g u.nx 238 [Sg a,Sg b]).cells) B;have c2:Cell g l.nx 2 (Vi n):=(j.dD (i:=1) B:Own g l.nx 59 [Sg a,Sg b,Vi n]).cell B;refine⟨G,_,EQ (k:=3) Kq Jq B,_,_,X _,_,z2,_,ld B (H.cell (i:=0) B),_,ld B (H.cell (i:=1) B),_,_,z3 _,_,z4,[],Kq,_,M,_,M,_,_,Cs (CN g.ad) l1,_,ld B c2,?_⟩;intro z hz y hy;obtain⟨h5,N,m5,v5⟩:=Aju (h:=g.ad) (τ:=Ax) (t:=231) (kt:=238) (et:=3) Kq XA (show Gy g h.nx Jt CZ from j.cz (i:=2) B) (k:=.agg #[Sg a,Sg b]) (v:=Vi y) ⟨a,b,B,E⟩ ⟨y,B,G,G⟩;obtain⟨_,es,ck,ah,ai⟩:=(j.2.1 2 _ B).1;obtain⟨aa,ab,m,q2⟩:=Zj (h:=g.ad) N Jq;have s5:=(j.aZ (i:=2) (a':=PW h.nx Jt CZ (k+1)) B v5.ae ⟨m5,aa,ab,m,G⟩ (λx K=>.inl K)).drop 2;exact⟨_,_,(by rw[N];rfl:Nb (BH Ax 231 (.map (I h.nx)) (.agg #[Sg a,Sg b]) (Vi y) g.ad)=I (.tuple #[],h5)),Pq,_,_,Sq,G,k+1,B,G,B,s5⟩
def slS (a:m<=s.size):C7 Ax 9 (.string s) Z (I (Vi (m:Int))) Z=I (.string (EY ((s.data.toList.drop 0).take (m-0)))):=by
 show(bif Ar 0 m&&Ar m s.size then I (Value.string (EY ((s.data.toList.drop 0).take (m-0)))) else Z)=_
 rw[Aq a];rfl
def Azn (a:Base S L) {t:Bd}:Bk S L 1 207 [.string s,.string t] h λw J=>J=h/\∃b:Bool,w=.bool b/\(b=Ag->t.size<=s.size):=
 Cn f207 a λd c _=>by
  refine Bz (λe=>?_) (λe=>?_)
  .exact⟨_,_,Cs (CN _) (slS G),_,B,B,_,B,λ_=>G⟩
  .exact⟨B,Ah,B,λh=>by cases h⟩
def AGo (a:Base S L) {t:Bd}:Bk S L 2 130 [.string s,.string t] h λw J=>J=h/\∃b:Bool,w=.bool b/\(b=Ag->t.size<=s.size):=
 Cn f130 a λd c _=>by
  refine⟨_,Azn a d G,?_⟩;rintro _ _ ⟨rfl,b,rfl,hb⟩;exact⟨B,b,B,hb⟩
def Rd.rune (r:Rd h v 1 n xs) (a:∀u∈xs,Lj u) (b:k<n):∃A c z,v=.slice (I A) n c/\Cell h A.block (A.off+k*1+0) (.int .i32 z):=by
 have f:xs.length=n:=by have:=r.1;omega
 obtain⟨A,c,e,_,q⟩:=r.el b;obtain⟨z,d⟩:=a xs[k] Jq;refine⟨A,c,z,e,q.at ?_⟩;rw[LS,Bi Jq,Eg,BJ,UL,Ab G,d]
def AAu (o:Base S L) (Q:n<=100000000) (p:∀u∈xs,Lj u) (U:i<n) (x c:Y->Prop) (s:∀a,c a->Rd a v 1 n xs) (h0:x h) (F:Rd h v 1 n xs)
 (H:∃g first cap,fv=.func (.func g) first cap/\(∀a,x a->Bk S L e g (first.toList++[Vi ((i+1:Nat):Int),Vi 10000]++cap.toList) a λ_ J=>c J)/\∀(z k:Nat) a,c a->i<z->z<=n->k<=10000->Bk S L e g (first.toList++[Vi z,Vi k]++cap.toList) a λ_ J=>c J):
 Bk S L (e+3) 135 [v,Vi i,fv] h λ_ J=>c J:=
 Cn f135 o λd R T=>by
  obtain⟨g,first,cap,rfl,K,q⟩:=H
  obtain⟨f,M,V,rfl,W⟩:=F.rune p U;refine⟨Pq,?_⟩;rw[(G:(i:Int)+1=((i+1:Nat):Int))];refine⟨_,K h h0 d G,?_⟩;rintro _ h1 N;refine⟨λy A a=>∃k:Nat,A=[(0,.slice (I f) n M),(1,Vi i),(2,.func (.func g) first cap),(6,Vi k)]/\k<=n/\y=n-k/\c a,
   ⟨_,_,Sq,G,i,B,G,B,N⟩,?_⟩
  rintro y A a ⟨k,rfl,X,rfl,j⟩ aa;apply Bz<;>intro b1
  .obtain⟨C,D,r,l,m⟩:=(s a j).rune p (show k<n by omega)
   cases l;refine⟨G,_,ld B m,_,c68 o d G,?_⟩;rintro _ a ⟨rfl,cl,rfl,_⟩;refine Ad (λE=>?_) (λE=>?_)
   .exact⟨Pq,_,_,Sq,G,k+1,B,G,B,j⟩
   .clear E
    refine⟨Pq,Ad (λa1=>?_) (λa1=>?_)⟩
    .apply Bz<;>intro O
     .refine⟨_,q k 9000 a j Jq G G d G,?_⟩
      rintro _ t b;exact b
     .obtain⟨C,D,r,l,m⟩:=(s a j).rune p (show i-1<n by omega)
      cases l;have P:Cell a f.block (f.off+((i:Int)-1).toNat*1+0) (.int .i32 r):=by rw[show((i:Int)-1).toNat=i-1 by omega];exact m
      refine⟨Pq,G,_,ld B P,_,c68 o d G,?_⟩;rintro _ a ⟨rfl,cl,rfl,_⟩;refine Ad (λw=>?_) (λw=>?_)
      .refine⟨_,q k 9000 a j Jq G G d G,?_⟩
       rintro _ t b;exact b
      .exact j
    .exact j
  .refine⟨Pq,Ad (λa1=>?_) (λa1=>?_)⟩
   .apply Bz<;>intro O
    .refine⟨_,q k 9000 a j Jq G G d G,?_⟩
     rintro _ t b;exact b
    .obtain⟨C,D,r,l,m⟩:=(s a j).rune p (show i-1<n by omega)
     cases l;refine⟨Pq,G,_,ld B (by rw[show((i:Int)-1).toNat=i-1 by omega];exact m:Cell a f.block (f.off+((i:Int)-1).toNat*1+0) (.int .i32 r)),_,c68 o d G,?_⟩;rintro _ a ⟨rfl,cl,rfl,_⟩;refine Ad (λw=>?_) (λw=>?_)
     .refine⟨_,q k 9000 a j Jq G G d G,?_⟩
      rintro _ t b;exact b
     .exact j
   .exact j
section
variable{τ:Bb} {call:Be}
def Axf {S:A9} {L n:Nat} {f:Au} {fn:BC} {e:Ai} {i:KR} (r:τ.fn.get f=I fn) (s:S.hk f=Z) (t:S.ov f=Z) (u:S.nd f=I e) (U:τ.aj.get e=I i) {a:AH} {h:Y} {m:Nat} {l:AH}
 (w:Dv l l=Ag) (z:m=0->l=[.pointer Z]) (c:MT Ag τ (B8 τ S L n) L fn a h.ad λv J=>J.lo.ag h.nx=Ag/\MB J h.nx e i.size v=I (m,l)):
 Cd (B8 τ S L (n+1)) (.func f) a h λv J=>(m=0/\v=.slice Z 0 0/\J=h)\/(m≠0/\v=.slice (I ⟨h.nx,0,Z⟩) m m/\J=HY h e l):=by
 obtain⟨o,A,C,d⟩:=Apm (W1 (p:=λx=>x=.flat m l)) (kp:=λ_ _ _=>Z) (k:=λ_ v J=>bif J.lo.ag h.nx then(match MB J h.nx e i.size v with|some (n,l)=>I [.flat n l]|none=>Z) else Z) S L r s c λv J g=>by
  rw[g.1,g.2];exact⟨_,B,by simp,λx D=>List.mem_singleton.1 D⟩
 have E:ndK τ S (λk=>DY τ S (B8 τ S L n) L f a h.ad k (λ_ _=>Z)) f h=J3 h e (I o):=by
  unfold ndK;simp only[u,U];exact Cs (J3 h e) A
 cases o with
 |nil=>exact Cf B C
 |
  cons x o=>
  obtain rfl:=d x Av;have F:o.all (λx=>match x with|.flat n' l'=>Am n' m&&Dv l l'|_=>Ah)=true:=List.all_eq_true.2 λy H=>by
   obtain rfl:=d y (Az _ H);simp only[w,Mh];exact Mi m
  have j:J3 h e (I (.flat m l::o))=(bif Am m 0 then(match l with|[.pointer Z]=>I (.slice Z 0 0,h)|_=>Z) else I (.slice (I ⟨h.nx,0,Z⟩) m m,HY h e l)):=by
   have K:J3 h e (I (.flat m l::o))=(bif o.all (λx=>match x with|.flat n' l'=>Am n' m&&Dv l l'|_=>Ah) then(bif Am m 0 then(match l with|[.pointer Z]=>I (.slice Z 0 0,h)|_=>Z) else I (.slice (I ⟨h.nx,0,Z⟩) m m,HY h e l)) else Z):=rfl
   rw[K,F];rfl
  have q:∀v J,J3 h e (I (.flat m l::o))=I (v,J)->∀k kp,B8 τ S L (n+1) (.func f) a h k kp=k v J:=λv J M k kp=>by
   simp only[B8,t,E,M]
  by_cases b:m=0
  .have N:=z b
   subst b N;exact⟨_,_,.inl ⟨B,B,B⟩,q _ _ (by rw[j];rfl)⟩
  .refine⟨_,_,.inr ⟨b,B,B⟩,q _ _ ?_⟩
   rw[j,show Am m 0=Ah from Bool.eq_false_iff.2 λe=>b (Af e)];rfl
end
section
variable{S:A9} {L:Nat}
def YC:Nat->DC->Code:=UE (motive:=λ_=>DC->DC) (λ_=>.skip) λ_ d c=>match c with
 |.seq a b=>.seq a (d b)
 |c=>c
def Vf:Nat->DC->Code:=UE (motive:=λ_=>DC->DC) (λc=>c) λ_ a c=>match c with
 |.seq _ b=>a b
 |_=>.skip
def S1 {τ:Bb} {d:Be} {L:Nat} {ro:Option Nat}:∀(n:Nat) (c:DC) (K:Kt) (fr:Fr) (h:Y),
 B7 τ d L ro c K fr h=B7 τ d L ro (YC n c) {n:=λfr h=>B7 τ d L ro (Vf n c) K fr h,x:=K.x,r:=K.r,p:=K.p} fr h
 |0,_,_,_,_=>rfl
 |
  n+1,c,K,fr,h=>by
  cases c with
  |
   seq a b=>
   show B7 τ d L ro a {n:=λfr h=>B7 τ d L ro b K fr h,x:=K.x,r:=K.r,p:=K.p} fr h=B7 τ d L ro a {n:=λfr h=>B7 τ d L ro (YC n b) {n:=λfr h=>B7 τ d L ro (Vf n b) K fr h,x:=K.x,r:=K.r,p:=K.p} fr h,x:=K.x,r:=K.r,p:=K.p} fr h;congr 2;funext fr h;exact S1 n b K fr h
  |_=>rfl
def Afm (τ:Bb) (a:Be) (L:Nat) (fn:BC) (n:Nat) (b:As->Y->Prop) (d:AH) (h:Y) (Q:Aa->Y->Prop):Prop:=
 match fn.body with
 |some c=>(d.length<=fn.ntmps)/\J2 τ a L fn.ntmps (YC n c)
  (kp (λA h=>∃e,Sub e A/\b e h) (λ_ _ _=>False) (λA h=>Ex τ A h fn.results.toList (λvs=>Q (Ff vs) h))) (PJ d 0) h/\
  ∀A h,b A h->J2 τ a L fn.ntmps (Vf n c) (kp (λA h=>Ex τ A h fn.results.toList (λvs=>Q (Ff vs) h)) (λ_ _ _=>False) (λA h=>Ex τ A h fn.results.toList (λvs=>Q (Ff vs) h))) A h
 |none=>False
def Nu (g:Base S L) {d:Nat} {f:Au} {fn:BC} {b:AH} {h:Y} {Q:Aa->Y->Prop} (i:Ax.fn.get f=I fn) (k:Nf.contains f=Ah) (m:Nat) (l:As->Y->Prop)
 (H:∀n,d<=n->Afm Ax (B8 Ax S L n) L fn m l b h Q):Bk S L (d+1) f b h Q:=by
 intro n D;obtain⟨q,rfl⟩:∃q,n=q+1:=⟨n-1,by omega⟩;obtain⟨o,p,s⟩:=g.plain f k;have c:=H q (by omega);unfold Afm at c;split at c
 case h_2=>cases c
 rename_i u;obtain⟨a,c,w⟩:=c;refine P1.cd o p ?_;simp only[QM i s u a];rw[funext λy:(Aa->Y->RR)×(Aa->Y->RR)=>S1 m _ (Qt Ax S fn y.1 y.2) _ _];exact La W0 R3 L _ _ _ _ _ () _ h c (TB a) B B ⟨λfr h _ A x z r ⟨e,C,j⟩=>La W0 R3 L _ _ _ _ e () fr h (w e h j) (λt v a=>r t v (C t v a)) x z Acv,λ_ _ _ _ _ _ _ _ c=>c.elim,Acv.r,λ_ _ _ _ _ _ _ _ c=>c.elim⟩
def PE (S:A9) (L:Nat) (d:Nat) (f:Au) (a:AH) (h:Y) (Q:Aa->Y->Prop):Prop:=∀n,d<=n->CdA (B8 Ax S L n) (.func f) a h Q
def Bk.any {d:Nat} {f:Au} {a:AH} {h:Y} {Q:Aa->Y->Prop} (c:Bk S L d f a h Q):PE S L d f a h Q:=λn b=>(c n b).any
def GU (b:Base S L) {d:Nat} {f:Au} {fn:BC} {a:AH} {h:Y} {Q:Aa->Y->Prop} (c:Ax.fn.get f=I fn) (e:Nf.contains f=Ah)
 (H:∀n,d<=n->MT Ag Ax (B8 Ax S L n) L fn a h Q):PE S L (d+1) f a h Q:=by
 intro n k;obtain⟨q,rfl⟩:∃q,n=q+1:=⟨n-1,by omega⟩;obtain⟨g,i,j⟩:=b.plain f e;exact Afo (m:=Ag) c j g i (H q (by omega))
end
def TV:∀{es:List Ap} {ck lo:Nat},Fc ck lo es=Ag->∀e∈es,lo<=e.born/\e.born<ck
 |[],_,_,_,e,a=>by cases a
 |
  x::es,ck,lo,h,e,a=>by
  simp only[Fc,An,AK] at h;have h1:=Ac h.1.1;rcases List.mem_cons.1 a with rfl|a
  .exact⟨h1,h.1.2⟩
  .have:=TV h.2 e a
   exact⟨G,this.2⟩
def P3:∀{es:List Ap} {ck lo:Nat},Fc ck lo es=Ag->es.Nodup/\∀e∈es,∀a∈es,e.born=a.born->e=a
 |[],_,_,_=>⟨Jg,λe b=>by cases b⟩
 |
  x::es,ck,lo,h=>by
  simp only[Fc,An] at h;obtain⟨f,g⟩:=P3 h.2;have d:∀e∈es,x.born<e.born:=λe b=>(TV h.2 e b).1;refine⟨List.nodup_cons.2 ⟨λi=>W7 _ (d x i),f⟩,λe b a j hb=>?_⟩;rcases List.mem_cons.1 b with h1|h1<;>rcases List.mem_cons.1 j with c|c
  .rw[h1,c]
  .have:=d a c;rw[h1] at hb;omega
  .have:=d e h1;rw[c] at hb;omega
  .exact g e h1 a c hb
structure It (h:Y) (r m:Nat) (es sn:List Ap):Prop where
 lt:r<h.nx
 m:m<h.nx/\∃ck last,h.t.get m=I (.map es ck)/\Fc ck 0 es=Ag/\h.t.get r=I (.ay (I m) ck (sn.map (·.born)) last)/\(sn≠[]->last=ck)
 sub:∀e∈sn,e∈es
 nd:sn.Nodup
def It.new {τ:Bb} {t kt et:Ai} (a:τ.ds.get t=I (.map kt et)) {h:Y} {m:Nat} {es:List Ap} {ck:Nat} (d:m<h.nx) (h1:h.t.get m=I (.map es ck)) (b:Fc ck 0 es=Ag):
 ∃J,Gh τ t (.map (I m)) h=I (AG h.nx 0,J)/\AA h J/\It J h.nx m es []/\J.nx=h.nx+1:=by
 refine⟨h.new (.ay (I m) ck [] ck),?_,AA.new _ _,⟨by rw[Ck];omega,⟨by rw[Ck];omega,ck,ck,by rw[CK,Bm G];exact h1,b,by rw[CK,Bi B];rfl,λ_=>rfl⟩,(λe c=>by cases c),Jg⟩,Ck _ _⟩;unfold Gh;rw[a];simp only[h1]
def It.ae {W:Nat->Prop} {h J:Y} {r m:Nat} {es sn:List Ap} (i:It h r m es sn) (c:B0 W h J) (f:¬W r) (g:¬W m):It J r m es sn:=by
 obtain⟨a,⟨b,ck,j,c1,k,c3,c4⟩,d,e⟩:=i;exact⟨AC a c.nx,⟨AC b c.nx,ck,j,by rw[c.t m b g];exact c1,k,by rw[c.t r a f];exact c3,c4⟩,d,e⟩
def It.ext {h J:Y} {r m:Nat} {es sn:List Ap} (i:It h r m es sn) (x:AA h J):It J r m es sn:=i.ae (x.ae λ_=>False) (λh=>h) λh=>h
def It.len {h:Y} {r m:Nat} {es sn:List Ap} (i:It h r m es sn):sn.length<=es.length:=i.nd.length_le_of_subset i.sub
def It.all {h:Y} {r m:Nat} {es sn:List Ap} (i:It h r m es sn) (a:∀e∈es,e∈sn):sn.Perm es:=by
 obtain⟨_,ck,c,_,b,_⟩:=i.m;exact(List.perm_ext_iff_of_nodup i.nd (P3 b).1).2 λe=>⟨i.sub e,a e⟩
def Aon {h:Y} {r m:Nat} {es sn:List Ap} (i:It h r m es sn) {k:Aa->Y->Prop} (h1:(∀e∈es,e∈sn)->k (.tuple #[.bool Ah]) h)
 (w:∀e,e∈es->e∉sn->∀J,Er r h J->It J r m es (sn++[e])->k (.tuple #[.bool Ag,e.key,e.val]) J):∃x l,FT (AG r 0) Ah h=I (x::l)/\∀u J,(u,J)∈x::l->k u J:=by
 obtain⟨a,⟨b,ck,y,c1,o,c3,c4⟩,d,e⟩:=i;have H:=(P3 o).2;have K:r≠m:=λg=>by rw[g,c1] at c3;cases c3
 have L:(!(sn.map (·.born)).isEmpty&&!es.isEmpty&&es.all (λe=>Ar y e.born))=false:=by
  cases sn with
  |nil=>rfl
  |
   cons x sn=>
   have z:=d x Av;have O:=c4 (by simp);have:es.all (λe=>Ar y e.born)=false:=by
    rw[MK];intro g;have h1:=Ac (List.all_eq_true.1 g x z);have w:=(TV o x z).2;omega
   rw[this,Bool.and_false]
 have M:es.all (λe=>AD e.born ck)=true:=List.all_eq_true.2 λe p=>by rw[AK];exact(TV o e p).2
 have A:∀F,es.filter (λe=>!(sn.map (·.born)).contains e.born)=F->FT (AG r 0) Ah h=(match F with
  |[]=>I [(.tuple #[.bool Ah],h)]
  |l=>I (l.map λe=>(.tuple #[.bool Ag,e.key,e.val],h.put r (.ay (I m) ck (sn.map (·.born)++[e.born]) ck)))):=λF j=>by
  subst j;unfold FT;simp only[AG,c3,c1,L,M,I0,D1];rfl
 cases j:es.filter (λe=>!(sn.map (·.born)).contains e.born) with
 |
  nil=>
  refine⟨_,[],A _ j,λu J s=>?_⟩;cases List.mem_singleton.1 s;refine h1 λe p=>?_;have:=List.filter_eq_nil_iff.1 j e p;simp only[Bool.not_eq_true',Bool.not_eq_false,Ace,decide_eq_true_eq] at this;obtain⟨C,n,t⟩:=List.mem_map.1 this;rw[H e p C (d C n) t.symm];exact n
 |
  cons x l=>
  refine⟨_,_,A _ j,λu J s=>?_⟩;rw[←Bp (f:=λe:Ap=>((.tuple #[.bool Ag,e.key,e.val]:Aa),h.put r (.ay (I m) ck (sn.map (·.born)++[e.born]) ck)))] at s;obtain⟨v,n,c⟩:=List.mem_map.1 s;cases c;rw[←j] at n;obtain⟨t,D⟩:=List.mem_filter.1 n;have E:v∉sn:=λg=>by
   have:(sn.map (·.born)).contains v.born=true:=by
    rw[Ace,decide_eq_true_eq];exact List.mem_map.2 ⟨v,g,B⟩
   rw[this] at D;cases D
  refine w v t E _ (Er.put _ _ _) ⟨by rw[Cc];exact a,⟨by rw[Cc];exact b,ck,ck,by rw[BQ,Bm K.symm];exact c1,o,by rw[BQ,Bi B,BS];rfl,λ_=>rfl⟩,λq c=>?_,?_⟩
  .rcases List.mem_append.1 c with c|c
   .exact d q c
   .rw[List.mem_singleton.1 c];exact t
  .rw[List.nodup_append]
   refine⟨e,by simp,λq c P N g=>?_⟩;rw[g,List.mem_singleton.1 N] at c;exact E c
def QO {h:Y} {r m:Nat} {es sn:List Ap} {e:Ap} (i:It h r m es (sn++[e])):Ou (AG r 0) h=I (.tuple #[e.key,e.val]):=by
 obtain⟨a,⟨b,ck,c,c1,j,c3,c4⟩,d,_⟩:=i;have g:=d e (by simp);have k:=c4 (by simp);subst k;have l:es.find? (λx=>x.born==e.born)=I e:=by
  cases f:es.find? (λx=>x.born==e.born) with
  |none=>have:=List.find?_eq_none.1 f e g;simp at this
  |
   some x=>
   have h1:=List.find?_some f;have n:=List.mem_of_find?_eq_some f;rw[(P3 j).2 x n e g (by simpa using h1)]
 unfold Ou;simp only[AG,c3,BS,Bp,List.map_nil,List.getLast?_concat,c1];rw[show Am c c=Ag from Mi c];simp only[D1,l]
def Yu (r m:Nat) (es sn:List Ap):Ct:={
 am:=λi=>i=r\/i=m
 holds:=λh=>It h r m es sn
 aH:=λc f o=>o.ae c (f r (.inl B)) (f m (.inr B))
 lt:=λo i U=>by rcases U with rfl|rfl;exact o.lt;exact o.m.1
 bk:=λ{h J} o=>by
  obtain⟨a,⟨b,c⟩,d,e⟩:=o;exact⟨by rw[CL];exact a,⟨by rw[CL];exact b,by rw[DF];exact c⟩,d,e⟩}
section
variable{h0 h:Y} {l:List Ct} {i r m:Nat} {es sn:List Ap}
def Sep.it (s:Sep h0 h l) (U:l[i]?=I (Yu r m es sn)):It h r m es sn:=(s.2.1 i _ U).1
def Sep.cN {τ:Bb} {t kt et:Ai} (c:τ.ds.get t=I (.map kt et)) (s:Sep h0 h l) {a:Ct} (U:l[i]?=I a) (b:∀x,a.am x↔x=m) {ck:Nat} (h1:h.t.get m=I (.map es ck)) (d:Fc ck 0 es=Ag):
 ∃J,Gh τ t (.map (I m)) h=I (AG h.nx 0,J)/\Sep h0 J (l.set i (Yu h.nx m es [])):=by
 obtain⟨J,e,f,g,_⟩:=It.new c (a.lt (s.2.1 i _ U).1 m ((b m).2 rfl)) h1 d;exact⟨J,e,s.ah U (f.ae _) g λx j=>by rcases j with rfl|rfl;exact .inr (Ae _);exact .inl ((b _).2 rfl)⟩
def Sep.cO (s:Sep h0 h l) (U:l[i]?=I (Yu r m es sn)) {k:Aa->Y->Prop} (h1:(∀e∈es,e∈sn)->k (.tuple #[.bool Ah]) h)
 (b:∀e,e∈es->e∉sn->∀J,Sep h0 J (l.set i (Yu r m es (sn++[e])))->k (.tuple #[.bool Ag,e.key,e.val]) J):∃x l,FT (AG r 0) Ah h=I (x::l)/\∀u J,(u,J)∈x::l->k u J:=
 Aon (s.it U) h1 λe c d J u f=>b e c d J (s.ah U (u.ae.mono λx a=>.inl a) f λx a=>.inl a)
end
structure Cm {α:Type} (c:α->α->Int):Prop where
 cD:∀a,c a a=0
 aQ:∀a b,c a b<0↔0<c b a
 tr:∀a b d,c a b<=0->c b d<=0->c a d<=0
def Cm.lt {α:Type} {c:α->α->Int} (C:Cm c) {a b d:α} (h1:c a b<=0) (e:c b d<=0) (h:c a b<0\/c b d<0):c a d<0:=by
 have a1:=C.aQ a d;have f:=C.aQ d a;have g:=C.aQ a b;have i:=C.aQ b a;have j:=C.aQ b d;have k:=C.aQ d b;have t2:=C.tr d a b;have t3:=C.tr b d a;omega
def Cm.proj {α e:Type} {c:e->e->Int} (C:Cm c) (f:α->e):Cm λa b=>c (f a) (f b):=⟨λa=>C.cD _,λa b=>C.aQ _ _,λa b d=>C.tr _ _ _⟩
def orI (x y:Int):Int:=if x=0 then y else x
def Cm.or {α:Type} {c1 f:α->α->Int} (c:Cm c1) (e:Cm f):Cm λa b=>orI (c1 a b) (f a b):=by
 refine⟨λa=>?_,λa b=>?_,λa b d=>?_⟩
 .simp[orI,c.cD,e.cD,if_true]
 .have a1:=c.aQ a b;have g:=c.aQ b a;have h:=e.aQ a b
  simp[orI];split<;>split<;>omega
 .have t1:=c.tr a b d;have t2:=e.tr a b d
  have i:=@Cm.lt α c1 c a b d;simp[orI];split<;>split<;>split<;>omega
def cmI:Cm Dx:=by
 refine⟨λa=>?_,λa b=>?_,λa b d=>?_⟩<;>simp[Dx]<;>(repeat' split)<;>omega
def Lw:∀a b:Bl,KJ a b=Ag->KJ b a=Ag->False
 |_,[],h,_=>by cases‹Bl›<;>cases h
 |[],_::_,_,h=>by cases h
 |
  x::a,y::b,h1,c=>by
  rw[KJ] at h1 c;cases d:AD x.toNat y.toNat<;>cases f:AD y.toNat x.toNat<;>rw[d] at h1<;>rw[f] at c
  .cases hb:Am x.toNat y.toNat
   .rw[hb] at h1;cases h1
   .rw[hb] at h1
    have e:=Af hb;rw[←e,show Am x.toNat x.toNat=Ag from Mi _] at c;exact Lw a b h1 c
  .have:=Ac f
   cases hb:Am x.toNat y.toNat
   .rw[hb] at h1;cases h1
   .have e:=Af hb;omega
  .have:=Ac d
   cases hb:Am y.toNat x.toNat
   .rw[hb] at c;cases c
   .have e:=Af hb;omega
  .have:=Ac d;have:=Ac f;omega
def Aey:∀a b d:Bl,KJ a d=Ag->KJ a b=Ag\/KJ b d=Ag
 |a,_,[],h=>by cases a<;>cases h
 |[],[],_::_,_=>.inr B
 |[],_::_,_::_,_=>.inl B
 |_::_,[],_::_,_=>.inr B
 |
  x::a,y::b,z::d,h=>by
  have st:∀(m n:Nat) (r:Bool),(bif AD m n then Ag else bif Am m n then r else Ah)=Ag↔m<n\/(m=n/\r=Ag):=λm n r=>by
   cases hb:AD m n
   .have:¬m<n:=λc=>by rw[←AK] at c;rw[c] at hb;cases hb
    cases e:Am m n
    .have:m≠n:=λc=>by rw[c,show Am n n=Ag from Mi n] at e;cases e
     simp;omega
    .obtain rfl:=Af e
     simp
   .rw[AK] at hb;simp[hb]
  rw[KJ,st] at h;rw[KJ,KJ,st,st];rcases h with h|⟨h,f⟩
  .omega
  .rcases Aey a b d f with h1|h1
   .rcases FD x.toNat y.toNat with c|c|c
    .exact .inl (.inl c)
    .exact .inl Jq
    .exact .inr (.inl G)
   .rcases FD y.toNat z.toNat with c|c|c
    .exact .inr (.inl c)
    .exact .inr Jq
    .exact .inl (.inl G)
def Gd (a b:Bd):Int:=if KJ a.data.toList b.data.toList=Ag then-1 else if KJ b.data.toList a.data.toList=Ag then 1 else 0
def Aqe:Cm Gd:=by
 refine⟨λa=>?_,λa b=>?_,λa b d=>?_⟩
 .have:=Lw a.data.toList a.data.toList
  unfold Gd;split
  .rename_i h;exact(this h h).elim
  .rfl
 .have:=Lw a.data.toList b.data.toList
  unfold Gd;split<;>split<;>simp_all
 .have h1:=Aey d.data.toList b.data.toList a.data.toList
  have c:=Lw a.data.toList b.data.toList;have e:=Lw b.data.toList d.data.toList;unfold Gd;split<;>split<;>split<;>simp_all<;>(repeat' split)<;>simp_all
section
variable{α:Type} (c:α->α->Int)
def UW (x:α):List α->List α
 |[]=>[x]
 |y::l=>if c x y<0 then x::y::l else y::UW x l
def H0:List α->List α
 |[]=>[]
 |x::l=>UW c x (H0 l)
variable{c}
def OG (x:α):∀l,(UW c x l).Perm (x::l)
 |[]=>.refl _
 |
  y::l=>by
  rw[UW];split
  .exact .refl _
  .exact((OG x l).cons y).trans (.swap x y l)
def DO:∀l,(H0 c l).Perm l
 |[]=>.refl _
 |x::l=>(OG x _).trans ((DO l).cons x)
def Y6 (C:Cm c) (x:α):∀l,(∀y∈l,c x y≠0)->l.Pairwise (λa b=>c a b<0)->(UW c x l).Pairwise λa b=>c a b<0
 |[],_,_=>List.pairwise_singleton _ _
 |
  y::l,g,f=>by
  obtain⟨h1,h⟩:=List.pairwise_cons.1 f;rw[UW];split
  .rename_i e
   refine List.pairwise_cons.2 ⟨λz d=>?_,f⟩;rcases List.mem_cons.1 d with rfl|d
   .exact e
   .exact C.lt (Int.le_of_lt e) (Int.le_of_lt (h1 z d)) (.inl e)
  .rename_i i
   refine List.pairwise_cons.2 ⟨λz d=>?_,Y6 C x l Jq h⟩;rcases List.mem_cons.1 ((OG x l).subset d) with rfl|d
   .have:=g y Av;have a1:=C.aQ z y;have j:=C.aQ y z;omega
   .exact h1 z d
def PX (C:Cm c):∀l,l.Pairwise (λa b=>c a b≠0)->(H0 c l).Pairwise λa b=>c a b<0
 |[],_=>List.Pairwise.nil
 |
  x::l,h=>by
  obtain⟨h1,d⟩:=List.pairwise_cons.1 h;exact Y6 C x _ (λy e=>h1 y ((DO l).subset e)) (PX C l d)
def Alc (C:Cm c) {l m:List α} (d:l.Perm m) (h1:l.Pairwise λa b=>c a b<0) (e:m.Pairwise λa b=>c a b<0):l=m:=
 d.eq_of_pairwise (λa b _ _ x y=>by have:=C.aQ a b;omega) h1 e
variable{Cr:α->AH} {LU:AH->AH->Option Int}
def Zx (x:α):∀l:List α,(∀y∈l,LU (Cr x) (Cr y)=I (c x y))->Xk LU (Cr x) (l.map Cr)=I ((UW c x l).map Cr)
 |[],_=>rfl
 |
  y::l,h=>by
  rw[Bp,Xk,h y Av,UW];simp[];by_cases a:c x y<0
  .rw[Bi a,GJ.2 a];rfl
  .rw[Bm a,show Nr (c x y)=Ah from Bool.eq_false_iff.2 λe=>a (GJ.1 e)]
   rw[I0,Zx x l λz b=>h z Jq];rfl
def Wa:∀l:List α,(∀x∈l,∀y∈l,LU (Cr x) (Cr y)=I (c x y))->Pc LU (l.map Cr)=I ((H0 c l).map Cr)
 |[],_=>rfl
 |
  x::l,h=>by
  rw[Bp,Pc,Wa l λa e b hb=>h a Jq b Jq];exact Zx x _ λy d=>h x Av y (Az _ ((DO l).subset d))
def Tq (C:Cm c) (x:α):∀l:List α,(∀y∈l,LU (Cr x) (Cr y)=I (c x y)/\LU (Cr y) (Cr x)=I (c y x)/\c x y<0)->Ot LU (Cr x) (l.map Cr)=Ag
 |[],_=>rfl
 |
  y::l,h=>by
  obtain⟨h1,a,b⟩:=h y Av;have a1:=C.aQ x y;rw[Bp,Ot,h1,a];simp only[];rw[GJ.2 b,show Nr (c y x)=Ah from Bool.eq_false_iff.2 λe=>by have:=GJ.1 e;omega,Tq C x l λz d=>h z Jq];rfl
def Th (C:Cm c):∀l:List α,(∀x∈l,∀y∈l,LU (Cr x) (Cr y)=I (c x y))->l.Pairwise (λa b=>c a b<0)->MQ LU (l.map Cr)=Ag
 |[],_,_=>rfl
 |
  x::l,h,d=>by
  obtain⟨h1,e⟩:=List.pairwise_cons.1 d;rw[Bp,MQ,h x Av x Av,C.cD];rw[Tq C x l λy f=>Jq,
   Th C l Jq e];rfl
def S2 {b:T Aa} (d:∀a:α,(Cr a).length=k):∀(l:List α) (off:Nat),(∀(i:Nat) v,(l.flatMap Cr)[i]?=I v->b.get (off+i)=I v)->HF k b off l.length=I (l.map Cr)
 |[],_,_=>rfl
 |
  x::l,off,h=>by
  have e:=d x;have j:DV b k off=I (Cr x):=by
   have Cw:∀(ys:AH) (o:Nat),(∀(i:Nat) v,ys[i]?=I v->b.get (o+i)=I v)->DV b ys.length o=I ys:=by
    intro ys
    induction ys with
    |nil=>intro o _;rfl
    |
     cons y ys m=>
     intro o f;show(match b.get o with|some v=>(match DV b ys.length (o+1) with|some l=>I (v::l)|none=>Z)|none=>Z)=_
     have h0:=f 0 y B;rw[UL] at h0;rw[h0,m (o+1) λi v c=>by rw[show o+1+i=o+(i+1) by omega];exact f (i+1) v (by simpa using c)]
   have:=Cw (Cr x) off (λi v c=>h i v (by rw[Dg,AB (List.getElem?_eq_some_iff.1 c).1];exact c):∀(i:Nat) v,(Cr x)[i]?=I v->b.get (off+i)=I v)
   rwa [e] at this
  have n:=S2 d l (off+k) λi v c=>by
   rw[DD];exact h (k+i) v (by rw[Dg,Bq G,e,Ds];exact c)
  show(match DV b k off,HF k b (off+k) l.length with|some g,I l=>I (g::l)|_,_=>Z)=_
  rw[j,n];rfl
end
def Awg (S:A9) (L d:Nat) (g:Au) (nx:Nat) (a b:AH) (z:Int):Prop:=Bk S L d g [.agg ⟨a⟩,.agg ⟨b⟩] ⟨.nil,nx,.no⟩ λw J=>w=.int .i64 z/\AA ⟨.nil,nx,.no⟩ J
def Zu {g:Au} {nx:Nat} {a b:AH} (H:Awg S L d g nx a b z) (c:d<=n):Nd (B8 Ax S L n) g nx a b=I z:=by
 obtain⟨v,J,⟨rfl,x⟩,e⟩:=H n c;unfold Nd;rw[e];have:=x.lo nx Jq B;simp[this,D1]
def SU {α:Type} {c:α->α->Int} {Cr:α->AH} (C:Cm c) {d:Be} {g:Au} {i:KR} (hb:EV Ax g=Ag) (U:Ax.aj.get e=I i)
 (q:∀a,(Cr a).length=i.size/\(Cr a).all plainCell=Ag) {l:List α} (K:l.length=n+1) (r:n+1<=1000000) (s:l.Pairwise λa b=>c a b≠0)
 (k:∀x∈l,∀y∈l,Nd d g h.nx (Cr x) (Cr y)=I (c x y)) {f:T Aa} {m:Bool} (u:h.t.get b=I (.cells f N e 0 0 m)) (v:(n+1)*i.size<=N) (w:HF i.size f 0 (n+1)=I (l.map Cr)) {z:Nat}:
 IA Ax e d [.slice (I ⟨b,0,Z⟩) (n+1) z,.func (.func g) #[] #[]] h=I (.tuple #[],h.put b (.cells (T.laid ((H0 c l).map Cr).flatten 0 f) N e 0 0 m)):=by
 have A:=Wa (LU:=Nd d g h.nx) l k;have D:=Th (LU:=Nd d g h.nx) C (H0 c l) (λx j y E=>k x ((DO l).subset j) y ((DO l).subset E)) (PX C l s);have F:((l.map Cr).all (λg=>g.all plainCell)&&Ar ((n+1)*i.size) N&&Am e e&&AD 0 (n+1)&&Ar (n+1) 1000000&&EV Ax g)=true:=by
  have:(l.map Cr).all (λg=>g.all plainCell)=true:=List.all_eq_true.2 λx j=>by
   obtain⟨a,_,rfl⟩:=List.mem_map.1 j;exact(q a).2
  rw[this,hb,Aq r,Aq v];simp[AK]
 show(match h.t.get b,Ax.aj.get e with
  |
   some (.cells c n' H 0 0 x),I i=>(match HF i.size c 0 (n+1) with
   |
    some o=>bif o.all (λg=>g.all plainCell)&&Ar ((n+1)*i.size) n'&&Am H e&&AD 0 (n+1)&&Ar (n+1) 1000000&&EV Ax g then
    (match Pc (Nd d g h.nx) o with
    |some p=>bif MQ (Nd d g h.nx) p then I (C4 #[],h.put b (.cells (T.laid p.flatten 0 c) n' e 0 0 x)) else Z
    |none=>Z) else Z
   |none=>Z)
  |_,_=>Z)=_
 rw[u,U];simp only[w,F,D1,A,D]
def QS {α:Type} {c:α->α->Int} {Cr:α->AH} (C:Cm c) {g:Au} (P:S.ov f=I (IA Ax e)) (hb:EV Ax g=Ag) (U:(match Ax.aj.get e with|some i=>Am i.size k|none=>Ah)=Ag)
 (z:∀a,(Cr a).length=k/\(Cr a).all plainCell=Ag) {l:List α} (o:AS h N e k v n (l.flatMap Cr)) (r:l.length=n) (Q:n<=1000000) (R:l.Pairwise λa b=>c a b≠0)
 (V:∀x∈l,∀y∈l,Awg S L d g h.nx (Cr x) (Cr y) (c x y)):
 Bk S L (d+1) f [v,.func (.func g) #[] #[]] h λw J=>w=.tuple #[]/\AS J N e k v n ((H0 c l).flatMap Cr)/\B0 (BY v) h J:=by
 intro m hm;obtain⟨m,rfl⟩:∃q,m=q+1:=⟨m-1,G⟩;obtain⟨i,W,D⟩:∃i,Ax.aj.get e=I i/\i.size=k:=by
  split at U
  .exact⟨_,by assumption,Af U⟩
  .cases U
 suffices H:∃J,IA Ax e (B8 Ax S L m) [v,.func (.func g) #[] #[]] h=I (.tuple #[],J)/\AS J N e k v n ((H0 c l).flatMap Cr)/\B0 (BY v) h J by
  obtain⟨J,h1,X⟩:=H;exact⟨_,J,⟨B,X⟩,YV P h1⟩
 cases n with
 |
  zero=>
  obtain rfl:l=[]:=BO r;obtain⟨_,A,cc,rfl,_⟩:=o.rd;exact⟨h,by cases A<;>rfl,o,(AA.refl h).ae _⟩
 |
  succ n=>
  obtain⟨E,⟨rfl,h0⟩|⟨b,cp,sp,rfl,hN,aa,ab,ad,cc,xx,hg,F⟩⟩:=o
  .cases h0
  have s:(H0 c l).length=n+1:=by rw[(DO l).length_eq,r]
  have p:∀l:List α,l.length=n+1->(l.flatMap Cr).length=(n+1)*k:=λl h=>by rw[HV (λa=>(z a).1),h]
  have K:=S2 (λa=>(z a).1) l 0 λi v M=>by
   rw[Ba];exact F i v (by rw[AB (List.getElem?_eq_some_iff.1 M).1];exact M)
  rw[r] at K;have ae:((H0 c l).map Cr).flatten=(H0 c l).flatMap Cr:=rfl;refine⟨_,SU C hb W (by rw[D];exact z) r Q R (λx E y hy=>Zu (V x E y hy) G) hg (by rw[Aj,p l r,D];omega) (by rw[D];exact K),⟨p _ s,.inr ⟨b,cp,sp,B,hN,aa,?_,?_⟩⟩,(Er.put h b _).ae⟩
  .rw[Aj,p _ s,←ab,Aj,p l r]
  .refine⟨by rw[Cc];exact ad,_,xx,by rw[BQ,Bi B,Aj,Aj,p _ s,p l r],λj u t=>?_⟩
   rw[T.an,ae];by_cases O:0<=j/\j<0+((H0 c l).flatMap Cr).length
   .rw[Bi O,DL]
    rw[AB G] at t;exact t
   .rw[Bm O]
    rw[Bq G] at t;refine F j u ?_;rw[Bq (by rw[p l r];have:=p _ s;omega),p l r,←p _ s];exact t
end
end
end Go.Ev
