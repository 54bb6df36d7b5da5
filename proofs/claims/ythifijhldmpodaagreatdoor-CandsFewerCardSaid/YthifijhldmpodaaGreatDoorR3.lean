/-
  Part of the proof.
-/
import Derived.Test.YthifijhldmpodaaGreatDoorR2
set_option maxRecDepth 100000
set_option maxHeartbeats 40000000
set_option linter.all false
open Bool renaming false->Ah,true->Ag,and_eq_true->An,or_eq_true->Dm,false_eq_true->BE,and_true->Mh,eq_false_iff->MK
open Go renaming Code->DC,Func->BC,FuncId->Au,MapEntry->Ap,Operand->BU,TypeId->Ai,TypeInfo->KR,Value->Aa,Addr->BD
open Option renaming none->Z,some->I,getD_some->EN
open Nat renaming rec->UE,beq->Am,succ->A3,eq_of_beq_eq_true->Af,lt_succ_self->HL,ble->Ar,blt->AD,lt_trichotomy->FD,le_refl->Ae,lt_of_lt_of_le->AC,le_trans->Ao,lt_or_ge->A8,le_of_ble_eq_true->Ac,ble_eq_true_of_le->Aq,le_of_eq->A2,le_succ->Yr,blt_eq->AK,le_succ_of_le->UF,sub_zero->DL,zero_add->Ba,add_assoc->DD,add_mul->Dw,mul_le_mul_right->Ci,zero_le->Al,le_of_not_lt->Aci,le_of_lt->Bf,eq_zero_or_pos->KQ,mul_comm->UI,le_add_right->GW,add_sub_cancel_left->Ds,add_comm->UK,not_lt_zero->F5,mul_le_mul->Cj,add_zero->UL,mul_one->BJ,mul_add->EG,lt_irrefl->W7,beq_refl->Mi
open List renaming length_cons->AO,map_cons->Bp,drop_eq_getElem_cons->Di,drop_eq_nil_of_le->Ef,drop_zero->Ajb,getElem?_append_left->AB,mem_cons_of_mem->Az,mem_cons_self->Av,foldl_cons->F7,replicate->AE,length_append->Aj,length_map->A4,getElem?_append_right->Bq,getElem?_eq_none->CD,eq_nil_of_length_eq_zero->BO,mem_of_getElem?->AZ,take_of_length_le->Bj,append_nil->Fb,length->HD,append_assoc->KA,getD_eq_getElem?_getD->Ak,nil_append->IW,cons_append->KB,mem_append_left->DW,range->BG,getElem?_eq_getElem->Ab,getElem?_map->AX,nodup_nil->Jg,not_mem_nil->KX,getElem_mem->Bu,getElem?_set_self->O4,length_singleton->Br,length_drop->AV,length_take->Cg,getElem?_take->LS,getElem?_drop->Eg,sum_cons->Amw,map_map->O5,take_succ_eq_append_getElem->A5,map_append->BS,sum_append->PC,range_succ->Acb,eq_of_mem_replicate->CH,length_set->B4,getElem?_set->Iu,map_set->Cp,length_nil->Acd,flatMap_cons->Dg,flatMap_append->E0,set_append->Hj,all_append->Aph,perm_append_singleton->Gm,contains_eq_mem->Ace,flatMap_map->UM,mem_map_of_mem->Gn,filter_append->O6,perm_append_comm->ZC,length_filter_le->D7,mem_filter->Api,getElem_of_mem->N2,prefix_refl->Eb,getLastD_concat->Acf,prefix_append->GS,ne_nil_of_mem->O7,length_filterMap_le->KH,filter_cons_of_pos->W8,filter_cons_of_neg->W9,foldl_append->K1,filterMap_append->ZD,filterMap_cons_none->WZ,filterMap_cons_some->W2,getElem?_append->Amz
open Int renaming ofNat->AQ,eq_ofNat_of_zero_le->B9
open Array renaming ext'->Et
open Go.Value renaming int->AL,bool->CU,tuple->C4,slice->PA
open Prod renaming fst->Eh,snd->Amy
open ByteArray renaming size_append->KF
namespace Go.Ev
open Go Go.Proofs Tryz
noncomputable section
open Go Go.Proofs Tryz
section
variable {h J h0 h1 H:Y} {v fv nv pv cv ev lv u v':Aa} {xs args vs ys:AH} {n b N i k e r j x m c q d a p t2 st sb mo ck lp rm b0 sz off:Nat} {t:Ai} {f:Au} {fn:BC} {s:Bd} {bs:Bl} {ws:Bo} {W:Nat->Prop} {Q:Aa->Y->Prop} {A:Option BD} {z df day:Int} {ss:BZ} {τ:Bb}
variable{S:A9} {L:Nat}
def AAi (j:Base6 S L) (H:Ce h) {ps:List JT} {cs:List Qz} {es:List CI} (K:G3 h) (p:Gt h pv ps) (c:Nw h cv cs) (t:Dq h ev es) (N:N8.aV ⟨pv,df,cv,ev,ps,cs,es⟩):
 Bk S L 31 18 [.agg #[pv,Vi df,cv,ev]] h λw J=>AA h J/\∃(o:Aa) (z:Int),w=.tuple #[o,Vi z]/\(z=0->∃bs:Bl,bs.length<=20000000/\Rd J o 1 bs.length (Ay bs)):=
 Cn f18 j.toBase λd X _=>by
  obtain⟨l1,l2,u,v,x⟩:=N;have u:ps.length<=70:=u;have v:cs.length<=300:=v;have x:es.length<=300:=x;have y:=p;have O:=c;have P:=t;obtain⟨_,A,C,rfl,_⟩:=p;obtain⟨_,D,c1,rfl,_⟩:=c;obtain⟨_,k,m,rfl,_⟩:=t;obtain⟨a,Q,E⟩:=(Sep.nil h).box Ax 26 (.agg #[.slice A ps.length C,Vi df,.slice D cs.length c1,.slice k es.length m]);have n:=E.dD (i:=0) B;have R:=n.cell (i:=0) B;have q:=E.e;refine⟨_,_,Q,[],Kq,_,ld B R,_,EQ Kq (show BK a h.nx 0 [.slice A ps.length C,Vi df,.slice D cs.length c1,.slice k es.length m] from n.cells) B,_,c47 (h:=a.ad) j.toBase (show Gt a _ _ from Rd.ext y q) G (show Nw a _ _ from Rd.ext O q) G B d G,?_⟩;rintro w2 f ⟨s,T⟩;have g:=q.trans s.aa;refine⟨s.ag,_,ld B ((n.ext s.aa).cell B:Cell (a.aa f) h.nx 3 (.slice k es.length m)),_,c46 (h:=(a.aa f).ad) j (show Ce (a.aa f) from H.ext g) (show G3 (a.aa f) from K.ext g) (show Gt (a.aa f) _ _ from Rd.ext y g) G (show Dq (a.aa f) _ _ from Rd.ext P g) G Jq ?_ d G,?_⟩
  .rcases T with rfl|⟨b,r,l,h1,aa,rfl,M,mo,ab,_⟩
   .exact .inl B
   .refine .inr ⟨b,r,df,l,B,ps.length,?_,mo,G,G⟩
    show F6 (a.aa f) b ps.length df r l;exact⟨M.1,M.2.1.aa,M.2.2.1.aa,M.2.2.2.1.aa,P9 M.2.2.2.2⟩
  rintro _ h3 ⟨F,o,z,rfl,V⟩;refine⟨F.ag,g.trans F.aa,o,z,B,λh0=>?_⟩;obtain⟨_,_,bs,W,r⟩:=V h0;exact⟨bs,W,r.rd.aa⟩
def Xc (b:Base6 S L) (c:Ce h) {s:N8} (d:G3 h) (a:Qx L h s) (e:s.aV):Bk S L 31 18 [.agg ⟨s.cells⟩] h λw J=>AA h J/\∃(o:Aa) (z:Int),w=.tuple #[o,Vi z]/\(z=0->∃bs:Bl,bs.length<=20000000/\Rd J o 1 bs.length (Ay bs)):=by
 exact AAi b c d a.1.1 a.1.2.1 a.1.2.2 e
def Sep.cW (a:Gv τ t=Ag) {l:List Ct} (s:Sep h0 h l) (U:l[i]?=I (aO b e xs)) (c:j<xs.length) (h1:one v=Ag):
 ∃J,BA τ t h b j v=I J/\Sep h0 J (l.set i (aO b e (xs.set j v)))/\Er b h J:=s.a5 a U c h1
def c50 (u:Base S L) {l:List Ct} (s:Sep h0 h l) {f:Nat} {b:Bool} {ps:List DQ} (p:EC h0 pv ps) (x:ps.length<=64) (U:l[i]?=I (aO f 123 [pv,.bool b])) {y:Bd}:
 Bk S L 3 50 [AG f 0,.string y] h λw J=>∃j:Bool,Sep h0 J (l.set i (aO f 123 [pv,.bool j]))/\(b=Ag->j=Ag)/\h.nx<=J.nx/\B0 (·=f) h J/\∃n bs,n<=16777216/\Rd J w 1 n (Ay bs):=
 Cn f50 u λd E _=>by
  have z:=(s.dD U).cell (i:=0) B;refine⟨_,ld B z,_,ACf u (p.ext s.e) G d G,?_⟩;have Da:∀(h1:Y) (c:AA h h1) (w:Aa) (n:Nat) (bs:Bl),n<=16777216->AS h1 h.nx 5 1 w n (Ay bs)->∀j:Bool,∃a,BA Ax 4 h1 f 1 (.bool j)=I a/\Sep h0 a (l.set i (aO f 123 [pv,.bool j]))/\h.nx<=a.nx/\B0 (·=f) h a/\∃n bs,n<=16777216/\Rd a w 1 n (Ay bs):=λh1 c w n bs x o j=>by
   obtain⟨a,g,A,m⟩:=(s.ext c).cW (τ:=Ax) (t:=4) B U (v:=.bool j) (by show 1<2;decide) B;have F:=(s.dD U).1;refine⟨a,g,A,by rw[m.nx];exact c.nx,(c.ae _).trans m.ae,n,bs,x,o.rd.ae m.ae λi U H=>?_⟩;have:=o.ai i U;omega
  rintro _ h1 ⟨c,rfl|⟨q,C,o,rfl,D⟩⟩
  .have c1:=((s.ext c).dD U).cell (i:=1) B
   have Da:=Da h1 c _ 0 [] Jq (AS.nil h1 h.nx 5 1);cases b
   .obtain⟨a,g,k,r⟩:=Da Ag
    exact⟨_,ld B c1,_,_,B,_,g,Ag,k,(λh=>by rfl),r⟩
   .obtain⟨a,g,k,r⟩:=Da Ag
    exact⟨_,ld B c1,_,g,Ag,k,(λh=>by rfl),r⟩
  .have c1:=((s.ext c).dD U).cell (i:=1) B
   have Da:=Da h1 c o _ q.db (p.2 q C).2.1 D;cases b
   .obtain⟨a,g,k,r⟩:=Da Ah
    exact⟨_,ld B c1,_,_,B,_,g,Ah,k,(λh=>by cases h),r⟩
   .obtain⟨a,g,k,r⟩:=Da Ag
    exact⟨_,ld B c1,_,g,Ag,k,(λh=>by rfl),r⟩
def c52 (x:Base2 S L) {l:List Ct} (s:Sep h0 h l) {f:Nat} {b:Bool} {ps:List DQ} (p:EC h0 pv ps) (H:ps.length<=64) (U:l[i]?=I (aO f 123 [pv,.bool b])) {K:Bd}:
 Bk S L 7 52 [AG f 0,.string K] h λw J=>∃e:Bool,Sep h0 J (l.set i (aO f 123 [pv,.bool e]))/\(b=Ag->e=Ag)/\h.nx<=J.nx/\B0 (·=f) h J/\((w=.pointer Z/\e=Ag)\/∃q t,w=AG q 0/\Ge J h.nx q t):=
 Cn f52 x.toBase λd N _=>by
  refine⟨_,c50 x.toBase s p H U d G,?_⟩;rintro w h1 ⟨b1,y,C,D,c1,n,bs,O,r⟩;have z:(l.set i (aO f 123 [pv,.bool b1]))[i]?=I (aO f 123 [pv,.bool b1]):=by rw[O4 ((List.getElem?_eq_some_iff.1 U).1:i<l.length)]
  refine⟨_,ACo x.toBase r G d G,?_⟩;have P:=(s.dD U).1;have Da:∀(g:Y) (a:AA h1 g) (e:Bool),∃c,BA Ax 4 g f 1 (.bool e)=I c/\Sep h0 c (l.set i (aO f 123 [pv,.bool e]))/\h.nx<=c.nx/\B0 (·=f) h c/\B0 (·=f) g c:=λg a e=>by
   obtain⟨c,j,E,A⟩:=(y.ext a).cW (τ:=Ax) (t:=4) B z (v:=.bool e) (by show 1<2;decide) B;rw[List.set_set] at E;exact⟨c,j,E,by rw[A.nx];exact Ao D a.nx,(c1.trans (a.ae _)).trans A.ae,A.ae⟩
  rintro _ g ⟨a,rfl|⟨q,t,rfl,T⟩⟩
  .have k:=((y.ext a).dD z).cell (i:=1) B
   obtain⟨c,j,m,o,u,_⟩:=Da g a Ag;cases b1
   .exact⟨_,ld B k,_,j,Ag,m,(λ_=>rfl),o,u,.inl ⟨B,B⟩⟩
   .exact⟨_,ld B k,_,j,Ag,m,(λ_=>rfl),o,u,.inl ⟨B,B⟩⟩
  .have k:=((y.ext a).dD z).cell (i:=1) B
   obtain⟨c,j,m,o,u,M⟩:=Da g a b1;have F:=(T.fr M (λi U=>by rw[show i=f from U];omega)).mono D;cases b1
   .exact⟨_,ld B k,_,j,_,m,C,o,u,.inr ⟨q,t,B,F⟩⟩
   .exact⟨_,ld B k,_,j,_,m,C,o,u,.inr ⟨q,t,B,F⟩⟩
def Lb (h:Y) (N b n w:Nat) (ws:Bo):Prop:=BX h b n w ws/\Fl h N b
def Lb.fr {w:Nat} (p:Lb h N b n w ws) (c:B0 W h J) (a:∀i,W i->i<N):Lb J N b n w ws:=by
 exact⟨p.1.fr p.2 c a,p.2.1,λv y=>p.2.2 v (y.rev p.1.1.1 c (λd=>by have:=a b d;have:=p.2.1;omega:¬W b))⟩
def Lb.ext {w:Nat} (p:Lb h N b n w ws) (x:AA h J):Lb J N b n w ws:=p.fr (x.ae λ_=>False) λ_ h=>h.elim
def Lb.mono {M w:Nat} (p:Lb h N b n w ws) (a:M<=N):Lb h M b n w ws:=⟨p.1,p.2.mono a⟩
def c53 (y:Base2 S L) {l:List Ct} (s:Sep h0 h l) {f:Nat} {b:Bool} {ps:List DQ} (p:EC h0 pv ps) (K:ps.length<=64) (U:l[i]?=I (aO f 123 [pv,.bool b])) {M:Bd}:
 Bk S L 7 53 [AG f 0,.string M] h λw J=>∃e:Bool,Sep h0 J (l.set i (aO f 123 [pv,.bool e]))/\(b=Ag->e=Ag)/\h.nx<=J.nx/\B0 (·=f) h J/\((w=.pointer Z/\e=Ag)\/∃q n k ws,w=AG q 0/\Lb J h.nx q n k ws):=
 Cn f53 y.toBase λd Q _=>by
  refine⟨_,c50 y.toBase s p K U d G,?_⟩;rintro w h1 ⟨b1,z,D,E,c1,n,bs,R,r⟩;have A:(l.set i (aO f 123 [pv,.bool b1]))[i]?=I (aO f 123 [pv,.bool b1]):=by rw[O4 ((List.getElem?_eq_some_iff.1 U).1:i<l.length)]
  refine⟨_,Awa y.toBase r G d G,?_⟩;have T:=(s.dD U).1;have Da:∀(g:Y) (a:AA h1 g) (e:Bool),∃c,BA Ax 4 g f 1 (.bool e)=I c/\Sep h0 c (l.set i (aO f 123 [pv,.bool e]))/\h.nx<=c.nx/\B0 (·=f) h c/\B0 (·=f) g c:=λg a e=>by
   obtain⟨c,j,F,C⟩:=(z.ext a).cW (τ:=Ax) (t:=4) B A (v:=.bool e) (by show 1<2;decide) B;rw[List.set_set] at F;exact⟨c,j,F,by rw[C.nx];exact Ao E a.nx,(c1.trans (a.ae _)).trans C.ae,C.ae⟩
  rintro _ g ⟨a,rfl|⟨q,n,k,ws,_,rfl,P,N⟩⟩
  .have m:=((z.ext a).dD A).cell (i:=1) B
   obtain⟨c,j,o,u,x,_⟩:=Da g a Ag;cases b1
   .exact⟨_,ld B m,_,j,Ag,o,(λ_=>rfl),u,x,.inl ⟨B,B⟩⟩
   .exact⟨_,ld B m,_,j,Ag,o,(λ_=>rfl),u,x,.inl ⟨B,B⟩⟩
  .have m:=((z.ext a).dD A).cell (i:=1) B
   obtain⟨c,j,o,u,x,O⟩:=Da g a b1;have H:=((show Lb g h1.nx q n k ws from⟨P,N⟩).fr O (λi U=>by rw[show i=f from U];omega)).mono E;cases b1
   .exact⟨_,ld B m,_,j,_,o,D,u,x,.inr ⟨q,n,k,ws,B,H⟩⟩
   .exact⟨_,ld B m,_,j,_,o,D,u,x,.inr ⟨q,n,k,ws,B,H⟩⟩
structure Nl where
 b:Nat
 n:Nat
 w:Nat
 ws:Bo
def Nl.at_ (p:Nl) (h:Y):Prop:=BX h p.b p.n p.w p.ws
structure Dt where
 pv:Aa
 ps:List JT
 mb:Nat
 mn:Nat
 mr:Nat
 df:Int
 ml:GX
 b2:Nat
 t2:En
 b3:Nat
 t3:En
 p4:Nl
 p5:Nl
 p6:Nl
 p7:Nl
 p8:Nl
 p9:Nl
 b8:Nl
def Dt.cells (D:Dt):AH:=[D.pv,AG D.mb 0,AG D.b2 0,AG D.b3 0,AG D.p4.b 0,AG D.p5.b 0,AG D.p6.b 0,AG D.p7.b 0,AG D.p8.b 0,AG D.p9.b 0,AG D.b8.b 0]
structure DT (h:Y) (b:Nat) (D:Dt):Prop where
 c:∀i v,D.cells[i]?=I v->Cell h b i v
 pos:Gt h D.pv D.ps
 cJ:F6 h D.mb D.mn D.df D.mr D.ml
 t2:DE h D.b2 D.t2
 t3:DE h D.b3 D.t3
 p4:D.p4.at_ h
 p5:D.p5.at_ h
 p6:D.p6.at_ h
 p7:D.p7.at_ h
 p8:D.p8.at_ h
 p9:D.p9.at_ h
 b8:D.b8.at_ h
def DT.ext {h J:Y} {b:Nat} {D:Dt} (A:DT h b D) (x:AA h J):DT J b D:=
 ⟨λi v e=>(A.c i v e).ext x,Rd.ext A.pos x,A.cJ.ext x,A.t2.ext x,A.t3.ext x,BX.ext A.p4 x,BX.ext A.p5 x,BX.ext A.p6 x,BX.ext A.p7 x,BX.ext A.p8 x,BX.ext A.p9 x,BX.ext A.b8 x⟩
def DT.ad {h:Y} {b:Nat} {D:Dt} (A:DT h b D):DT h.ad b D:=A.ext (AA.ad h)
def Dt.fits (D:Dt):Prop:=D.p5.n<=20000/\D.p6.n=D.p5.n/\D.p7.n=D.p5.n/\D.p8.n=D.p5.n/\D.p9.n=D.p5.n/\D.p4.n=D.t2.nd.length/\D.b8.n=D.t3.nd.length/\(∀j:Nat,j<D.p4.n->E1 D.p4.ws D.p4.w j<D.p5.n)/\∀j:Nat,j+1<D.p4.n->E1 D.p4.ws D.p4.w j<E1 D.p4.ws D.p4.w (j+1)
def c54 (f:Base S L) {h:Y} {b:Nat} {D:Dt} (A:DT h b D):Bk S L 3 54 [AG b 0] h λw J=>AA h J/\∃r:Bool,w=.bool r/\(r=Ag->D.fits):=
 Cn f54 f λd aj hL=>by
  have g:∀{H:Y},AA h H->AA h H/\∃r:Bool,CU Ah=.bool r/\(r=Ag->D.fits):=λe=>⟨e,Ah,B,λh=>by cases h⟩;refine⟨_,ld B (A.c 5 _ B),_,K3 f A.p5.1 d G,?_⟩;rintro _ h ⟨rfl,rfl⟩;have k2:=A.c 2 _ B;have k3:=A.c 3 _ B;have k4:=A.c 4 _ B;have k6:=A.c 6 _ B;have k7:=A.c 7 _ B;have k8:=A.c 8 _ B;have k9:=A.c 9 _ B;have ah:=A.c 10 _ B;refine⟨[],Kq,Bz (λe1=>?_) (λe1=>?_)⟩
  .exact g (AA.refl _)
  have K:=AA.refl h;have Q:=A.ext K;have R:=k6.ext K;refine⟨_,ld B R,_,K3 (h:=Y.ad h) f (show Cell h _ _ _ from(Q.p6:BX _ _ _ _ _).1) d G,?_⟩;rintro _ _ ⟨rfl,rfl⟩;have v:=AT K;refine⟨B,Ad (λf6=>?_) (λf6=>?_)⟩
  .exact g v
  have f6:D.p6.n=D.p5.n:=by
   have:=f6;simp at this;omega
  have T:=A.ext v;have V:=k7.ext v;refine⟨_,ld B V,_,K3 (h:=Y.ad (nb h)) f (show Cell (nb h) _ _ _ from(T.p7:BX _ _ _ _ _).1) d G,?_⟩;rintro _ _ ⟨rfl,rfl⟩;have y:=AT v;refine⟨B,Ad (λf7=>?_) (λf7=>?_)⟩
  .exact g y
  have f7:D.p7.n=D.p5.n:=by
   have:=f7;simp at this;omega
  have W:=A.ext y;have X:=k8.ext y;refine⟨_,ld B X,_,K3 (h:=Y.ad (nb (nb h))) f (show Cell (nb (nb h)) _ _ _ from(W.p8:BX _ _ _ _ _).1) d G,?_⟩;rintro _ _ ⟨rfl,rfl⟩;have C:=AT y;refine⟨B,Ad (λf8=>?_) (λf8=>?_)⟩
  .exact g C
  have f8:D.p8.n=D.p5.n:=by
   have:=f8;simp at this;omega
  have a9:=A.ext C;have q9:=k9.ext C;refine⟨_,ld B q9,_,K3 (h:=Y.ad (nb (nb (nb h)))) f (show Cell (nb (nb (nb h))) _ _ _ from(a9.p9:BX _ _ _ _ _).1) d G,?_⟩;rintro _ _ ⟨rfl,rfl⟩;have E:=AT C;refine⟨B,Ad (λf9=>?_) (λf9=>?_)⟩
  .exact g E
  have f9:D.p9.n=D.p5.n:=by
   have:=f9;simp at this;omega
  have a4:=A.ext E;have q4:=k4.ext E;refine⟨_,ld B q4,_,K3 (h:=Y.ad (nb (nb (nb (nb h))))) f (show Cell (nb (nb (nb (nb h)))) _ _ _ from(a4.p4:BX _ _ _ _ _).1) d G,?_⟩;rintro _ _ ⟨rfl,rfl⟩;have M:=AT E;have N:=A.ext M;have aa:=k2.ext M;refine⟨B,_,ld B aa,_,c91 (h:=Y.ad (nb (nb (nb (nb (nb h)))))) f (show DE (nb (nb (nb (nb (nb h))))) _ _ from N.t2) d G,?_⟩;rintro _ _ ⟨rfl,rfl⟩;have F:=AT M;refine⟨B,Ad (λf4=>?_) (λf4=>?_)⟩
  .exact g F
  have f4:D.p4.n=D.t2.nd.length:=by
   have:=f4;simp at this;omega
  have ab:=A.ext F;have ad:=ah.ext F;refine⟨_,ld B ad,_,K3 (h:=Y.ad (nb (nb (nb (nb (nb (nb h))))))) f (show Cell (nb (nb (nb (nb (nb (nb h)))))) _ _ _ from(ab.b8:BX _ _ _ _ _).1) d G,?_⟩;rintro _ _ ⟨rfl,rfl⟩;have O:=AT F;have ae:=A.ext O;have af:=k3.ext O;refine⟨B,_,ld B af,_,c91 (h:=Y.ad (nb (nb (nb (nb (nb (nb (nb h)))))))) f (show DE (nb (nb (nb (nb (nb (nb (nb h))))))) _ _ from ae.t3) d G,?_⟩;rintro _ _ ⟨rfl,rfl⟩;have o:=AT O;refine⟨B,Ad (λf10=>?_) (λf10=>?_)⟩
  .exact g o
  have f10:D.b8.n=D.t3.nd.length:=by
   have:=f10;simp at this;omega
  have ag:(∀j:Nat,j<D.p4.n->E1 D.p4.ws D.p4.w j<D.p5.n)->(∀j:Nat,j+1<D.p4.n->E1 D.p4.ws D.p4.w j<E1 D.p4.ws D.p4.w (j+1))->D.fits:=λl m=>⟨G,f6,f7,f8,f9,f4,f10,l,m⟩;have ak:D.p4.n<=20000:=by have:=N.t2.1.2.2.2.2.2.2.1;omega
  have p:=A.ext o;clear a4 ab N ae q4 ad aa af Q T W a9 R V X q9;refine⟨_,ld B (p.c 4 _ B),_,ZZ f p.p4 d G,?_⟩;rintro _ _ ⟨rfl,rfl⟩;apply Ad<;>intro g1
  .refine⟨_,_,B,Ad (λg2=>?_) (λg2=>?_)⟩
   .exact g o
   apply Ad<;>intro g3
   .exact g o
   refine⟨_,ld B (p.c 4 _ B),_,K3 f (show Cell (nb (nb (nb (nb (nb (nb (nb (nb h)))))))) _ _ _ from(p.p4:BX _ _ _ _ _).1) d G,?_⟩;rintro _ _ ⟨rfl,rfl⟩;refine⟨λq A a=>∃(k:Nat) (z:Int),A=[(0,AG b 0),(3,Vi D.p5.n),(6,Vi z),(101,Vi D.p4.n),(102,Vi k)]/\k<=D.p4.n/\q=D.p4.n-k/\(∀j:Nat,j<k->E1 D.p4.ws D.p4.w j<D.p5.n)/\AA h a/\(0<k->z=E1 D.p4.ws D.p4.w (k-1))/\∀j:Nat,j+1<k->E1 D.p4.ws D.p4.w j<E1 D.p4.ws D.p4.w (j+1),
    ⟨_,_,Sq,G,0,-1,B,Al _,B,(λj i=>Cf i (F5 _)),o,(λh=>Cf h (W7 _)),(λj i=>Cf i (F5 _))⟩,?_⟩
   rintro q A' a ⟨k,z,rfl,hk,rfl,l,x,P,m⟩ ai;apply Bz<;>intro g4
   .have gr:=FM D.p4.ws D.p4.w k
    have s:=A.ext x;refine⟨_,ld B (s.c 4 _ B),_,ZZ f s.p4 d G,?_⟩;rintro _ _ ⟨rfl,rfl⟩;refine⟨_,.inl Pq,Bz (λt=>?_) (λt=>?_)⟩
    .exact g x
    rw[Bi G,show((k:Int)).toNat=k from B] at t⊢;refine⟨_,.inl Pq,Bz (λu=>?_) (λu=>?_)⟩
    .exact g x
    exact⟨_,.inl Pq,Pq,_,_,Sq,G,k+1,_,B,G,B,λj i=>by
     rcases A8 j k with a|a
     .exact l j a
     .have:j=k:=G
      rw[this];omega,x,λ_=>rfl,λj i=>by
     rcases A8 (j+1) k with a|a
     .exact m j a
     .have:=P G
      have e:k-1=j:=G;rw[e] at this;have e:k=j+1:=G;rw[e] at u;omega⟩
   .obtain rfl:k=D.p4.n:=G
    exact⟨x,Ag,B,λ_=>ag l m⟩
  .refine⟨_,ld B (p.c 4 _ B),_,K3 f (show Cell (nb (nb (nb (nb (nb (nb (nb (nb h)))))))) _ _ _ from(p.p4:BX _ _ _ _ _).1) d G,?_⟩
   rintro _ _ ⟨rfl,rfl⟩;refine⟨λq A a=>∃(k:Nat) (z:Int),A=[(0,AG b 0),(3,Vi D.p5.n),(6,Vi z),(101,Vi D.p4.n),(102,Vi k)]/\k<=D.p4.n/\q=D.p4.n-k/\(∀j:Nat,j<k->E1 D.p4.ws D.p4.w j<D.p5.n)/\AA h a/\(0<k->z=E1 D.p4.ws D.p4.w (k-1))/\∀j:Nat,j+1<k->E1 D.p4.ws D.p4.w j<E1 D.p4.ws D.p4.w (j+1),
    ⟨_,_,Sq,G,0,-1,B,Al _,B,(λj i=>Cf i (F5 _)),o,(λh=>Cf h (W7 _)),(λj i=>Cf i (F5 _))⟩,?_⟩
   rintro q A' a ⟨k,z,rfl,hk,rfl,l,x,P,m⟩ ai;apply Bz<;>intro g4
   .have gr:=FM D.p4.ws D.p4.w k
    have s:=A.ext x;refine⟨_,ld B (s.c 4 _ B),_,ZZ f s.p4 d G,?_⟩;rintro _ _ ⟨rfl,rfl⟩;refine⟨_,.inl Pq,Bz (λt=>?_) (λt=>?_)⟩
    .exact g x
    rw[Bi G,show((k:Int)).toNat=k from B] at t⊢;refine⟨_,.inl Pq,Bz (λu=>?_) (λu=>?_)⟩
    .exact g x
    exact⟨_,.inl Pq,Pq,_,_,Sq,G,k+1,_,B,G,B,λj i=>by
     rcases A8 j k with a|a
     .exact l j a
     .have:j=k:=G
      rw[this];omega,x,λ_=>rfl,λj i=>by
     rcases A8 (j+1) k with a|a
     .exact m j a
     .have:=P G
      have e:k-1=j:=G;rw[e] at this;have e:k=j+1:=G;rw[e] at u;omega⟩
   .obtain rfl:k=D.p4.n:=G
    exact⟨x,Ag,B,λ_=>ag l m⟩
def CI.small (e:CI):Prop:=(e.rd.size<=256/\e.tx.size<=256)/\(0<=e.l/\e.l<=1073741824)/\(0<=e.r/\e.r<=1073741824)/\(0<=e.c/\e.c<=1073741824)
def Dt.atR (D:Dt) (i:Int):Int:=((BG D.p4.n).find? λz=>decide (i+1<=E1 D.p4.ws D.p4.w z)).getD D.p4.n-1
def Dt.bG (D:Dt) (i:Int):CI:=⟨Sv D.t2 (D.atR i),Sv D.t3 (Hm D.p5.n D.p5.w D.p5.ws i),Hm D.p6.n D.p6.w D.p6.ws i,Hm D.p7.n D.p7.w D.p7.ws i,Hm D.p8.n D.p8.w D.p8.ws i⟩
def Ye {z:Nat} {p:Nat->Bool} (d:z<=n) (h1:∀j,j<z->p j=Ah) (c:z<n->p z=Ag):((BG n).find? p).getD n=z:=by
 rcases A8 z n with a|e
 .have:(BG n).find? p=I z:=by
   rw[List.find?_range_eq_some];exact⟨c a,List.mem_range.2 a,λj b=>by rw[h1 j b];rfl⟩
  rw[this];rfl
 .obtain rfl:z=n:=G
  have:(BG z).find? p=none:=List.find?_eq_none.2 λj b=>by rw[h1 j Jq];decide
  rw[this];rfl
def Age {f:Nat->Int} (a:∀j,j+1<n->f j<f (j+1)):∀k j,j+k<n->f j<=f (j+k)
 |0,j,_=>Int.le_refl _
 |k+1,j,h=>by have:=Age a k j G;have:=a (j+k) G;rw[←DD];omega
def ACy (g:Base S L) {D:Dt} (A:DT h b D) (K:D.fits) {i:Int} (U:0<=i/\i<=1000000000):Bk S L 8 122 [AG b 0,Vi i] h λw J=>AA h J/\∃e:CI,w=.agg ⟨BV e⟩/\e.small/\e=D.bG i:=
 Cn f122 g λd ag _=>by
  obtain⟨g1,M,q⟩:=(Sep.nil h).al (z:=.agg #[.string ⟨#[]⟩,.string ⟨#[]⟩,Vi 0,Vi 0,Vi 0]) Kq;have m:=A.ext q.e;have ah:=A.p4.2.2.1;refine⟨_,_,M _,_,ld B (m.c 4 _ B),_,.inl Pq,Pq,_,ACz g m.p4 d G,?_⟩;rintro _ h2 ⟨r,z,rfl,N,ai,O⟩;have P:D.atR i=(z:Int)-1:=by
   have Q:=Ye (p:=λz=>decide (i+1<=E1 D.p4.ws D.p4.w z)) N (λj hj=>decide_eq_false λs=>?_) λs=>decide_eq_true (O s)
   .unfold Dt.atR;rw[Q]
   have:=Age K.2.2.2.2.2.2.2.2 (z-1-j) j G;rw[show j+(z-1-j)=z-1 by omega] at this;omega
  have o:=m.ext r;refine⟨_,ld B (o.c 2 _ B),Pq,_,c92 g o.t2 d G,?_⟩;rintro _ a ⟨t,st,aj,rfl,R,T⟩;have V:=(q.ext r).ext t;have k:=o.ext t;refine⟨[],Kq,_,ld B (k.c 3 _ B),_,ld B (k.c 5 _ B),GZ (Xo (h:=a.ad) g (show BX a _ _ _ _ from k.p5) d G) ?_⟩;have u:=AT (AA.refl a);refine⟨B,_,c92 (h:=(nb a).ad) g (show DE (nb a) _ _ from (k.ext u).t3) d G,?_⟩;rintro _ f ⟨v,W,ak,rfl,X,aa⟩;have x:=u.trans v.aa;have l:=k.ext x;refine⟨v.ag,[],Kq,_,ld B (l.c 6 _ B),GZ (Xo (h:=((nb a).aa f).ad) g (show BX ((nb a).aa f) _ _ _ _ from l.p6) d G) ?_⟩;have y:=AT (AA.refl ((nb a).aa f));have C:=l.ext y;refine⟨B,_,ld B (C.c 7 _ B),GZ (Xo (h:=(nb ((nb a).aa f)).ad) g (show BX (nb ((nb a).aa f)) _ _ _ _ from C.p7) d G) ?_⟩;have n8:=AT y;have E:=l.ext n8;refine⟨B,_,ld B (E.c 8 _ B),GZ (Xo (h:=(nb (nb ((nb a).aa f))).ad) g (show BX (nb (nb ((nb a).aa f))) _ _ _ _ from E.p8) d G) ?_⟩;have F:=(V.ext x).ext Jq;obtain⟨e,he⟩:∃e:CI,e=⟨st,W,Hm D.p6.n D.p6.w D.p6.ws i,Hm D.p7.n D.p7.w D.p7.ws i,Hm D.p8.n D.p8.w D.p8.ws i⟩:=⟨_,B⟩;obtain⟨H,ab,ad,ae⟩:=Own.bD (h:=(nb (nb (nb ((nb a).aa f)))).ad) Kq (F.dD (i:=0) B) (vs:=BV e) B (by show 0+5<=5;decide) B;have af:Own ((nb (nb (nb ((nb a).aa f)))).aa H) h.nx 114 (BV e):=ad.aa;subst he;refine⟨B,_,ab,_,EQ Kq af.cells B,(F.e.ah ae.aa (Ae _):AA h ((nb (nb (nb ((nb a).aa f)))).aa H)),_,B,⟨⟨R,X⟩,Im _ _ _ _,Im _ _ _ _,Im _ _ _ _⟩,by rw[Dt.bG,P,T,aa]⟩
def Avq (g:Base S L) {a b:Int}:Bk S L 1 123 [Vi a,Vi b] h λw J=>AA h J/\w=.func (.func 202) #[] #[AG h.nx 0,AG (h.nx+1) 0]/\Cell J h.nx 0 (Vi a)/\Cell J (h.nx+1) 0 (Vi b):=
 Cn f123 g λd l _=>by
  obtain⟨h1,b1,i,j,k⟩:=H1 Ax 3 (Vi a) h;obtain⟨m,c,e,f,n⟩:=H1 Ax 3 (Vi b) h1;rw[k] at c f;exact⟨_,_,b1,_,_,c,i.trans e,B,(j.cell B).ext e,f.cell B⟩
def c56 (a:Base S L) {D:Dt} (A:DT h b D):Bk S L 2 56 [AG b 0] h λw J=>AA h J/\w=.func (.func 202) #[] #[AG h.nx 0,AG (h.nx+1) 0]/\Cell J h.nx 0 (Vi 0)/\Cell J (h.nx+1) 0 (Vi D.p5.n):=
 Cn f56 a λd i _=>by
  refine⟨_,ld B (A.c 5 _ B),GZ (K3 a A.p5.1 d G) ?_⟩;refine⟨_,Avq a d G,?_⟩;rintro _ j ⟨e,rfl,f,g⟩;exact⟨e,B,f,g⟩
def ADq (l:Base S L) {f dy:Nat} (r:n<=100000000) (s:a<=100000000) (c:Nat->Y->Prop) (g:∀k b,c k b->Cell b p 0 (Vi a)/\Cell b q 0 (Vi n)) (h0:c 0 h)
 (m:∀k b,c k b->a+k<n->ZP S L dy (.yield f) [Vi ((a+k:Nat):Int)] b λu J=>u=.bool Ag/\c (k+1) J):
 Bk S L (dy+1) 202 [.func (.yield f) #[] #[],AG p 0,AG q 0] h λ_ J=>c (n-a) J:=
 Cn f202 l λd t v=>by
  refine⟨_,ld B (g 0 h h0).1,λi A b=>∃k:Nat,A=[(0,.func (.yield f) #[] #[]),(2,AG q 0),(4,Vi ((a+k:Nat):Int))]/\k<=n-a/\i=n-a-k/\c k b,
   ⟨_,_,Sq,G,0,B,Al _,B,h0⟩,?_⟩
  rintro i A b ⟨k,rfl,w,rfl,j⟩ x;refine⟨_,ld B (g k b j).2,Bz (λe=>?_) (λe=>?_)⟩
  .refine⟨_,m k b j G d G,?_⟩
   rintro _ y ⟨rfl,o⟩;exact⟨Pq,_,_,Sq,G,k+1,B,G,B,o⟩
  .obtain rfl:k=n-a:=G
   exact j
def c55 (M:Base S L) {D:Dt} (A:DT h b D) (hf:D.fits) (hp:Cell h p 0 (Vi a)) (hq:Cell h q 0 (Vi N)) (ha:a<=20000) (hn:N<=20000):
 Bk S L 12 55 [AG b 0,.func (.func 202) #[] #[AG p 0,AG q 0]] h λw J=>AA h J/\∃es:List CI,Dq J w es/\es.length=N-a/\(∀e∈es,e.small)/\es=(BG (N-a)).map λj=>D.bG ((a+j:Nat):Int):=
 Zd (fn:=f55) M Kq B λd ae=>by
  obtain⟨C,y1,s1⟩:=(Sep.nil h).box Ax 36 (AG b 0);obtain⟨c,y2,s2⟩:=s1.al (z:=.slice Z 0 0) Kq;have s3:=s2.add (a:=aS h.nx 114 5 (.slice Z 0 0) 0 []) (AA.refl _) (AS.nil _ _ _ _) (λi U=>U.elim);refine⟨Dc B,_,_,y1,_,_,y2 _,XI (τ:=Ax) (f:=202) (fn:=f202) Kq B,T3 λg aa=>?_⟩;have s4:=s3.add (a:=aB c.nx (.aq Ah)) (AA.new c (.aq Ah)) ⟨by rw[Ck];omega,by rw[CK,Bi B]⟩ (λi U=>A2 U.symm);have s5:=s4.add (a:=aB (A3 c.nx) (g .ready Z)) (AA.new _ (g .ready Z)) ⟨by rw[Ck,Ck];omega,by rw[CK,Ck,Bi B]⟩ (λi U=>by rw[Ck];exact A2 U.symm)
  let O:Nat->Y->Prop:=λk h2=>∃(cv:Aa) (es:List CI),es=(BG k).map (λj=>D.bG ((a+j:Nat):Int))/\(∀e∈es,e.small)/\Sep h h2 [aB (A3 c.nx) (g .ready Z),aB c.nx (.aq Ah),aS h.nx 114 5 cv es.length (es.flatMap BV),aO C.nx 24 [cv],aO h.nx 36 [AG b 0]]
  have hy:∀k y,O k y->a+k<N->ZP S L 10 (.yield (A3 c.nx)) [Vi ((a+k:Nat):Int)] y λu J=>u=.bool Ag/\O (k+1) J:=by
   rintro k y ⟨cv,es,E,P,s⟩ hk n af;obtain rfl:es.length=k:=by rw[E];simp
   obtain⟨m,rfl⟩:∃m,n=m+1:=⟨n-1,G⟩;refine aa m [(2,AG h.nx 0),(5,AG C.nx 0)] _ y _ (Sq) (s.a7 (i:=0) B) ?_;refine⟨s.a7 (i:=0) B,?_⟩;have r:=s.ah (i:=0) (a':=aB (A3 c.nx) (g .busy Z)) B (Er.put y (A3 c.nx) (g .busy Z)).ae ⟨by rw[Cc];exact(s.2.1 0 _ B).1.1,by rw[BQ,Bi B]⟩ (λx o=>.inl o);generalize y.put (A3 c.nx) (g .busy Z)=H at r⊢;refine⟨[],Kq,_,ld B ((r.dD (i:=3) B).cell B:Cell H C.nx 0 cv),_,ld B ((r.dD (i:=4) B).cell (i:=0) B:Cell H h.nx 0 (AG b 0)),_,ACy (h:=H.ad) M ((A.ext r.e).ext (AA.ad H)) hf (i:=((a+es.length:Nat):Int)) G m G,?_⟩;rintro _ T ⟨V,e,rfl,Q,ab⟩;have F:=r.bz V;obtain⟨gx,e1,W,h8,t8,K,hB⟩:=F.bo (st:=24) (t2:=24) (e:=114) (k:=5) Kq (i:=2) B (ys:=BV e) B B F.e.nx G (n':=(es++[e]).length) (xs':=(es++[e]).flatMap BV) (by simp) (by simp);obtain⟨h9,t9,R⟩:=K.stM (t:=24) B (i:=3) B (j:=0) (v:=W) (by show 0<1;decide) (D5 (K.sl (i:=2) B));subst e1;have ad:=R.ah (i:=0) (a':=aB (A3 c.nx) (g .ready Z)) B (Er.put _ (A3 c.nx) (g .ready Z)).ae ⟨by rw[Cc];exact(R.2.1 0 _ B).1.1,by rw[BQ,Bi B]⟩ (λx o=>.inl o);refine⟨V.ag,_,_,Iv (τ:=Ax) (t:=24) (e:=114) (k:=5) Kq (.agg ⟨BV e⟩) B B (by decide) _,_,_,t8,_,t9,.busy,Z,R.a7 (i:=0) B,B,W,es++[e],by rw[Acb,BS,←E,ab];rfl,λx o=>?_,ad⟩;rcases List.mem_append.1 o with o|o
   .exact P x o
   .rw[List.mem_singleton.1 o];exact Q
  refine⟨_,ADq M (a:=a) (n:=N) (dy:=10) G G O (λk y ⟨cv,es,_,_,s⟩=>⟨hp.ext s.e,hq.ext s.e⟩) ⟨_,[],B,(λe Q=>by cases Q),s5⟩ hy d G,?_⟩;rintro u X ⟨cv,es,E,P,r⟩;refine⟨.ready,Z,r.a7 (i:=0) B,(by intro h;cases h),?_⟩;have F:=r.ah (i:=0) (a':=aB (A3 c.nx) (g .exhausted Z)) B (Er.put X (A3 c.nx) (g .exhausted Z)).ae ⟨by rw[Cc];exact(r.2.1 0 _ B).1.1,by rw[BQ,Bi B]⟩ (λx o=>.inl o);generalize X.put (A3 c.nx) (g .exhausted Z)=T at F⊢;have K:Sep h T ([aS h.nx 114 5 cv es.length (es.flatMap BV),aO C.nx 24 [cv],aO h.nx 36 [AG b 0]]++Oc [c.nx]):=
   ((F.drop 1).perm (l':=[aS h.nx 114 5 cv es.length (es.flatMap BV),aO C.nx 24 [cv],aO h.nx 36 [AG b 0]]++Oc [c.nx]) (Gm _ _).symm)
  refine⟨_,ld B ((K.dD (i:=1) B).cell (i:=0) B),?_⟩;obtain⟨n1,n2,n3,n4⟩:=Sep.aq (l:=[aS h.nx 114 5 cv es.length (es.flatMap BV),aO C.nx 24 [cv],aO h.nx 36 [AG b 0]]) (D:=[c.nx]) K;exact JM _ n1 n2 λJ _ hc=>⟨(n4 J hc).e,es,((n4 J hc).sl (i:=0) B).rd,(by rw[E];simp:es.length=N-a),P,E⟩
def AEj (f:Base S L) {D:Dt} (A:DT h b D):Bk S L 1 203 [AG b 0] h λw J=>J=h/\w=Vi D.ps.length:=
 Cn f203 f λd g _=>by
  have a:=A.c 0 _ B;obtain⟨_,V,i,e,_⟩:=A.pos;rw[e] at a;exact⟨_,B,_,ld B a,B,B⟩
def ACt (m:Base S L) {D:Dt} (A:DT h b D) {i:Int}:Bk S L 1 204 [AG b 0,Vi i] h λw J=>J=h/\∃z:Int,w=Vi z/\(z=0\/∃q∈D.ps,z=q.2):=
 Cn f204 m λd r _=>by
  have j:=A.pos;have a:=A.c 0 _ B;obtain⟨_,V,s,e,_⟩:=A.pos;rw[e] at a j;refine⟨_,B,Bz (λn=>?_) (λn=>?_)⟩
  .exact⟨B,0,B,.inl B⟩
  refine⟨_,ld B a,Bz (λo=>?_) (λo=>?_)⟩
  .exact⟨B,0,B,.inl B⟩
  obtain⟨k,rfl⟩:∃k:Nat,i=k:=⟨i.toNat,G⟩;have g:k<D.ps.length:=G;obtain⟨a1,t,p,_,l⟩:=Rd.el j g;cases p;rw[flatK (f:=Mm) (λ_=>rfl) D.ps (Ab g)] at l;exact⟨_,ld B a,G,_,ld B (BK.at l B:Cell h a1.block (a1.off+(k:Int).toNat*2+1) (Vi D.ps[k].2)),B,_,B,.inr ⟨_,Bu g,B⟩⟩
def c75 (a:Base S L) {D:Dt} (A:DT h b D) {i j:Int}:Bk S L 4 75 [AG b 0,Vi i,Vi j] h λw J=>J=h/\w=Vi (Mz D.mn D.df D.ml i j):=
 Cn f75 a λd l _=>by
  obtain⟨m,e,f,g,k⟩:=A.cJ;refine⟨_,B,_,ld B (A.c 1 _ B),GZ (ADb a (show Vk h D.mb D.mn D.df D.ml from⟨e,f,D.mr,g,k⟩) d G) ?_⟩;exact⟨B,B⟩
def Afw {D:Dt} (f:D.fits) (i:Int):0<=Hm D.p4.n D.p4.w D.p4.ws i/\Hm D.p4.n D.p4.w D.p4.ws i<=20000:=by
 have h1:=f.1;refine⟨(Im _ _ _ _).1,?_⟩;unfold Hm;split
 .have:=f.2.2.2.2.2.2.2.1 i.toNat G
  omega
 .omega
def Dt.has (D:Dt) (e:CI):Prop:=e.small/\∃i:Nat,i<D.p5.n/\e=D.bG (i:Int)
def Awh (g:Base S L) {D:Dt} (A:DT h b D) (f:D.fits) {i:Int} (U:0<=i/\i<=1000000000):Bk S L 14 206 [AG b 0,Vi i] h λw J=>AA h J/\∃es:List CI,Dq J w es/\es.length<=20000/\∀e∈es,D.has e:=
 Cn f206 g λd H _=>by
  have f1:=f.1;refine⟨[],Kq,_,ld B (A.c 4 _ B),_,ld B (A.c 5 _ B),GZ (K3 (h:=h.ad) g (show Cell h _ _ _ from(A.p5:BX _ _ _ _ _).1) d G) ?_⟩;have m:=AT (AA.refl h);refine⟨B,GZ (AGe (h:=(nb h).ad) g (show BX (nb h) _ _ _ _ from (A.ext m).p4) G d G) ?_⟩;have t:=AT m;have u:=Afw f i;have v:0<=(if i+1<(D.p4.n:Int) then Hm D.p4.n D.p4.w D.p4.ws (i+1) else(D.p5.n:Int))/\(if i+1<(D.p4.n:Int) then Hm D.p4.n D.p4.w D.p4.ws (i+1) else(D.p5.n:Int))<=20000:=by
   have:=Afw f (i+1);split<;>omega
  obtain⟨a,o⟩:∃a:Nat,Hm D.p4.n D.p4.w D.p4.ws i=a:=⟨(Hm D.p4.n D.p4.w D.p4.ws i).toNat,G⟩;obtain⟨N,k⟩:∃N:Nat,(if i+1<(D.p4.n:Int) then Hm D.p4.n D.p4.w D.p4.ws (i+1) else(D.p5.n:Int))=N:=⟨(if i+1<(D.p4.n:Int) then Hm D.p4.n D.p4.w D.p4.ws (i+1) else(D.p5.n:Int)).toNat,G⟩
  rw[o] at u;rw[k] at v;refine⟨B,_,Avq (h:=(nb (nb h)).ad) g d G,?_⟩;rintro _ x ⟨p,rfl,y,z⟩;rw[o] at y;rw[k] at z;have q:=t.trans p.aa;refine⟨p.ag,_,c55 (h:=((nb (nb h)).aa x).ad) g (A.ext q).ad f Jq Jq G G d G,?_⟩;rintro w K ⟨r,es,C,M,E,F⟩;refine⟨r.ag,q.trans r.aa,es,Rd.aa C,G,λe l=>⟨E e l,?_⟩⟩;rw[F] at l;obtain⟨j,s,rfl⟩:=List.mem_map.1 l;have s:=List.mem_range.1 s;have O:N<=D.p5.n:=by
   split at k
   .unfold Hm at k
    split at k
    .have:=f.2.2.2.2.2.2.2.1 (i+1).toNat G;omega
    .omega
   .omega
  exact⟨a+j,G,B⟩
def AAp (a:Base S L) {D:Dt} (A:DT h b D) (f:D.fits) (i:s.size<=100000000):Bk S L 15 133 [AG b 0,.string s] h λw J=>AA h J/\∃es:List CI,Dq J w es/\es.length<=20000/\∀e∈es,D.has e:=
 Cn f133 a λd o _=>by
  refine⟨_,B,_,ld B (A.c 2 _ B),_,ABs a A.t2 i d G,?_⟩;rintro _ h1 ⟨g,k,p,rfl,q⟩;refine⟨_,_,B,Ad (λe=>?_) (λe=>?_)⟩
  .exact⟨g,[],(AS.nil h1 0 114 5).rd,Al _,λe j=>by cases j⟩
  .refine⟨_,Awh a (A.ext g) f G d G,?_⟩
   rintro w r ⟨l,es,E,m,n⟩;exact⟨g.trans l,es,E,m,n⟩
def Zb:∀es:List CI,(es.flatMap BV).all one=Ag
 |[]=>rfl
 |e::es=>by rw[Dg,Aph,Zb es];rfl
def Akf (p:Nat×Nat):AH:=[.int .i64 p.1,.int .i64 p.2]
def ADy (n:Base S L) {D:Dt} (A:DT h b D) (f:D.fits) (hs:s.size<=10000):Bk S L 16 129 [AG b 0,.string s] h λw J=>AA h J/\∃es:List CI,AS J h.nx 114 5 w es.length (es.flatMap BV)/\es.length<=20000*s.size/\∀e∈es,D.has e:=
 Cn f129 n λd ad hL=>by
  refine⟨_,B,_,ld B (A.c 2 _ B),_,ABu n A.t2 G d G,?_⟩;rintro O h1 ⟨p,a,P,Q,ae⟩;have u:Rd h1 O 2 a.length (a.flatMap Akf):=P.rd;have R:=u;obtain⟨_,T,V,rfl,af,ag,hA⟩:=u;refine⟨λy C j=>∃(k:Nat) (cv:Aa) (es:List CI),C=[(0,AG b 0),(5,cv),(15,.slice T a.length V),(16,Vi a.length),(17,Vi k)]/\k<=a.length/\y=a.length-k/\es.length<=20000*k/\(∀e∈es,D.has e)/\AA h1 j/\AS j h1.nx 114 5 cv es.length (es.flatMap BV),
   ⟨_,_,Sq,G,0,_,[],B,Al _,B,Al _,(λe g=>by cases g),AA.refl _,AS.nil _ _ _ _⟩,?_⟩
  rintro y C j ⟨k,cv,es,rfl,hk,rfl,ah,E,x,o⟩ ai;apply Bz<;>intro k1;rotate_left
  .exact⟨p.trans x,es,o.mono p.nx,by have:=Nat.mul_le_mul_left 20000 (show k<=s.size by omega);omega,E⟩
  have F:k<a.length:=G;obtain⟨a1,y1,W,_,H⟩:=(R.ext x).el F;cases W;rw[flatK (f:=Akf) (λ_=>rfl) a (Ab F)] at H;obtain⟨q,X⟩:∃q,q=a[k]:=⟨_,B⟩;have aj:=Q q Jq;rw[←X] at H;obtain⟨g1,z1,g2,z2,l⟩:=(Sep.nil j).var (t:=326) (z:=.agg #[Vi 0,Vi 0]) Kq (v:=.agg ⟨Akf q⟩) B B B;have aa:=(p.trans x).trans l.e;refine⟨G,_,EQ Kq Jq B,_,_,z1 _,_,z2,_,ld B ((l.dD (i:=0) B:Own g2 j.nx 326 (Akf q)).cell B),_,Awh n (A.ext aa) f G d G,?_⟩;rintro w3 h3 ⟨r,m,K,ak,ab⟩;have M:=(o.ext l.e).ext r;obtain⟨v4,h4,u1,N,u3,u4⟩:=UN Kq M (Rd.bu K) (Rd.src K) (HV (f:=BV) (λ_=>rfl) m) (Zb m) (((x.trans l.e).trans r).nx) (G:es.length+m.length<=1000000000);rw[←E0,←Aj] at N;refine⟨_,_,u1,Pq,_,_,Sq,G,k+1,v4,es++m,B,G,B,Jq,λe g=>?_,(((x.trans l.e).trans r).then u3 λi U=>M.ai i U:AA h1 h4),N⟩
  rcases List.mem_append.1 g with g|g
  .exact E e g
  .exact ab e g
def ACa (b:Base5 S L) (g:Ce h) (i:s.size<=100000000):Bk S L 7 124 [.string s] h λw J=>AA h J/\∃z:Int,w=Vi z/\(z=0->1<=El s/\El s<=64):=
 Cn f124 b.toBase λd j _=>by
  refine⟨_,c58 b g i d G,?_⟩;rintro _ h1 ⟨a,rfl⟩;refine Ad (λ_=>⟨a,_,B,λh=>Cf h (by decide)⟩) (λc=>?_);refine Ad (λ_=>⟨a,_,B,λh=>Cf h (by decide)⟩) (λe=>?_);exact Ad (λ_=>⟨a,_,B,λh=>Cf h (by decide)⟩) (λf=>⟨a,_,B,λ_=>by
   have c:=KK c;have e:=KK e;have f:=KK f;omega⟩)
def AEv (a:Base5 S L) (c:Ce h) (f:s.size<=100000000):Bk S L 9 131 [.string s] h λw J=>AA h J/\∃b:Bool,w=.bool b/\(b=Ag->s.size<=256):=
 Cn f131 a.toBase λd j _=>by
  refine⟨_,Auu a c (e:=⟨_,s,0,0,0⟩) (Ac (by rfl)) f d G,?_⟩;rintro _ h1 ⟨g,z,rfl,i⟩;exact⟨g,_,B,λh=>(i (Fp h)).2⟩
def ABi (m:Base S L) {es:List CI} (c:Dq h v es) (y:es.length<=1000000000) (n:YQ S L e fv h es λv=>∃b,v=.bool b):
 Bk S L (e+1) 208 [v,fv] h λw J=>AA h J/\∃z:Int,w=Vi z:=
 Cn f208 m λd C D=>by
  have o:=c;obtain⟨g,first,cap,rfl,p⟩:=n
  obtain⟨E,q,r,rfl,F,H,K⟩:=c;refine⟨λi A a=>∃k:Nat,A=[(0,.slice q es.length r),(1,.func (.func g) first cap),(7,Vi es.length),(8,Vi k)]/\k<=es.length/\i=es.length-k/\AA h a,
   ⟨_,_,Sq,G,0,B,Al _,B,AA.refl _⟩,?_⟩
  rintro i A a ⟨k,rfl,M,rfl,x⟩ N;apply Bz<;>intro O
  .have j:k<es.length:=G
   obtain⟨a1,P,s,_,t⟩:=(Rd.ext o x).el j;cases s;rw[flatK (f:=BV) (λ_=>rfl) es (Ab j)] at t;refine⟨G,_,EQ Kq Jq B,_,p _ Jq a x d G,?_⟩;rintro _ Q ⟨l,b,rfl⟩;refine Ad (λu=>?_) (λu=>?_)
   .exact⟨x.trans l,k,B⟩
   .exact⟨Pq,_,_,Sq,G,k+1,B,G,B,x.trans l⟩
  .exact⟨x,-1,B⟩
def AEc (a:Base S L) {es:List CI} (c:Dq h v es) (f:es.length<=1000000000) (g:YQ S L e fv h es λv=>∃b,v=.bool b):
 Bk S L (e+2) 132 [v,fv] h λw J=>AA h J/\∃b:Bool,w=.bool b:=
 Cn f132 a λd j _=>by
  refine⟨_,ABi a c f g d G,?_⟩;rintro _ h1 ⟨i,z,rfl⟩;exact⟨i,_,B⟩
def ABd (a:Base S L) {e:CI} (c:Cell h b 1 (.string s)):Bk S L 1 134 [.agg ⟨BV e⟩,AG b 0] h λw J=>AA h J/\∃b,w=.bool b:=
 Cn f134 a λd f _=>by
  obtain⟨g,y,x,o⟩:=PF e h;exact⟨_,_,y,_,ld B (o.cell B),_,ld B (c.ext x),_,B,x,_,B⟩
def ACg (a:Base S L) {D:Dt} (A:DT h b D) (l:D.ps.length<=100000000):Bk S L 2 127 [AG b 0] h λw J=>AA h J/\∃z:Nat,w=Vi z/\(z=0\/z<D.ps.length):=
 Cn f127 a λd m n=>by
  refine⟨λc f g=>∃k:Nat,f=[(0,AG b 0),(3,Vi k)]/\k<=D.ps.length+1/\c=D.ps.length+1-k/\AA h g,
   ⟨_,_,Sq,G,1,B,G,B,AA.refl _⟩,?_⟩
  rintro c f g ⟨k,rfl,o,rfl,x⟩ p;have i:=A.ext x;refine⟨_,AEj a i d G,?_⟩;rintro _ _ ⟨rfl,rfl⟩;apply Bz<;>intro e
  .refine⟨_,ACt a i d G,?_⟩
   rintro _ _ ⟨rfl,z,rfl,_⟩;refine Ad (λj=>?_) (λj=>?_)
   .exact⟨x,k,B,.inr G⟩
   .exact⟨Pq,_,_,Sq,G,k+1,B,G,B,x⟩
  .exact⟨x,0,B,.inl B⟩
def Lj (v:Aa):Prop:=∃z:Int,v=.int .i32 z
def LJ:∀(n:Nat) (l:Bl),(CA n l).length<=n/\∀v∈CA n l,Lj v
 |0,_=>⟨Ae _,λv a=>by cases a⟩
 |_+1,[]=>⟨Al _,λv a=>by cases a⟩
 |
  n+1,b::l=>by
  obtain⟨h1,c⟩:=LJ n ((b::l).drop (FF (b::l)).2);rw[CA];refine⟨Jq,λv a=>?_⟩;rcases List.mem_cons.1 a with rfl|a
  .exact⟨_,B⟩
  .exact c v a
def ADp (b:Base5 S L) (i:Ce h) (j:s.size<=100000000):Bk S L 6 125 [.string s] h λw J=>AA h J/\((FH s=Ah/\w=.tuple #[.slice Z 0 0,.bool Ah])\/∃l:AH,(FH s=Ag/\l=CA s.size s.data.toList)/\w=.tuple #[sL (J.nx-1) l.length l.length,.bool Ag]/\Own J (J.nx-1) 21 l/\h.nx<=J.nx-1/\l.length<=s.size/\∀v∈l,Lj v):=
 Cn f125 b.toBase λd k _=>by
  refine⟨_,b.valid i j d G,?_⟩;rintro _ h1 ⟨a,rfl⟩;refine⟨_,_,B,Ad (λe=>?_) (λe=>?_)⟩
  .exact⟨a,.inl ⟨by simpa using e,B⟩⟩
  obtain⟨l,c⟩:∃l,l=CA s.size s.data.toList:=⟨_,B⟩;obtain⟨f,g⟩:=LJ s.size s.data.toList;rw[←c] at f g;have nx:(HY h1 21 l).nx-1=h1.nx:=by unfold HY;rw[Ck];rfl
  refine⟨_,_,(by rw[c];rfl:Ea Ax 9 176 (.string s) h1=I (sL h1.nx l.length l.length,HY h1 21 l)),a.trans (AA.a4 h1 21 l),.inr ⟨l,Jq,?_,?_,?_,f,g⟩⟩
  .rw[nx];rfl
  .rw[nx];exact Own.a4 h1 21 l
  .rw[nx];exact a.nx
def Jt (v:Aa):Prop:=∃a b:Bd,v=.agg #[.string a,.string b]/\a.size<=400/\b.size<=400
def CZ (v:Aa):Prop:=∃z:Int,v=.int .i64 z/\0<=z/\z<=30000
def Axg (a b c d:Bd):IZ Ax Op.maxDepth 238 (.agg #[Sg a,Sg b]) (.agg #[Sg c,Sg d])=I (Gp a.data.toList c.data.toList&&Gp b.data.toList d.data.toList):=by
 rw[(by rfl:IZ Ax Op.maxDepth 238 (.agg #[Sg a,Sg b]) (.agg #[Sg c,Sg d])=(match I (Gp a.data.toList c.data.toList) with|some Ag=>(match I (Gp b.data.toList d.data.toList) with|some Ag=>I Ag|some Ah=>I Ah|none=>Z)|some Ah=>I Ah|none=>Z))]
 cases Gp a.data.toList c.data.toList<;>cases Gp b.data.toList d.data.toList<;>rfl
def XA:K8 Ax 238 Jt:=by
 rintro _ ⟨a,b,rfl,_⟩;refine⟨B,?_⟩;rintro _ ⟨c,d,rfl,_⟩;refine⟨_,Axg a b c d,λh=>?_⟩;rw[An] at h;obtain rfl:=CJ.1 h.1;obtain rfl:=CJ.1 h.2;show((Cy (Sg a) (Sg a))&&((Cy (Sg b) (Sg b))&&Ag))=Ag;have e:Cy (Sg a) (Sg a)=true:=h.1;have f:Cy (Sg b) (Sg b)=true:=h.2;rw[e,f];rfl
def ACs (O:Base S L) {c:List RT} (p:Ls h v c) (hn:c.length<=100000000) (P:∀x∈c,x.1.size<=400/\x.2.size<=400):Bk S L 1 126 [v] h λw J=>AA h J/\∃r,w=.map (I r)/\Avm J r Jt CZ c.length/\h.nx<=r:=
 Cn f126 O λd ad hL=>by
  have Q:=p;obtain⟨hr,R,T,rfl,ae,af,hA⟩:=p;have V:=(Sep.nil h).add (a:=PW h.nx Jt CZ 0) (AA.new h (.map [] 0)) ⟨Gy.new h _ _,[],0,by rw[CK,Bi B],Ae _⟩ λi U=>A2 U.symm;refine⟨λC A l=>∃k:Nat,A=[(3,.map (I h.nx)),(8,.slice R c.length T),(9,Vi c.length),(10,Vi k)]/\k<=c.length/\C=c.length-k/\Sep h l [PW h.nx Jt CZ k],
   ⟨_,_,Sq,G,0,B,Al _,B,V⟩,?_⟩
  rintro C A l ⟨k,rfl,hk,rfl,s⟩ ag;apply Bz<;>intro k1;rotate_left
  .obtain rfl:k=c.length:=G
   exact⟨s.e,h.nx,B,(s.2.1 0 _ B).1,Ae _⟩
  have o:k<c.length:=G;obtain⟨a1,y1,W,_,m⟩:=(Rd.ext Q s.e).el o;cases W;rw[flatK (f:=Qm) (λ_=>rfl) c (Ab o)] at m;obtain⟨⟨a,b,n⟩,D⟩:∃q,q=c[k]:=⟨_,B⟩;have E:a.size<=400/\b.size<=400:=by
   have:=P _ (Bu o);rw[←D] at this;exact this
  rw[←D] at m;obtain⟨g1,X,u,z2,F⟩:=s.var (t:=59) (z:=.agg #[Sg ⟨#[]⟩,Sg ⟨#[]⟩,Vi 0]) Kq (v:=.agg ⟨Qm ⟨a,b,n⟩⟩) B B B;have H:=F.dD (i:=0) B;obtain⟨g3,z3,g,z4,j⟩:=F.var (t:=238) (z:=.agg #[Sg ⟨#[]⟩,Sg ⟨#[]⟩]) Kq (v:=.agg #[Sg a,Sg b]) B B B;obtain⟨lv,bb,l1,l2,l3⟩:=QH (t:=231) (et:=3) Kq XA (z:=Vi 0) Kq (j.cz (i:=2) B) ⟨a,b,B,E⟩ Ah;obtain⟨x,rfl,K⟩:CZ lv:=by
   cases bb with
   |true=>exact l2 B
   |false=>rw[l3 B];exact⟨0,B,by decide,by decide⟩
  have M:Bw Ax 238 g.ad u.nx 0=I (.agg #[Sg a,Sg b]):=EQ Kq (show BK g u.nx 0 [Sg a,Sg b] from (j.dD (i:=0) B:Own g u.nx 238 [Sg a,Sg b]).cells) B;have c2:Cell g l.nx 2 (Vi n):=(j.dD (i:=1) B:Own g l.nx 59 [Sg a,Sg b,Vi n]).cell B;refine⟨G,_,EQ (k:=3) Kq Jq B,_,_,X _,_,z2,_,ld B (H.cell (i:=0) B),_,ld B (H.cell (i:=1) B),_,_,z3 _,_,z4,[],Kq,_,M,_,M,_,_,Cs (CN g.ad) l1,_,ld B c2,?_⟩;intro z hz y hy;obtain⟨h5,N,m5,v5⟩:=Aju (h:=g.ad) (τ:=Ax) (t:=231) (kt:=238) (et:=3) Kq XA (show Gy g h.nx Jt CZ from j.cz (i:=2) B) (k:=.agg #[Sg a,Sg b]) (v:=Vi y) ⟨a,b,B,E⟩ ⟨y,B,G,G⟩;obtain⟨_,es,ck,ah,ai⟩:=(j.2.1 2 _ B).1;obtain⟨aa,ab,m,q2⟩:=Zj (h:=g.ad) N Jq;have s5:=(j.aZ (i:=2) (a':=PW h.nx Jt CZ (k+1)) B v5.ae ⟨m5,aa,ab,m,G⟩ (λx K=>.inl K)).drop 2;exact⟨_,_,(by rw[N];rfl:Nb (BH Ax 231 (.map (I h.nx)) (.agg #[Sg a,Sg b]) (Vi y) g.ad)=I (.tuple #[],h5)),Pq,_,_,Sq,G,k+1,B,G,B,s5⟩
def slS (a:m<=s.size):C7 Ax 9 (.string s) Z (I (Vi (m:Int))) Z=I (.string (EY ((s.data.toList.drop 0).take (m-0)))):=by
 show(bif Ar 0 m&&Ar m s.size then I (Value.string (EY ((s.data.toList.drop 0).take (m-0)))) else Z)=_
 rw[Aq a];rfl
def Azn (a:Base S L) {t:Bd}:Bk S L 1 207 [.string s,.string t] h λw J=>J=h/\∃b:Bool,w=.bool b/\(b=Ag->t.size<=s.size):=
 Cn f207 a λd c _=>by
  refine Bz (λe=>?_) (λe=>?_)
  .exact⟨_,_,Cs (CN _) (slS G),_,B,B,_,B,λ_=>G⟩
  .exact⟨B,Ah,B,λh=>by cases h⟩
def AGo (a:Base S L) {t:Bd}:Bk S L 2 130 [.string s,.string t] h λw J=>J=h/\∃b:Bool,w=.bool b/\(b=Ag->t.size<=s.size):=
 Cn f130 a λd c _=>by
  refine⟨_,Azn a d G,?_⟩;rintro _ _ ⟨rfl,b,rfl,hb⟩;exact⟨B,b,B,hb⟩
def Rd.rune (r:Rd h v 1 n xs) (a:∀u∈xs,Lj u) (b:k<n):∃A c z,v=.slice (I A) n c/\Cell h A.block (A.off+k*1+0) (.int .i32 z):=by
 have f:xs.length=n:=by have:=r.1;omega
 obtain⟨A,c,e,_,q⟩:=r.el b;obtain⟨z,d⟩:=a xs[k] Jq;refine⟨A,c,z,e,q.at ?_⟩;rw[LS,Bi Jq,Eg,BJ,UL,Ab G,d]
def AAu (o:Base S L) (Q:n<=100000000) (p:∀u∈xs,Lj u) (U:i<n) (x c:Y->Prop) (s:∀a,c a->Rd a v 1 n xs) (h0:x h) (F:Rd h v 1 n xs)
 (H:∃g first cap,fv=.func (.func g) first cap/\(∀a,x a->Bk S L e g (first.toList++[Vi ((i+1:Nat):Int),Vi 10000]++cap.toList) a λ_ J=>c J)/\∀(z k:Nat) a,c a->i<z->z<=n->k<=10000->Bk S L e g (first.toList++[Vi z,Vi k]++cap.toList) a λ_ J=>c J):
 Bk S L (e+3) 135 [v,Vi i,fv] h λ_ J=>c J:=
 Cn f135 o λd R T=>by
  obtain⟨g,first,cap,rfl,K,q⟩:=H
  obtain⟨f,M,V,rfl,W⟩:=F.rune p U;refine⟨Pq,?_⟩;rw[(G:(i:Int)+1=((i+1:Nat):Int))];refine⟨_,K h h0 d G,?_⟩;rintro _ h1 N;refine⟨λy A a=>∃k:Nat,A=[(0,.slice (I f) n M),(1,Vi i),(2,.func (.func g) first cap),(6,Vi k)]/\k<=n/\y=n-k/\c a,
   ⟨_,_,Sq,G,i,B,G,B,N⟩,?_⟩
  rintro y A a ⟨k,rfl,X,rfl,j⟩ aa;apply Bz<;>intro b1
  .obtain⟨C,D,r,l,m⟩:=(s a j).rune p (show k<n by omega)
   cases l;refine⟨G,_,ld B m,_,c68 o d G,?_⟩;rintro _ a ⟨rfl,cl,rfl,_⟩;refine Ad (λE=>?_) (λE=>?_)
   .exact⟨Pq,_,_,Sq,G,k+1,B,G,B,j⟩
   .clear E
    refine⟨Pq,Ad (λa1=>?_) (λa1=>?_)⟩
    .apply Bz<;>intro O
     .refine⟨_,q k 9000 a j Jq G G d G,?_⟩
      rintro _ t b;exact b
     .obtain⟨C,D,r,l,m⟩:=(s a j).rune p (show i-1<n by omega)
      cases l;have P:Cell a f.block (f.off+((i:Int)-1).toNat*1+0) (.int .i32 r):=by rw[show((i:Int)-1).toNat=i-1 by omega];exact m
      refine⟨Pq,G,_,ld B P,_,c68 o d G,?_⟩;rintro _ a ⟨rfl,cl,rfl,_⟩;refine Ad (λw=>?_) (λw=>?_)
      .refine⟨_,q k 9000 a j Jq G G d G,?_⟩
       rintro _ t b;exact b
      .exact j
    .exact j
  .refine⟨Pq,Ad (λa1=>?_) (λa1=>?_)⟩
   .apply Bz<;>intro O
    .refine⟨_,q k 9000 a j Jq G G d G,?_⟩
     rintro _ t b;exact b
    .obtain⟨C,D,r,l,m⟩:=(s a j).rune p (show i-1<n by omega)
     cases l;refine⟨Pq,G,_,ld B (by rw[show((i:Int)-1).toNat=i-1 by omega];exact m:Cell a f.block (f.off+((i:Int)-1).toNat*1+0) (.int .i32 r)),_,c68 o d G,?_⟩;rintro _ a ⟨rfl,cl,rfl,_⟩;refine Ad (λw=>?_) (λw=>?_)
     .refine⟨_,q k 9000 a j Jq G G d G,?_⟩
      rintro _ t b;exact b
     .exact j
   .exact j
section
variable{τ:Bb} {call:Be}
def Axf {S:A9} {L n:Nat} {f:Au} {fn:BC} {e:Ai} {i:KR} (r:τ.fn.get f=I fn) (s:S.hk f=Z) (t:S.ov f=Z) (u:S.nd f=I e) (U:τ.aj.get e=I i) {a:AH} {h:Y} {m:Nat} {l:AH}
 (w:Dv l l=Ag) (z:m=0->l=[.pointer Z]) (c:MT Ag τ (B8 τ S L n) L fn a h.ad λv J=>J.lo.ag h.nx=Ag/\MB J h.nx e i.size v=I (m,l)):
 Cd (B8 τ S L (n+1)) (.func f) a h λv J=>(m=0/\v=.slice Z 0 0/\J=h)\/(m≠0/\v=.slice (I ⟨h.nx,0,Z⟩) m m/\J=HY h e l):=by
 obtain⟨o,A,C,d⟩:=Apm (W1 (p:=λx=>x=.flat m l)) (kp:=λ_ _ _=>Z) (k:=λ_ v J=>bif J.lo.ag h.nx then(match MB J h.nx e i.size v with|some (n,l)=>I [.flat n l]|none=>Z) else Z) S L r s c λv J g=>by
  rw[g.1,g.2];exact⟨_,B,by simp,λx D=>List.mem_singleton.1 D⟩
 have E:ndK τ S (λk=>DY τ S (B8 τ S L n) L f a h.ad k (λ_ _=>Z)) f h=J3 h e (I o):=by
  unfold ndK;simp only[u,U];exact Cs (J3 h e) A
 cases o with
 |nil=>exact Cf B C
 |
  cons x o=>
  obtain rfl:=d x Av;have F:o.all (λx=>match x with|.flat n' l'=>Am n' m&&Dv l l'|_=>Ah)=true:=List.all_eq_true.2 λy H=>by
   obtain rfl:=d y (Az _ H);simp only[w,Mh];exact Mi m
  have j:J3 h e (I (.flat m l::o))=(bif Am m 0 then(match l with|[.pointer Z]=>I (.slice Z 0 0,h)|_=>Z) else I (.slice (I ⟨h.nx,0,Z⟩) m m,HY h e l)):=by
   have K:J3 h e (I (.flat m l::o))=(bif o.all (λx=>match x with|.flat n' l'=>Am n' m&&Dv l l'|_=>Ah) then(bif Am m 0 then(match l with|[.pointer Z]=>I (.slice Z 0 0,h)|_=>Z) else I (.slice (I ⟨h.nx,0,Z⟩) m m,HY h e l)) else Z):=rfl
   rw[K,F];rfl
  have q:∀v J,J3 h e (I (.flat m l::o))=I (v,J)->∀k kp,B8 τ S L (n+1) (.func f) a h k kp=k v J:=λv J M k kp=>by
   simp only[B8,t,E,M]
  by_cases b:m=0
  .have N:=z b
   subst b N;exact⟨_,_,.inl ⟨B,B,B⟩,q _ _ (by rw[j];rfl)⟩
  .refine⟨_,_,.inr ⟨b,B,B⟩,q _ _ ?_⟩
   rw[j,show Am m 0=Ah from Bool.eq_false_iff.2 λe=>b (Af e)];rfl
end
section
variable{S:A9} {L:Nat}
def YC:Nat->DC->Code:=UE (motive:=λ_=>DC->DC) (λ_=>.skip) λ_ d c=>match c with
 |.seq a b=>.seq a (d b)
 |c=>c
def Vf:Nat->DC->Code:=UE (motive:=λ_=>DC->DC) (λc=>c) λ_ a c=>match c with
 |.seq _ b=>a b
 |_=>.skip
def S1 {τ:Bb} {d:Be} {L:Nat} {ro:Option Nat}:∀(n:Nat) (c:DC) (K:Kt) (fr:Fr) (h:Y),
 B7 τ d L ro c K fr h=B7 τ d L ro (YC n c) {n:=λfr h=>B7 τ d L ro (Vf n c) K fr h,x:=K.x,r:=K.r,p:=K.p} fr h
 |0,_,_,_,_=>rfl
 |
  n+1,c,K,fr,h=>by
  cases c with
  |
   seq a b=>
   show B7 τ d L ro a {n:=λfr h=>B7 τ d L ro b K fr h,x:=K.x,r:=K.r,p:=K.p} fr h=B7 τ d L ro a {n:=λfr h=>B7 τ d L ro (YC n b) {n:=λfr h=>B7 τ d L ro (Vf n b) K fr h,x:=K.x,r:=K.r,p:=K.p} fr h,x:=K.x,r:=K.r,p:=K.p} fr h;congr 2;funext fr h;exact S1 n b K fr h
  |_=>rfl
def Afm (τ:Bb) (a:Be) (L:Nat) (fn:BC) (n:Nat) (b:As->Y->Prop) (d:AH) (h:Y) (Q:Aa->Y->Prop):Prop:=
 match fn.body with
 |some c=>(d.length<=fn.ntmps)/\J2 τ a L fn.ntmps (YC n c)
  (kp (λA h=>∃e,Sub e A/\b e h) (λ_ _ _=>False) (λA h=>Ex τ A h fn.results.toList (λvs=>Q (Ff vs) h))) (PJ d 0) h/\
  ∀A h,b A h->J2 τ a L fn.ntmps (Vf n c) (kp (λA h=>Ex τ A h fn.results.toList (λvs=>Q (Ff vs) h)) (λ_ _ _=>False) (λA h=>Ex τ A h fn.results.toList (λvs=>Q (Ff vs) h))) A h
 |none=>False
def P1.cdK {n:Nat} {f:Au} {args:AH} {h:Y} {Q:Aa->Y->Prop} (c:∀a,(match S.ov f with|some g=>g a args h|none=>Z)=Z) (b:S.nd f=Z) (H:P1 Q λy=>DY Ax S (B8 Ax S L n) L f args h y.1 y.2):Cd (B8 Ax S L (n+1)) (.func f) args h Q:=by
 cases e0:S.ov f with
 |none=>exact P1.cd e0 b H
 |some g=>
  have d:g (B8 Ax S L n) args h=none:=by
   have:=c (B8 Ax S L n);rw[e0] at this;exact this
  exact H.imp λ_ h=>h.imp λ_ ⟨q,e⟩=>⟨q,λk kp=>by simp only[B8,e0,d,ndK,b];exact e k kp⟩
def Zcn {d:Nat} {f:Au} {fn:BC} {args:AH} {h:Y} {Q:Aa->Y->Prop} (k:∀a,(match S.ov f with|some g=>g a args h|none=>Z)=Z) (e:S.nd f=Z/\S.hk f=Z) (l:Ax.fn.get f=I fn) (m:Nat) (J:As->Y->Prop)
 (H:∀n,d<=n->Afm Ax (B8 Ax S L n) L fn m J args h Q):Bk S L (d+1) f args h Q:=by
 intro n x;obtain⟨q,rfl⟩:∃q,n=q+1:=⟨n-1,by omega⟩;have c:=H q (by omega);unfold Afm at c;split at c
 case h_2=>cases c
 rename_i o;obtain⟨b,c,p⟩:=c;refine P1.cdK k e.1 ?_;simp only[QM l e.2 o b];rw[funext λy:(Aa->Y->RR)×(Aa->Y->RR)=>S1 m _ (Qt Ax S fn y.1 y.2) _ _];exact La W0 R3 L _ _ _ _ _ () _ h c (TB b) rfl rfl ⟨λs h _ A u w r ⟨i,sub,j⟩=>La W0 R3 L _ _ _ _ i () s h (p i h j) (λt v b=>r t v (sub t v b)) u w Acv,λ_ _ _ _ _ _ _ _ c=>c.elim,Acv.r,λ_ _ _ _ _ _ _ _ c=>c.elim⟩
def Nu (B:Base S L) {d:Nat} {f:Au} {fn:BC} {args:AH} {h:Y} {Q:Aa->Y->Prop} (b:Ax.fn.get f=I fn) (a:Nf.contains f=Ah) (m:Nat) (J:As->Y->Prop)
 (H:∀n,d<=n->Afm Ax (B8 Ax S L n) L fn m J args h Q):Bk S L (d+1) f args h Q:=Zcn (λ_=>by rw[(B.plain f a).1]) (B.plain f a).2 b m J H
def PE (S:A9) (L:Nat) (d:Nat) (f:Au) (a:AH) (h:Y) (Q:Aa->Y->Prop):Prop:=∀n,d<=n->CdA (B8 Ax S L n) (.func f) a h Q
def Bk.any {d:Nat} {f:Au} {a:AH} {h:Y} {Q:Aa->Y->Prop} (c:Bk S L d f a h Q):PE S L d f a h Q:=λn b=>(c n b).any
def GU (b:Base S L) {d:Nat} {f:Au} {fn:BC} {a:AH} {h:Y} {Q:Aa->Y->Prop} (c:Ax.fn.get f=I fn) (e:Nf.contains f=Ah)
 (H:∀n,d<=n->MT Ag Ax (B8 Ax S L n) L fn a h Q):PE S L (d+1) f a h Q:=by
 intro n k;obtain⟨q,rfl⟩:∃q,n=q+1:=⟨n-1,by omega⟩;obtain⟨g,i,j⟩:=b.plain f e;exact Afo (m:=Ag) c j g i (H q (by omega))
end
def TV:∀{es:List Ap} {ck lo:Nat},Fc ck lo es=Ag->∀e∈es,lo<=e.born/\e.born<ck
 |[],_,_,_,e,a=>by cases a
 |
  x::es,ck,lo,h,e,a=>by
  simp only[Fc,An,AK] at h;have h1:=Ac h.1.1;rcases List.mem_cons.1 a with rfl|a
  .exact⟨h1,h.1.2⟩
  .have:=TV h.2 e a
   exact⟨G,this.2⟩
def P3:∀{es:List Ap} {ck lo:Nat},Fc ck lo es=Ag->es.Nodup/\∀e∈es,∀a∈es,e.born=a.born->e=a
 |[],_,_,_=>⟨Jg,λe b=>by cases b⟩
 |
  x::es,ck,lo,h=>by
  simp only[Fc,An] at h;obtain⟨f,g⟩:=P3 h.2;have d:∀e∈es,x.born<e.born:=λe b=>(TV h.2 e b).1;refine⟨List.nodup_cons.2 ⟨λi=>W7 _ (d x i),f⟩,λe b a j hb=>?_⟩;rcases List.mem_cons.1 b with h1|h1<;>rcases List.mem_cons.1 j with c|c
  .rw[h1,c]
  .have:=d a c;rw[h1] at hb;omega
  .have:=d e h1;rw[c] at hb;omega
  .exact g e h1 a c hb
structure It (h:Y) (r m:Nat) (es sn:List Ap):Prop where
 lt:r<h.nx
 m:m<h.nx/\∃ck last,h.t.get m=I (.map es ck)/\Fc ck 0 es=Ag/\h.t.get r=I (.ay (I m) ck (sn.map (·.born)) last)/\(sn≠[]->last=ck)
 sub:∀e∈sn,e∈es
 nd:sn.Nodup
def It.new {τ:Bb} {t kt et:Ai} (a:τ.ds.get t=I (.map kt et)) {h:Y} {m:Nat} {es:List Ap} {ck:Nat} (d:m<h.nx) (h1:h.t.get m=I (.map es ck)) (b:Fc ck 0 es=Ag):
 ∃J,Gh τ t (.map (I m)) h=I (AG h.nx 0,J)/\AA h J/\It J h.nx m es []/\J.nx=h.nx+1:=by
 refine⟨h.new (.ay (I m) ck [] ck),?_,AA.new _ _,⟨by rw[Ck];omega,⟨by rw[Ck];omega,ck,ck,by rw[CK,Bm G];exact h1,b,by rw[CK,Bi B];rfl,λ_=>rfl⟩,(λe c=>by cases c),Jg⟩,Ck _ _⟩;unfold Gh;rw[a];simp only[h1]
def It.ae {W:Nat->Prop} {h J:Y} {r m:Nat} {es sn:List Ap} (i:It h r m es sn) (c:B0 W h J) (f:¬W r) (g:¬W m):It J r m es sn:=by
 obtain⟨a,⟨b,ck,j,c1,k,c3,c4⟩,d,e⟩:=i;exact⟨AC a c.nx,⟨AC b c.nx,ck,j,by rw[c.t m b g];exact c1,k,by rw[c.t r a f];exact c3,c4⟩,d,e⟩
def It.ext {h J:Y} {r m:Nat} {es sn:List Ap} (i:It h r m es sn) (x:AA h J):It J r m es sn:=i.ae (x.ae λ_=>False) (λh=>h) λh=>h
def It.len {h:Y} {r m:Nat} {es sn:List Ap} (i:It h r m es sn):sn.length<=es.length:=i.nd.length_le_of_subset i.sub
def It.all {h:Y} {r m:Nat} {es sn:List Ap} (i:It h r m es sn) (a:∀e∈es,e∈sn):sn.Perm es:=by
 obtain⟨_,ck,c,_,b,_⟩:=i.m;exact(List.perm_ext_iff_of_nodup i.nd (P3 b).1).2 λe=>⟨i.sub e,a e⟩
def Aon {h:Y} {r m:Nat} {es sn:List Ap} (i:It h r m es sn) {k:Aa->Y->Prop} (h1:(∀e∈es,e∈sn)->k (.tuple #[.bool Ah]) h)
 (w:∀e,e∈es->e∉sn->∀J,Er r h J->It J r m es (sn++[e])->k (.tuple #[.bool Ag,e.key,e.val]) J):∃x l,FT (AG r 0) Ah h=I (x::l)/\∀u J,(u,J)∈x::l->k u J:=by
 obtain⟨a,⟨b,ck,y,c1,o,c3,c4⟩,d,e⟩:=i;have H:=(P3 o).2;have K:r≠m:=λg=>by rw[g,c1] at c3;cases c3
 have L:(!(sn.map (·.born)).isEmpty&&!es.isEmpty&&es.all (λe=>Ar y e.born))=false:=by
  cases sn with
  |nil=>rfl
  |
   cons x sn=>
   have z:=d x Av;have O:=c4 (by simp);have:es.all (λe=>Ar y e.born)=false:=by
    rw[MK];intro g;have h1:=Ac (List.all_eq_true.1 g x z);have w:=(TV o x z).2;omega
   rw[this,Bool.and_false]
 have M:es.all (λe=>AD e.born ck)=true:=List.all_eq_true.2 λe p=>by rw[AK];exact(TV o e p).2
 have A:∀F,es.filter (λe=>!(sn.map (·.born)).contains e.born)=F->FT (AG r 0) Ah h=(match F with
  |[]=>I [(.tuple #[.bool Ah],h)]
  |l=>I (l.map λe=>(.tuple #[.bool Ag,e.key,e.val],h.put r (.ay (I m) ck (sn.map (·.born)++[e.born]) ck)))):=λF j=>by
  subst j;unfold FT;simp only[AG,c3,c1,L,M,I0,D1];rfl
 cases j:es.filter (λe=>!(sn.map (·.born)).contains e.born) with
 |
  nil=>
  refine⟨_,[],A _ j,λu J s=>?_⟩;cases List.mem_singleton.1 s;refine h1 λe p=>?_;have:=List.filter_eq_nil_iff.1 j e p;simp only[Bool.not_eq_true',Bool.not_eq_false,Ace,decide_eq_true_eq] at this;obtain⟨C,n,t⟩:=List.mem_map.1 this;rw[H e p C (d C n) t.symm];exact n
 |
  cons x l=>
  refine⟨_,_,A _ j,λu J s=>?_⟩;rw[←Bp (f:=λe:Ap=>((.tuple #[.bool Ag,e.key,e.val]:Aa),h.put r (.ay (I m) ck (sn.map (·.born)++[e.born]) ck)))] at s;obtain⟨v,n,c⟩:=List.mem_map.1 s;cases c;rw[←j] at n;obtain⟨t,D⟩:=List.mem_filter.1 n;have E:v∉sn:=λg=>by
   have:(sn.map (·.born)).contains v.born=true:=by
    rw[Ace,decide_eq_true_eq];exact List.mem_map.2 ⟨v,g,B⟩
   rw[this] at D;cases D
  refine w v t E _ (Er.put _ _ _) ⟨by rw[Cc];exact a,⟨by rw[Cc];exact b,ck,ck,by rw[BQ,Bm K.symm];exact c1,o,by rw[BQ,Bi B,BS];rfl,λ_=>rfl⟩,λq c=>?_,?_⟩
  .rcases List.mem_append.1 c with c|c
   .exact d q c
   .rw[List.mem_singleton.1 c];exact t
  .rw[List.nodup_append]
   refine⟨e,by simp,λq c P N g=>?_⟩;rw[g,List.mem_singleton.1 N] at c;exact E c
def QO {h:Y} {r m:Nat} {es sn:List Ap} {e:Ap} (i:It h r m es (sn++[e])):Ou (AG r 0) h=I (.tuple #[e.key,e.val]):=by
 obtain⟨a,⟨b,ck,c,c1,j,c3,c4⟩,d,_⟩:=i;have g:=d e (by simp);have k:=c4 (by simp);subst k;have l:es.find? (λx=>x.born==e.born)=I e:=by
  cases f:es.find? (λx=>x.born==e.born) with
  |none=>have:=List.find?_eq_none.1 f e g;simp at this
  |
   some x=>
   have h1:=List.find?_some f;have n:=List.mem_of_find?_eq_some f;rw[(P3 j).2 x n e g (by simpa using h1)]
 unfold Ou;simp only[AG,c3,BS,Bp,List.map_nil,List.getLast?_concat,c1];rw[show Am c c=Ag from Mi c];simp only[D1,l]
def Yu (r m:Nat) (es sn:List Ap):Ct:={
 am:=λi=>i=r\/i=m
 holds:=λh=>It h r m es sn
 aH:=λc f o=>o.ae c (f r (.inl B)) (f m (.inr B))
 lt:=λo i U=>by rcases U with rfl|rfl;exact o.lt;exact o.m.1
 bk:=λ{h J} o=>by
  obtain⟨a,⟨b,c⟩,d,e⟩:=o;exact⟨by rw[CL];exact a,⟨by rw[CL];exact b,by rw[DF];exact c⟩,d,e⟩}
section
variable{h0 h:Y} {l:List Ct} {i r m:Nat} {es sn:List Ap}
def Sep.it (s:Sep h0 h l) (U:l[i]?=I (Yu r m es sn)):It h r m es sn:=(s.2.1 i _ U).1
def Sep.cN {τ:Bb} {t kt et:Ai} (c:τ.ds.get t=I (.map kt et)) (s:Sep h0 h l) {a:Ct} (U:l[i]?=I a) (b:∀x,a.am x↔x=m) {ck:Nat} (h1:h.t.get m=I (.map es ck)) (d:Fc ck 0 es=Ag):
 ∃J,Gh τ t (.map (I m)) h=I (AG h.nx 0,J)/\Sep h0 J (l.set i (Yu h.nx m es [])):=by
 obtain⟨J,e,f,g,_⟩:=It.new c (a.lt (s.2.1 i _ U).1 m ((b m).2 rfl)) h1 d;exact⟨J,e,s.ah U (f.ae _) g λx j=>by rcases j with rfl|rfl;exact .inr (Ae _);exact .inl ((b _).2 rfl)⟩
def Sep.cO (s:Sep h0 h l) (U:l[i]?=I (Yu r m es sn)) {k:Aa->Y->Prop} (h1:(∀e∈es,e∈sn)->k (.tuple #[.bool Ah]) h)
 (b:∀e,e∈es->e∉sn->∀J,Sep h0 J (l.set i (Yu r m es (sn++[e])))->k (.tuple #[.bool Ag,e.key,e.val]) J):∃x l,FT (AG r 0) Ah h=I (x::l)/\∀u J,(u,J)∈x::l->k u J:=
 Aon (s.it U) h1 λe c d J u f=>b e c d J (s.ah U (u.ae.mono λx a=>.inl a) f λx a=>.inl a)
end
structure Cm {α:Type} (c:α->α->Int):Prop where
 cD:∀a,c a a=0
 aQ:∀a b,c a b<0↔0<c b a
 tr:∀a b d,c a b<=0->c b d<=0->c a d<=0
def Cm.lt {α:Type} {c:α->α->Int} (C:Cm c) {a b d:α} (h1:c a b<=0) (e:c b d<=0) (h:c a b<0\/c b d<0):c a d<0:=by
 have a1:=C.aQ a d;have f:=C.aQ d a;have g:=C.aQ a b;have i:=C.aQ b a;have j:=C.aQ b d;have k:=C.aQ d b;have t2:=C.tr d a b;have t3:=C.tr b d a;omega
def Cm.proj {α e:Type} {c:e->e->Int} (C:Cm c) (f:α->e):Cm λa b=>c (f a) (f b):=⟨λa=>C.cD _,λa b=>C.aQ _ _,λa b d=>C.tr _ _ _⟩
def orI (x y:Int):Int:=if x=0 then y else x
def Cm.or {α:Type} {c1 f:α->α->Int} (c:Cm c1) (e:Cm f):Cm λa b=>orI (c1 a b) (f a b):=by
 refine⟨λa=>?_,λa b=>?_,λa b d=>?_⟩
 .simp[orI,c.cD,e.cD,if_true]
 .have a1:=c.aQ a b;have g:=c.aQ b a;have h:=e.aQ a b
  simp[orI];split<;>split<;>omega
 .have t1:=c.tr a b d;have t2:=e.tr a b d
  have i:=@Cm.lt α c1 c a b d;simp[orI];split<;>split<;>split<;>omega
def cmI:Cm Dx:=by
 refine⟨λa=>?_,λa b=>?_,λa b d=>?_⟩<;>simp[Dx]<;>(repeat' split)<;>omega
def Lw:∀a b:Bl,KJ a b=Ag->KJ b a=Ag->False
 |_,[],h,_=>by cases‹Bl›<;>cases h
 |[],_::_,_,h=>by cases h
 |
  x::a,y::b,h1,c=>by
  rw[KJ] at h1 c;cases d:AD x.toNat y.toNat<;>cases f:AD y.toNat x.toNat<;>rw[d] at h1<;>rw[f] at c
  .cases hb:Am x.toNat y.toNat
   .rw[hb] at h1;cases h1
   .rw[hb] at h1
    have e:=Af hb;rw[←e,show Am x.toNat x.toNat=Ag from Mi _] at c;exact Lw a b h1 c
  .have:=Ac f
   cases hb:Am x.toNat y.toNat
   .rw[hb] at h1;cases h1
   .have e:=Af hb;omega
  .have:=Ac d
   cases hb:Am y.toNat x.toNat
   .rw[hb] at c;cases c
   .have e:=Af hb;omega
  .have:=Ac d;have:=Ac f;omega
def Aey:∀a b d:Bl,KJ a d=Ag->KJ a b=Ag\/KJ b d=Ag
 |a,_,[],h=>by cases a<;>cases h
 |[],[],_::_,_=>.inr B
 |[],_::_,_::_,_=>.inl B
 |_::_,[],_::_,_=>.inr B
 |
  x::a,y::b,z::d,h=>by
  have st:∀(m n:Nat) (r:Bool),(bif AD m n then Ag else bif Am m n then r else Ah)=Ag↔m<n\/(m=n/\r=Ag):=λm n r=>by
   cases hb:AD m n
   .have:¬m<n:=λc=>by rw[←AK] at c;rw[c] at hb;cases hb
    cases e:Am m n
    .have:m≠n:=λc=>by rw[c,show Am n n=Ag from Mi n] at e;cases e
     simp;omega
    .obtain rfl:=Af e
     simp
   .rw[AK] at hb;simp[hb]
  rw[KJ,st] at h;rw[KJ,KJ,st,st];rcases h with h|⟨h,f⟩
  .omega
  .rcases Aey a b d f with h1|h1
   .rcases FD x.toNat y.toNat with c|c|c
    .exact .inl (.inl c)
    .exact .inl Jq
    .exact .inr (.inl G)
   .rcases FD y.toNat z.toNat with c|c|c
    .exact .inr (.inl c)
    .exact .inr Jq
    .exact .inl (.inl G)
def Gd (a b:Bd):Int:=if KJ a.data.toList b.data.toList=Ag then-1 else if KJ b.data.toList a.data.toList=Ag then 1 else 0
def Aqe:Cm Gd:=by
 refine⟨λa=>?_,λa b=>?_,λa b d=>?_⟩
 .have:=Lw a.data.toList a.data.toList
  unfold Gd;split
  .rename_i h;exact(this h h).elim
  .rfl
 .have:=Lw a.data.toList b.data.toList
  unfold Gd;split<;>split<;>simp_all
 .have h1:=Aey d.data.toList b.data.toList a.data.toList
  have c:=Lw a.data.toList b.data.toList;have e:=Lw b.data.toList d.data.toList;unfold Gd;split<;>split<;>split<;>simp_all<;>(repeat' split)<;>simp_all
section
variable{α:Type} (c:α->α->Int)
def UW (x:α):List α->List α
 |[]=>[x]
 |y::l=>if c x y<0 then x::y::l else y::UW x l
def H0:List α->List α
 |[]=>[]
 |x::l=>UW c x (H0 l)
variable{c}
def OG (x:α):∀l,(UW c x l).Perm (x::l)
 |[]=>.refl _
 |
  y::l=>by
  rw[UW];split
  .exact .refl _
  .exact((OG x l).cons y).trans (.swap x y l)
def DO:∀l,(H0 c l).Perm l
 |[]=>.refl _
 |x::l=>(OG x _).trans ((DO l).cons x)
def Y6 (C:Cm c) (x:α):∀l,(∀y∈l,c x y≠0)->l.Pairwise (λa b=>c a b<0)->(UW c x l).Pairwise λa b=>c a b<0
 |[],_,_=>List.pairwise_singleton _ _
 |
  y::l,g,f=>by
  obtain⟨h1,h⟩:=List.pairwise_cons.1 f;rw[UW];split
  .rename_i e
   refine List.pairwise_cons.2 ⟨λz d=>?_,f⟩;rcases List.mem_cons.1 d with rfl|d
   .exact e
   .exact C.lt (Int.le_of_lt e) (Int.le_of_lt (h1 z d)) (.inl e)
  .rename_i i
   refine List.pairwise_cons.2 ⟨λz d=>?_,Y6 C x l Jq h⟩;rcases List.mem_cons.1 ((OG x l).subset d) with rfl|d
   .have:=g y Av;have a1:=C.aQ z y;have j:=C.aQ y z;omega
   .exact h1 z d
def PX (C:Cm c):∀l,l.Pairwise (λa b=>c a b≠0)->(H0 c l).Pairwise λa b=>c a b<0
 |[],_=>List.Pairwise.nil
 |
  x::l,h=>by
  obtain⟨h1,d⟩:=List.pairwise_cons.1 h;exact Y6 C x _ (λy e=>h1 y ((DO l).subset e)) (PX C l d)
def Alc (C:Cm c) {l m:List α} (d:l.Perm m) (h1:l.Pairwise λa b=>c a b<0) (e:m.Pairwise λa b=>c a b<0):l=m:=
 d.eq_of_pairwise (λa b _ _ x y=>by have:=C.aQ a b;omega) h1 e
variable{Cr:α->AH} {LU:AH->AH->Option Int}
def Zx (x:α):∀l:List α,(∀y∈l,LU (Cr x) (Cr y)=I (c x y))->Xk LU (Cr x) (l.map Cr)=I ((UW c x l).map Cr)
 |[],_=>rfl
 |
  y::l,h=>by
  rw[Bp,Xk,h y Av,UW];simp[];by_cases a:c x y<0
  .rw[Bi a,GJ.2 a];rfl
  .rw[Bm a,show Nr (c x y)=Ah from Bool.eq_false_iff.2 λe=>a (GJ.1 e)]
   rw[I0,Zx x l λz b=>h z Jq];rfl
def Wa:∀l:List α,(∀x∈l,∀y∈l,LU (Cr x) (Cr y)=I (c x y))->Pc LU (l.map Cr)=I ((H0 c l).map Cr)
 |[],_=>rfl
 |
  x::l,h=>by
  rw[Bp,Pc,Wa l λa e b hb=>h a Jq b Jq];exact Zx x _ λy d=>h x Av y (Az _ ((DO l).subset d))
def Tq (C:Cm c) (x:α):∀l:List α,(∀y∈l,LU (Cr x) (Cr y)=I (c x y)/\LU (Cr y) (Cr x)=I (c y x)/\c x y<0)->Ot LU (Cr x) (l.map Cr)=Ag
 |[],_=>rfl
 |
  y::l,h=>by
  obtain⟨h1,a,b⟩:=h y Av;have a1:=C.aQ x y;rw[Bp,Ot,h1,a];simp only[];rw[GJ.2 b,show Nr (c y x)=Ah from Bool.eq_false_iff.2 λe=>by have:=GJ.1 e;omega,Tq C x l λz d=>h z Jq];rfl
def Th (C:Cm c):∀l:List α,(∀x∈l,∀y∈l,LU (Cr x) (Cr y)=I (c x y))->l.Pairwise (λa b=>c a b<0)->MQ LU (l.map Cr)=Ag
 |[],_,_=>rfl
 |
  x::l,h,d=>by
  obtain⟨h1,e⟩:=List.pairwise_cons.1 d;rw[Bp,MQ,h x Av x Av,C.cD];rw[Tq C x l λy f=>Jq,
   Th C l Jq e];rfl
def S2 {b:T Aa} (d:∀a:α,(Cr a).length=k):∀(l:List α) (off:Nat),(∀(i:Nat) v,(l.flatMap Cr)[i]?=I v->b.get (off+i)=I v)->HF k b off l.length=I (l.map Cr)
 |[],_,_=>rfl
 |
  x::l,off,h=>by
  have e:=d x;have j:DV b k off=I (Cr x):=by
   have Cw:∀(ys:AH) (o:Nat),(∀(i:Nat) v,ys[i]?=I v->b.get (o+i)=I v)->DV b ys.length o=I ys:=by
    intro ys
    induction ys with
    |nil=>intro o _;rfl
    |
     cons y ys m=>
     intro o f;show(match b.get o with|some v=>(match DV b ys.length (o+1) with|some l=>I (v::l)|none=>Z)|none=>Z)=_
     have h0:=f 0 y B;rw[UL] at h0;rw[h0,m (o+1) λi v c=>by rw[show o+1+i=o+(i+1) by omega];exact f (i+1) v (by simpa using c)]
   have:=Cw (Cr x) off (λi v c=>h i v (by rw[Dg,AB (List.getElem?_eq_some_iff.1 c).1];exact c):∀(i:Nat) v,(Cr x)[i]?=I v->b.get (off+i)=I v)
   rwa [e] at this
  have n:=S2 d l (off+k) λi v c=>by
   rw[DD];exact h (k+i) v (by rw[Dg,Bq G,e,Ds];exact c)
  show(match DV b k off,HF k b (off+k) l.length with|some g,I l=>I (g::l)|_,_=>Z)=_
  rw[j,n];rfl
end
def Awg (S:A9) (L d:Nat) (g:Au) (nx:Nat) (a b:AH) (z:Int):Prop:=Bk S L d g [.agg ⟨a⟩,.agg ⟨b⟩] ⟨.nil,nx,.no⟩ λw J=>w=.int .i64 z/\AA ⟨.nil,nx,.no⟩ J
def Zu {g:Au} {nx:Nat} {a b:AH} (H:Awg S L d g nx a b z) (c:d<=n):Nd (B8 Ax S L n) g nx a b=I z:=by
 obtain⟨v,J,⟨rfl,x⟩,e⟩:=H n c;unfold Nd;rw[e];have:=x.lo nx Jq B;simp[this,D1]
def SU {α:Type} {c:α->α->Int} {Cr:α->AH} (C:Cm c) {d:Be} {g:Au} {i:KR} (hb:EV Ax g=Ag) (U:Ax.aj.get e=I i)
 (q:∀a,(Cr a).length=i.size/\(Cr a).all plainCell=Ag) {l:List α} (K:l.length=n+1) (r:n+1<=1000000) (s:l.Pairwise λa b=>c a b≠0)
 (k:∀x∈l,∀y∈l,Nd d g h.nx (Cr x) (Cr y)=I (c x y)) {f:T Aa} {m:Bool} (u:h.t.get b=I (.cells f N e 0 0 m)) (v:(n+1)*i.size<=N) (w:HF i.size f 0 (n+1)=I (l.map Cr)) {z:Nat}:
 IA Ax e d [.slice (I ⟨b,0,Z⟩) (n+1) z,.func (.func g) #[] #[]] h=I (.tuple #[],h.put b (.cells (T.laid ((H0 c l).map Cr).flatten 0 f) N e 0 0 m)):=by
 have A:=Wa (LU:=Nd d g h.nx) l k;have D:=Th (LU:=Nd d g h.nx) C (H0 c l) (λx j y E=>k x ((DO l).subset j) y ((DO l).subset E)) (PX C l s);have F:((l.map Cr).all (λg=>g.all plainCell)&&Ar ((n+1)*i.size) N&&Am e e&&AD 0 (n+1)&&Ar (n+1) 1000000&&EV Ax g)=true:=by
  have:(l.map Cr).all (λg=>g.all plainCell)=true:=List.all_eq_true.2 λx j=>by
   obtain⟨a,_,rfl⟩:=List.mem_map.1 j;exact(q a).2
  rw[this,hb,Aq r,Aq v];simp[AK]
 show(match h.t.get b,Ax.aj.get e with
  |
   some (.cells c n' H 0 0 x),I i=>(match HF i.size c 0 (n+1) with
   |
    some o=>bif o.all (λg=>g.all plainCell)&&Ar ((n+1)*i.size) n'&&Am H e&&AD 0 (n+1)&&Ar (n+1) 1000000&&EV Ax g then
    (match Pc (Nd d g h.nx) o with
    |some p=>bif MQ (Nd d g h.nx) p then I (C4 #[],h.put b (.cells (T.laid p.flatten 0 c) n' e 0 0 x)) else Z
    |none=>Z) else Z
   |none=>Z)
  |_,_=>Z)=_
 rw[u,U];simp only[w,F,D1,A,D]
def QS {α:Type} {c:α->α->Int} {Cr:α->AH} (C:Cm c) {g:Au} (P:S.ov f=I (IA Ax e)) (hb:EV Ax g=Ag) (U:(match Ax.aj.get e with|some i=>Am i.size k|none=>Ah)=Ag)
 (z:∀a,(Cr a).length=k/\(Cr a).all plainCell=Ag) {l:List α} (o:AS h N e k v n (l.flatMap Cr)) (r:l.length=n) (Q:n<=1000000) (R:l.Pairwise λa b=>c a b≠0)
 (V:∀x∈l,∀y∈l,Awg S L d g h.nx (Cr x) (Cr y) (c x y)):
 Bk S L (d+1) f [v,.func (.func g) #[] #[]] h λw J=>w=.tuple #[]/\AS J N e k v n ((H0 c l).flatMap Cr)/\B0 (BY v) h J:=by
 intro m hm;obtain⟨m,rfl⟩:∃q,m=q+1:=⟨m-1,G⟩;obtain⟨i,W,D⟩:∃i,Ax.aj.get e=I i/\i.size=k:=by
  split at U
  .exact⟨_,by assumption,Af U⟩
  .cases U
 suffices H:∃J,IA Ax e (B8 Ax S L m) [v,.func (.func g) #[] #[]] h=I (.tuple #[],J)/\AS J N e k v n ((H0 c l).flatMap Cr)/\B0 (BY v) h J by
  obtain⟨J,h1,X⟩:=H;exact⟨_,J,⟨B,X⟩,YV P h1⟩
 cases n with
 |
  zero=>
  obtain rfl:l=[]:=BO r;obtain⟨_,A,cc,rfl,_⟩:=o.rd;exact⟨h,by cases A<;>rfl,o,(AA.refl h).ae _⟩
 |
  succ n=>
  obtain⟨E,⟨rfl,h0⟩|⟨b,cp,sp,rfl,hN,aa,ab,ad,cc,xx,hg,F⟩⟩:=o
  .cases h0
  have s:(H0 c l).length=n+1:=by rw[(DO l).length_eq,r]
  have p:∀l:List α,l.length=n+1->(l.flatMap Cr).length=(n+1)*k:=λl h=>by rw[HV (λa=>(z a).1),h]
  have K:=S2 (λa=>(z a).1) l 0 λi v M=>by
   rw[Ba];exact F i v (by rw[AB (List.getElem?_eq_some_iff.1 M).1];exact M)
  rw[r] at K;have ae:((H0 c l).map Cr).flatten=(H0 c l).flatMap Cr:=rfl;refine⟨_,SU C hb W (by rw[D];exact z) r Q R (λx E y hy=>Zu (V x E y hy) G) hg (by rw[Aj,p l r,D];omega) (by rw[D];exact K),⟨p _ s,.inr ⟨b,cp,sp,B,hN,aa,?_,?_⟩⟩,(Er.put h b _).ae⟩
  .rw[Aj,p _ s,←ab,Aj,p l r]
  .refine⟨by rw[Cc];exact ad,_,xx,by rw[BQ,Bi B,Aj,Aj,p _ s,p l r],λj u t=>?_⟩
   rw[T.an,ae];by_cases O:0<=j/\j<0+((H0 c l).flatMap Cr).length
   .rw[Bi O,DL]
    rw[AB G] at t;exact t
   .rw[Bm O]
    rw[Bq G] at t;refine F j u ?_;rw[Bq (by rw[p l r];have:=p _ s;omega),p l r,←p _ s];exact t
end
open Go Go.Proofs Tryz
section
variable {h J h0 h1 H:Y} {v fv nv pv cv ev lv u v':Aa} {xs args vs ys:AH} {n b N i k e r j x m c q d a p t2 st sb mo ck lp rm b0 sz off:Nat} {t:Ai} {f:Au} {fn:BC} {s:Bd} {bs:Bl} {ws:Bo} {W:Nat->Prop} {Q:Aa->Y->Prop} {A:Option BD} {z df day:Int} {ss:BZ} {τ:Bb}
variable{S:A9} {L:Nat}
def Avi (a:Base S L) {h:Y} {x:Bd}:Bk S L 1 280 [Sg x] h λw J=>w=.bool Ah/\J=h:=
 Cn f280 a λd b _=>by
  refine⟨_,B,?_,B⟩;show CU (!Gp x.data.toList x.data.toList)=_;rw[CJ.2 rfl];rfl
def Ul:∀a b:Bl,KJ a b=Ah->(Gp a b=Ah↔KJ b a=Ag)
 |[],[],_=>by decide
 |[],_::_,h=>by cases h
 |_::_,[],_=>⟨λ_=>rfl,λ_=>rfl⟩
 |
  x::a,y::b,h=>by
  rw[KJ] at h;rw[Gp,KJ];cases h1:AD x.toNat y.toNat with
  |true=>rw[h1] at h;cases h
  |
   false=>
   rw[h1,I0] at h;cases c:Am x.toNat y.toNat with
   |
    true=>
    rw[c,D1] at h;have e:=Af c;rw[←e,show AD x.toNat x.toNat=Ah by rw[MK,ne_eq,AK];omega,show Am x.toNat x.toNat=Ag from Mi _];exact Ul a b h
   |
    false=>
    have e:x.toNat≠y.toNat:=λe=>by rw[e,show Am y.toNat y.toNat=Ag from Mi _] at c;cases c
    have:y.toNat<x.toNat:=by
     have:¬x.toNat<y.toNat:=λd=>by rw[←AK] at d;rw[d] at h1;cases h1
     omega
    rw[show AD y.toNat x.toNat=Ag by rw[AK];exact this];exact⟨λ_=>rfl,λ_=>rfl⟩
def Apx (b:Base S L) {h:Y} {x y:Bd}:Bk S L 2 214 [Sg x,Sg y] h λw J=>w=Vi (Gd x y)/\J=h:=
 Cn f214 b λd g _=>by
  refine cl (Avi b) ?_;rintro _ h ⟨rfl,rfl⟩;refine cl (Avi b) ?_;rintro _ h ⟨rfl,rfl⟩;refine⟨_,B,Ad (λe=>?_) (λe=>?_)⟩
  .exact⟨by rw[Gd,Bi e];rfl,B⟩
  have e:KJ x.data.toList y.data.toList=false:=e;have c:=Ul _ _ e;refine⟨_,B,Ad (λa=>?_) (λa=>?_)⟩
  .have a:(!(KJ x.data.toList y.data.toList||Gp x.data.toList y.data.toList))=true:=a
   rw[e] at a;exact⟨by rw[Gd,Bm (by rw[e];decide),Bi (c.1 (by simpa using a))];rfl,B⟩
  have a:(!(KJ x.data.toList y.data.toList||Gp x.data.toList y.data.toList))=false:=a;rw[e] at a;exact⟨by rw[Gd,Bm (by rw[e];decide),Bm (λf=>by rw[c.2 f] at a;cases a)];rfl,B⟩
def orL:List Int->Int
 |[]=>0
 |x::l=>orI x (orL l)
def Apz (j:Base S L) {h:Y} {v:Aa} {xs:List Int} (r:Rd h v 1 xs.length (Ew xs)) (s:xs.length<=1000000):Bk S L 1 212 [v] h λw J=>w=Vi (orL xs)/\J=h:=
 Cn f212 j λd t u=>by
  have l:=r;obtain⟨_,m,n,rfl,_⟩:=r;refine⟨λf A g=>∃k:Nat,A=[(3,Vi 0),(6,.slice m xs.length n),(7,Vi xs.length),(8,Vi k)]/\k<=xs.length/\f=xs.length-k/\orL xs=orL (xs.drop k)/\g=h,
   ⟨_,_,Sq,G,0,B,Al _,B,B,B⟩,?_⟩
  rintro f A g ⟨k,rfl,x,rfl,c,rfl⟩ z;apply Bz<;>intro e
  .have i:k<xs.length:=G
   obtain⟨a,y,o,_,q⟩:=l.at_ G;cases o;have p:xs.drop k=xs[k]::xs.drop (k+1):=Di i;rw[p,orL,orI] at c;refine⟨G,_,Dz (ld B (q k (Vi xs[k]) (by rw[Ew,AX,Ab i];rfl))) (by show a.off+(k:Int).toNat*1=_;omega),Ad (λb=>?_) (λb=>?_)⟩
   .have b:¬xs[k]=0:=by simpa using b
    rw[Bm b] at c;exact⟨by rw[c];rfl,B⟩
   .have b:xs[k]=0:=by simpa using b
    rw[Bi b] at c;exact⟨Pq,_,_,Sq,G,k+1,B,G,B,c,B⟩
  .obtain rfl:k=xs.length:=G
   exact⟨by rw[c,List.drop_length];rfl,B⟩
def ZY (t:Ai) (cs:AH) (h:Y):∃g,K7 Ax t (.agg ⟨cs⟩) h=I (AG h.nx 0,g)/\AA h g/\Own g h.nx t cs:=by
 obtain⟨g,y,s⟩:=(Sep.nil h).box Ax t (.agg ⟨cs⟩);exact⟨g,y,s.e,s.dD (i:=0) B⟩
structure BI where
 f:Int
 t:Int
 s:Bd
 l:Int
 r:Int
 c:Int
 k:Int
 deriving DecidableEq
def Bt (n:BI):AH:=[.int .i64 n.f,.int .i64 n.t,.string n.s,.int .i64 n.l,.int .i64 n.r,.int .i64 n.c,.int .i64 n.k]
def Ty (a b:BI):Int:=orL [Dx a.f b.f,Dx b.t a.t,Dx a.c b.c,Gd a.s b.s,Dx a.l b.l,Dx a.r b.r]
def cm0 {a:Type}:Cm λ_ _:a=>0:=⟨λ_=>rfl,λ_ _=>⟨λh=>h,λh=>h⟩,λ_ _ _ h _=>h⟩
def Cm.flip {e:Type} {c:e->e->Int} (C:Cm c):Cm λa b=>c b a:=⟨C.cD,λa b=>C.aQ b a,λa b d h1 f=>C.tr d b a f h1⟩
def cmN:Cm Ty:=(cmI.proj BI.f).or ((cmI.proj BI.t).flip.or ((cmI.proj BI.c).or ((Aqe.proj BI.s).or ((cmI.proj BI.l).or ((cmI.proj BI.r).or cm0)))))
def Mu {x y:Int} (h:Dx x y=0):x=y:=by unfold Dx at h;split at h<;>first|omega|(split at h<;>omega)
def Ob {x y:Int} (h:orI x y=0):x=0/\y=0:=by unfold orI at h;split at h<;>omega
def Azx (xs:List Int) (b:xs.length<=6) (ps:List (Nat×Aa)) (h:Y) (a:Jw (λk=>I (k*1,1)) ps (Dy [Vi 0] xs.length)=I (Ew xs)):Bs Ax 48 xs.length ps h=I (sL h.nx xs.length xs.length,BN h 3 (Ew xs)):=by
 show(bif(AD 0 1&&Am 1 1&&Ar (xs.length*1) 16777216) then(match Jw (λk=>I (k*1,1)) ps (Dy [Vi 0] xs.length) with
  |some cs=>I (sL h.nx xs.length xs.length,BN h 3 cs)
  |none=>Z) else Z)=_
 rw[a,show Ar (xs.length*1) 16777216=Ag from Aq G];rfl
def XK {h:Y} {xs:List Int} {ps:List (Nat×Aa)} {n:Nat} (a:xs.length=n) (b:n<=6) (c:Jw (λk=>I (k*1,1)) ps (Dy [Vi 0] n)=I (Ew xs)):∃g,Bs Ax 48 n ps h.ad=I (sL h.nx n n,g)/\AA h (h.aa g)/\Rd (h.aa g) (sL h.nx n n) 1 xs.length (Ew xs):=by
 subst a;refine⟨BN h.ad 3 (Ew xs),Azx xs b ps h.ad c,(AA.row h.ad 3 _).aa,?_⟩;have o:=Own.row h.ad 3 (Ew xs);exact(Own.bN (N:=0) (n:=xs.length) (k:=1) o (by simp[Ew]) (Al _)).rd.aa
def Awf (g:Base S L) {h:Y} {a b:BI}:Bk S L 3 138 [.agg ⟨Bt a⟩,.agg ⟨Bt b⟩] h λw J=>w=Vi (Ty a b)/\AA h J:=
 Cn f138 g λd R _=>by
  obtain⟨A,D,E,F⟩:=ZY 93 (Bt a) h;obtain⟨m,K,C,M⟩:=ZY 93 (Bt b) A;have j:∀H,AA m H->∀i v,(Bt a)[i]?=I v->Cell H h.nx i v:=λH x i v e=>((F.ext C).ext x).cell e;have k:∀H,AA m H->∀i v,(Bt b)[i]?=I v->Cell H A.nx i v:=λH x i v e=>(M.ext x).cell e;have o:=AA.refl m;have p:=AT o;have q:=AT p;have u:=AT q;have y:=AT u;have z:=AT y;have N:=AT z;refine⟨_,_,D,_,_,K,[],Kq,_,ld B (j _ o 0 _ B),_,ld B (k _ o 0 _ B),_,Qo (h:=Y.ad _) g d G,?_⟩;rintro _ _ ⟨rfl,rfl⟩;refine⟨B,_,ld B (k _ p 1 _ B),_,ld B (j _ p 1 _ B),_,Qo (h:=Y.ad _) g d G,?_⟩;rintro _ _ ⟨rfl,rfl⟩;refine⟨B,_,ld B (j _ q 5 _ B),_,ld B (k _ q 5 _ B),_,Qo (h:=Y.ad _) g d G,?_⟩;rintro _ _ ⟨rfl,rfl⟩;refine⟨B,_,ld B (j _ u 2 _ B),_,ld B (k _ u 2 _ B),_,Apx (h:=Y.ad _) g d G,?_⟩;rintro _ _ ⟨rfl,rfl⟩;refine⟨B,_,ld B (j _ y 3 _ B),_,ld B (k _ y 3 _ B),_,Qo (h:=Y.ad _) g d G,?_⟩;rintro _ _ ⟨rfl,rfl⟩;refine⟨B,_,ld B (j _ z 4 _ B),_,ld B (k _ z 4 _ B),_,Qo (h:=Y.ad _) g d G,?_⟩;rintro _ _ ⟨rfl,rfl⟩;obtain⟨T,O,P,Q⟩:=XK (h:=nb (nb (nb (nb (nb (nb m)))))) (xs:=[Dx a.f b.f,Dx b.t a.t,Dx a.c b.c,Gd a.s b.s,Dx a.l b.l,Dx a.r b.r]) (n:=6)
   (ps:=[(0,Vi (Dx a.f b.f)),(1,Vi (Dx b.t a.t)),(2,Vi (Dx a.c b.c)),(3,Vi (Gd a.s b.s)),(4,Vi (Dx a.l b.l)),(5,Vi (Dx a.r b.r))]) B (by decide) B
  refine⟨B,_,_,O,_,Apz (h:=Y.ad _) g Q (Ac B) d G,?_⟩;rintro _ _ ⟨rfl,rfl⟩;exact⟨B,B,(E.trans C).trans (AT (N.trans P))⟩
def Xd (a b:CI):Int:=orL [Gd a.rd b.rd,Dx a.c b.c,Gd a.tx b.tx,Dx a.l b.l,Dx a.r b.r]
def cmE:Cm Xd:=(Aqe.proj CI.rd).or ((cmI.proj CI.c).or ((Aqe.proj CI.tx).or ((cmI.proj CI.l).or ((cmI.proj CI.r).or cm0))))
def ACb (f:Base S L) {h:Y} {a b:CI}:Bk S L 3 168 [.agg ⟨BV a⟩,.agg ⟨BV b⟩] h λw J=>w=Vi (Xd a b)/\AA h J:=
 Cn f168 f λd N _=>by
  obtain⟨t,y,z,A⟩:=ZY 114 (BV a) h;obtain⟨k,C,u,D⟩:=ZY 114 (BV b) t;have g:∀H,AA k H->∀i v,(BV a)[i]?=I v->Cell H h.nx i v:=λH x i v e=>((A.ext u).ext x).cell e;have j:∀H,AA k H->∀i v,(BV b)[i]?=I v->Cell H t.nx i v:=λH x i v e=>(D.ext x).cell e;have m:=AA.refl k;have o:=AT m;have p:=AT o;have q:=AT p;have s:=AT q;have E:=AT s;refine⟨_,_,y,_,_,C,[],Kq,_,ld B (g _ m 0 _ B),_,ld B (j _ m 0 _ B),_,Apx (h:=Y.ad _) f d G,?_⟩;rintro _ _ ⟨rfl,rfl⟩;refine⟨B,_,ld B (g _ o 4 _ B),_,ld B (j _ o 4 _ B),_,Qo (h:=Y.ad _) f d G,?_⟩;rintro _ _ ⟨rfl,rfl⟩;refine⟨B,_,ld B (g _ p 1 _ B),_,ld B (j _ p 1 _ B),_,Apx (h:=Y.ad _) f d G,?_⟩;rintro _ _ ⟨rfl,rfl⟩;refine⟨B,_,ld B (g _ q 2 _ B),_,ld B (j _ q 2 _ B),_,Qo (h:=Y.ad _) f d G,?_⟩;rintro _ _ ⟨rfl,rfl⟩;refine⟨B,_,ld B (g _ s 3 _ B),_,ld B (j _ s 3 _ B),_,Qo (h:=Y.ad _) f d G,?_⟩;rintro _ _ ⟨rfl,rfl⟩;obtain⟨O,F,K,M⟩:=XK (h:=nb (nb (nb (nb (nb k))))) (xs:=[Gd a.rd b.rd,Dx a.c b.c,Gd a.tx b.tx,Dx a.l b.l,Dx a.r b.r]) (n:=5)
   (ps:=[(0,Vi (Gd a.rd b.rd)),(1,Vi (Dx a.c b.c)),(2,Vi (Gd a.tx b.tx)),(3,Vi (Dx a.l b.l)),(4,Vi (Dx a.r b.r))]) B (by decide) B
  refine⟨B,_,_,F,_,Apz (h:=Y.ad _) f M (Ac B) d G,?_⟩;rintro _ _ ⟨rfl,rfl⟩;exact⟨B,B,(z.trans u).trans (AT (E.trans K))⟩
def UY (a b:Int×Int):Int:=orL [Dx a.1 b.1,Dx a.2 b.2]
def cmP:Cm UY:=(cmI.proj Eh).or ((cmI.proj Amy).or cm0)
def ACr (c:Base S L) {h:Y} {a b:Int×Int}:Bk S L 3 254 [.agg ⟨E4 a⟩,.agg ⟨E4 b⟩] h λw J=>w=Vi (UY a b)/\AA h J:=
 Cn f254 c λd C _=>by
  obtain⟨k,p,q,r⟩:=ZY 298 (E4 a) h;obtain⟨f,s,l,t⟩:=ZY 298 (E4 b) k;have m:∀H,AA f H->∀i v,(E4 a)[i]?=I v->Cell H h.nx i v:=λH x i v e=>((r.ext l).ext x).cell e;have o:∀H,AA f H->∀i v,(E4 b)[i]?=I v->Cell H k.nx i v:=λH x i v e=>(t.ext x).cell e;have g:=AA.refl f;have j:=AT g;have u:=AT j;refine⟨_,_,p,_,_,s,[],Kq,_,ld B (m _ g 0 _ B),_,ld B (o _ g 0 _ B),_,Qo (h:=Y.ad _) c d G,?_⟩;rintro _ _ ⟨rfl,rfl⟩;refine⟨B,_,ld B (m _ j 1 _ B),_,ld B (o _ j 1 _ B),_,Qo (h:=Y.ad _) c d G,?_⟩;rintro _ _ ⟨rfl,rfl⟩;obtain⟨D,y,z,A⟩:=XK (h:=nb (nb f)) (xs:=[Dx a.1 b.1,Dx a.2 b.2]) (n:=2) (ps:=[(0,Vi (Dx a.1 b.1)),(1,Vi (Dx a.2 b.2))]) B (by decide) B;refine⟨B,_,_,y,_,Apz (h:=Y.ad _) c A (Ac B) d G,?_⟩;rintro _ _ ⟨rfl,rfl⟩;exact⟨B,B,(q.trans l).trans (AT (u.trans z))⟩
def bm (x:Bool) (r:Option Bool):Option Bool:=match I x with
 |some Ag=>r
 |some Ah=>I Ah
 |none=>Z
def L1 (x y:Bool):bm x (I y)=I (x&&y):=by cases x<;>rfl
def BI.key (n:BI):BI:=⟨n.f,n.t,n.s,n.l,n.r,0,0⟩
def Xl (a b:BI):Bool:=a.f==b.f&&(a.t==b.t&&(Gp a.s.data.toList b.s.data.toList&&(a.l==b.l&&(a.r==b.r&&Ag))))
def NO {a b:BI}:Xl a b=Ag↔a.key=b.key:=by
 unfold Xl;rw[An,An,An,An,Mh,CJ];simp[BI.key]
def Axl (a b:BI):IZ Ax Op.maxDepth 93 (.agg ⟨Bt a.key⟩) (.agg ⟨Bt b.key⟩)=I (Xl a b):=by
 have e:IZ Ax Op.maxDepth 93 (.agg ⟨Bt a.key⟩) (.agg ⟨Bt b.key⟩)=bm (a.f==b.f) (bm (a.t==b.t) (bm (Gp a.s.data.toList b.s.data.toList) (bm (a.l==b.l) (bm (a.r==b.r) (bm ((0:Int)==0) (bm ((0:Int)==0) (I Ag))))))):=rfl;rw[e];simp[L1];simp[Xl]
def Gb (n:BI):Value:=.agg ⟨Bt n.key⟩
def Agw (n:BI):Cy (Gb n) (Gb n)=true:=by
 have e:Cy (Gb n) (Gb n)=((Ag&&decide (n.f=n.f))&&((Ag&&decide (n.t=n.t))&&(Gp n.s.data.toList n.s.data.toList&&((Ag&&decide (n.l=n.l))&&((Ag&&decide (n.r=n.r))&&((Ag&&decide ((0:Int)=0))&&((Ag&&decide ((0:Int)=0))&&Ag))))))):=rfl;rw[e,CJ.2 rfl];simp
def I4 (h:Y) (r:Nat) (l:List BI):Prop:=r<h.nx/\∃es ck,h.t.get r=I (.map es ck)/\Fc ck 0 es=Ag/\es.map (λe:Ap=>(e.key,e.val))=l.map λn=>(Gb n,(.agg ⟨Bt n⟩:Aa))
def aN (r:Nat) (l:List BI):Ct:={
 am:=λi=>i=r
 holds:=λh=>I4 h r l
 aH:=λc a o=>⟨AC o.1 c.nx,by rw[c.t r o.1 (a r B)];exact o.2⟩
 lt:=λo i U=>by rw[U];exact o.1
 bk:=λo=>by unfold I4;rw[CL,DF];exact o}
def Mp (n:BI):List BI->List BI
 |[]=>[n]
 |m::l=>if Xl n m=Ag then n::l else m::Mp n l
def Q8 {n m:BI}:∀{l},m∈Mp n l->m=n\/m∈l
 |[],h=>.inl (List.mem_singleton.1 h)
 |
  x::l,h=>by
  rw[Mp] at h;split at h
  .rcases List.mem_cons.1 h with h|h
   .exact .inl h
   .exact .inr (Az _ h)
  .rcases List.mem_cons.1 h with h|h
   .exact .inr (h▸Av)
   .rcases Q8 h with h|h
    .exact .inl h
    .exact .inr (Az _ h)
def SZ (n:BI):∀l,n∈Mp n l
 |[]=>List.mem_singleton.2 rfl
 |
  x::l=>by
  rw[Mp];split
  .exact Av
  .exact Az _ (SZ n l)
def VY {n m:BI}:∀{l},m∈l->∃x∈Mp n l,x.key=m.key
 |
  x::l,h=>by
  rw[Mp];rcases List.mem_cons.1 h with rfl|h
  .split
   .rename_i a;exact⟨n,Av,NO.1 a⟩
   .exact⟨m,Av,B⟩
  .split
   .exact⟨m,Az _ h,B⟩
   .obtain⟨y,h1,b⟩:=VY h;exact⟨y,Az _ h1,b⟩
def SI {n:BI}:∀{l:List BI},l.Pairwise (λa b=>a.key≠b.key)->(Mp n l).Pairwise λa b=>a.key≠b.key
 |[],_=>List.pairwise_singleton _ _
 |
  x::l,h=>by
  obtain⟨h1,f⟩:=List.pairwise_cons.1 h;rw[Mp];split
  .rename_i d
   exact List.pairwise_cons.2 ⟨λy c=>by rw[NO.1 d];exact h1 y c,f⟩
  .rename_i d
   refine List.pairwise_cons.2 ⟨λy c=>?_,SI f⟩;rcases Q8 c with rfl|c
   .exact λe=>d (NO.2 e.symm)
   .exact h1 y c
def VI {n:BI}:∀l:List BI,(Mp n l).length<=l.length+1
 |[]=>Ae _
 |x::l=>by rw[Mp];split<;>simp[AO]<;>have:=VI (n:=n) l<;>omega
def Adm (n:BI):∀(es:List Ap) (l:List BI) (i ck:Nat),es.map (λe:Ap=>(e.key,e.val))=l.map (λn=>(Gb n,(.agg ⟨Bt n⟩:Aa)))->
 (CE Ax 93 (Gb n) es i=I Z/\(es++[({key:=Gb n,val:=.agg ⟨Bt n⟩,born:=ck}:Ap)]).map (λe:Ap=>(e.key,e.val))=(Mp n l).map λn=>(Gb n,(.agg ⟨Bt n⟩:Aa)))\/
 ∃j e m,CE Ax 93 (Gb n) es i=I (I (i+j,e))/\e.val=.agg ⟨Bt m⟩/\m∈l/\m.key=n.key/\Cy e.key (Gb n)=Ag/\(Cu es j λe=>{e with key:=Gb n,val:=.agg ⟨Bt n⟩}).map (λe:Ap=>(e.key,e.val))=(Mp n l).map λn=>(Gb n,(.agg ⟨Bt n⟩:Aa))
 |[],[],i,ck,_=>.inl ⟨B,B⟩
 |[],_::_,_,_,h=>by cases h
 |_::_,[],_,_,h=>by cases h
 |
  e::es,m::l,i,ck,h=>by
  simp[Bp,List.cons.injEq,Prod.mk.injEq] at h;obtain⟨⟨h1,a⟩,b⟩:=h;rw[CE,h1,show IZ Ax Op.maxDepth 93 (Gb n) (Gb m)=I (Xl n m) from Axl n m,Mp];cases d:Xl n m with
  |
   true=>
   have c:=NO.1 d;refine .inr ⟨0,e,m,B,a,Av,c.symm,?_,?_⟩
   .rw[h1,show Gb m=Gb n by unfold Gb;rw[c]];exact Agw n
   .simp[Cu,b]
  |
   false=>
   rcases Adm n es l (i+1) ck b with⟨f1,f2⟩|⟨j,f,m',f1,f2,f3,f4,f5,f6⟩
   .refine .inl ⟨f1,?_⟩
    simp[BE,if_false,KB,Bp,h1,a,f2]
   .refine .inr ⟨j+1,f,m',by rw[show i+(j+1)=i+1+j by omega];exact f1,f2,Az _ f3,f4,f5,?_⟩
    simp[BE,if_false,Cu,Bp,h1,a,f6]
def DS:BI:=⟨0,0,⟨#[]⟩,0,0,0,0⟩
def Ayk {l:List BI} (m:I4 h r l) (n:BI):∃x b,BW Ax 234 (.map (I r)) (Gb n) Ag h=I (.tuple #[.agg ⟨Bt x⟩,.bool b])/\(b=Ag->x∈l/\x.key=n.key):=by
 obtain⟨_,es,ck,h1,_,d⟩:=m;have a:Ax.ds.get 234=I (.map 93 93):=by rfl
 have c:Do Ax 5 93 (Gb n)=true:=by rfl
 unfold BW;rcases Adm n es l 0 0 d with⟨f1,_⟩|⟨j,e,m,f1,f2,f3,f4,_⟩
 .exact⟨DS,Ah,by simp only[a,c,D1,h1,f1,(Kq:CP Ax 93=I (.agg ⟨Bt DS⟩))];rfl,λh=>by cases h⟩
 .exact⟨m,Ag,by simp only[a,c,D1,h1,f1,f2];rfl,λ_=>⟨f3,f4⟩⟩
def Axs {l:List BI} (m:I4 h r l) (n:BI):∃J,BH Ax 234 (.map (I r)) (Gb n) (.agg ⟨Bt n⟩) h=I J/\I4 J r (Mp n l)/\Er r h J:=by
 obtain⟨a,es,ck,h1,b,g⟩:=m;have c:Ax.ds.get 234=I (.map 93 93):=by rfl
 have d:Do Ax 5 93 (Gb n)=true:=by rfl
 unfold BH;rcases Adm n es l 0 ck g with⟨f1,f2⟩|⟨j,e,m,f1,_,_,_,f5,f6⟩
 .refine⟨h.put r (.map (es++[({key:=Gb n,val:=.agg ⟨Bt n⟩,born:=ck}:Ap)]) (ck+1)),by simp[c,d,D1,h1,f1],⟨by rw[Cc];exact a,_,_,by rw[BQ,Bi B],Kd _ _ es ck 0 b (Al _),f2⟩,Er.put _ _ _⟩
 .rw[Ba] at f1
  refine⟨h.put r (.map (Cu es j λe=>{e with key:=Gb n,val:=.agg ⟨Bt n⟩}) ck),by simp[c,d,D1,h1,f1,f5],⟨by rw[Cc];exact a,_,_,by rw[BQ,Bi B],Kc (f:=λe=>{e with key:=Gb n,val:=.agg ⟨Bt n⟩}) (λ_=>rfl) es _ ck 0 b,f6⟩,Er.put _ _ _⟩
def c77 (a:Base5 S L) (b:Ce h) (c:s.size<=100000000):Bk S L 6 77 [Sg s] h λw J=>AA h J/\w=.bool (FH s):=
 Cn f77 a.toBase λd f _=>by
  refine cl (a.valid b c) ?_;rintro _ h1 ⟨e,rfl⟩;exact⟨e,B⟩
def I4.ext {l:List BI} (m:I4 h r l) (x:AA h J):I4 J r l:=(aN r l).aH (x.ae λ_=>False) (λ_ _ h=>h) m
structure PH (l:List BI) (n:BI) (l':List BI):Prop where
 sub:∀m∈l',m∈l\/m.key=n.key/\(0<=m.c/\(m.c=n.c\/m.c=0))/\m.k=n.k
 du:∀m∈l,∃x∈l',x.key=m.key
 new:∃x∈l',x.key=n.key
 bd:l.Pairwise (λa b=>a.key≠b.key)->l'.Pairwise λa b=>a.key≠b.key
 len:l'.length<=l.length+1
def PH.ah {l:List BI} {n m:BI} (b:m.key=n.key) (d:0<=m.c/\(m.c=n.c\/m.c=0)) (f:m.k=n.k):PH l n (Mp m l):=
 ⟨λx a=>(Q8 a).elim (λe=>.inr (e▸⟨b,d,f⟩)) .inl,λx a=>VY a,⟨m,SZ m l,b⟩,SI,VI l⟩
def PH.same {l:List BI} {n x:BI} (a:x∈l) (b:x.key=n.key):PH l n l:=
 ⟨λ_ h=>.inl h,λm h=>⟨m,h,B⟩,⟨x,a,b⟩,λh=>h,G⟩
def Apr (O:Base S L) {n:BI} {l:List BI} (c:Cell h b 0 (.map (I r))) (M:I4 h r l):Bk S L 1 128 [.agg ⟨Bt n⟩,AG b 0] h λ_ J=>∃l',PH l n l'/\I4 J r l'/\B0 (·=r) h J:=
 Cn f128 O λd aa _=>by
  obtain⟨g1,P,F⟩:=(Sep.nil h).box Ax 93 (.agg ⟨Bt n⟩);refine⟨_,_,P,_,ld B ((F.dD (i:=0) B).cell B),?_⟩;intro z hz;obtain⟨j,Q,m⟩:=F.st (t:=3) B (i:=0) B (v:=Vi z) (by show 5<7;decide) B;obtain⟨n',o⟩:∃n':BI,n'=⟨n.f,n.t,n.s,n.l,n.r,z,n.k⟩:=⟨_,B⟩;have m:Sep h j [aO h.nx 93 (Bt n')]:=by rw[o];exact m
  have H:n'.key=n.key:=by rw[o];rfl
  obtain⟨g3,R,g4,T,V⟩:=m.var (t:=93) (z:=.agg ⟨Bt DS⟩) Kq (v:=.agg ⟨Bt n'⟩) B B B;obtain⟨W,X,s5⟩:=V.st (t:=3) B (i:=0) B (v:=Vi 0) (by show 5<7;decide) B;obtain⟨w,y6,p⟩:=s5.st (t:=3) B (i:=0) B (v:=Vi 0) (by show 6<7;decide) B;obtain⟨x,K,l1,N⟩:=Ayk (M.ext p.e) n';obtain⟨g7,y7,a,y8,g⟩:=p.var (t:=93) (z:=.agg ⟨Bt DS⟩) Kq (v:=.agg ⟨Bt x⟩) B B B;have q:=g.dD (i:=2) B;have o1:=g.dD (i:=1) B;have y:=g.dD (i:=0) B;have up:∃(v1 v2:Aa) (J:Y),Bw Ax 234 a b 0=I (.map (I r))/\Bw Ax 93 a j.nx 0=I (Gb n')/\Bw Ax 93 a h.nx 0=I (.agg ⟨Bt n'⟩)/\BH Ax 234 (.map (I r)) (Gb n') (.agg ⟨Bt n'⟩) a=I J/\∃l',PH l n l'/\I4 J r l'/\B0 (·=r) h J:=by
   obtain⟨J,u1,u2,u3⟩:=Axs (M.ext g.e) n';exact⟨.nilFunc,.nilFunc,J,ld B (c.ext g.e),EQ (k:=7) Kq (show BK a j.nx 0 (Bt n'.key) from o1.cells) B,EQ (k:=7) Kq (show BK a h.nx 0 (Bt n') from q.cells) B,u1,_,PH.ah H (by rw[o];exact⟨by show 0<=z;omega,by show z=n.c\/z=0;omega⟩) (by rw[o]),u2,(g.e.ae _).trans u3.ae⟩
  obtain⟨_,_,J,a1,A,C,a4,D⟩:=up;have E:Nb (BH Ax 234 (.map (I r)) (Gb n') (.agg ⟨Bt n'⟩) a)=I (.tuple #[],J):=by rw[a4];rfl
  have u:K=Ag->∃l',PH l n l'/\I4 a r l'/\B0 (·=r) h a:=λhb=>⟨l,PH.same (N hb).1 ((N hb).2.trans H),M.ext g.e,g.e.ae _⟩;refine⟨j,Q,_,EQ (k:=7) Kq (show BK j h.nx 0 (Bt n') from(m.dD (i:=0) B).cells) B,_,_,R _,_,T,W,X,w,y6,_,ld B (c.ext p.e),_,EQ (k:=7) Kq (show BK w j.nx 0 (Bt n'.key) from(p.dD (i:=0) B).cells) B,_,_,Cs (CN w) l1,_,_,y7 _,_,y8,_,_,B,?_⟩;cases K with
  |false=>exact⟨_,a1,_,A,_,C,_,_,E,D⟩
  |
   true=>
   have u:=u B;refine⟨_,ld B (q.cell (i:=5) B),_,ld B (y.cell (i:=5) B),Ad (λ_=>?_) (λ_=>?_)⟩
   .exact⟨_,a1,_,A,_,C,_,_,E,D⟩
   refine⟨_,ld B (q.cell (i:=5) B),_,ld B (y.cell (i:=5) B),Ad (λ_=>?_) (λ_=>?_)⟩
   .refine⟨_,ld B (q.cell (i:=6) B),_,ld B (y.cell (i:=6) B),Ad (λ_=>?_) (λ_=>?_)⟩
    .exact⟨_,a1,_,A,_,C,_,_,E,D⟩
    .exact u
   .exact u
def Nz (z:Int):(Utf8.encode z).size<=4:=by
 unfold Utf8.encode;dsimp only
 repeat' split
 all_goals exact Ac rfl
def NS:∀xs:AH,(∀u∈xs,Lj u)->∃bs,FU xs=I bs/\bs.length<=4*xs.length
 |[],_=>Jq
 |
  x::xs,h=>by
  obtain⟨z,rfl⟩:=h x Av;obtain⟨bs,h1,a⟩:=NS xs λu b=>h u Jq;refine⟨(Utf8.encode z).data.toList++bs,by rw[FU,h1],?_⟩;rw[Aj,AO];have:(Utf8.encode z).data.toList.length<=4:=Nz z;omega
def Zi (r:Rd h v 1 n xs) (e:∀u∈xs,Lj u):∃s:Bd,Ea Ax 176 9 v h=I (.string s,h)/\s.size<=4*n/\(n≠0->FU xs=I s.data.toList):=by
 obtain⟨bs,b1,f⟩:=NS xs e;obtain⟨b,A,c,rfl,l,g,i⟩:=r;rw[BJ] at b;cases A with
 |
  none=>
  exact⟨.empty,B,by show 0<=_;omega,λo=>by have:=g B;omega⟩
 |
  some a=>
  obtain⟨p,q,m,w,lo,U,x,j,k⟩:=i a B;have d:=HQ k;rw[b] at d;refine⟨⟨⟨bs⟩⟩,?_,by rw[←b];exact f,λ_=>b1⟩;show(match Ax.ds.get 21,h.t.get a.block with
   |some (.int .u8),I (.cells c _ _ _ _ _)=>_
   |some (.int .i32),I (.cells c _ _ _ _ _)=>_
   |_,_=>_)=_
  rw[j,show Ax.ds.get 21=I (.int .i32) from B];simp[d,b1]
def VW (r:Rd h v 1 n xs) (a:∀u∈xs,Lj u) {lo U:Option Aa} {l:Nat} (b:RO 0 lo=I l) (d:RO n U=I m) (e:l<=m) (f:m<=n):
 ∃v',C7 Ax 176 v lo U Z=I v'/\∃s:Bd,Ea Ax 176 9 v' h=I (.string s,h)/\s.size<=4*(m-l):=by
 obtain⟨_,A,c,rfl,_⟩:=id r;obtain⟨v',h1,g,_⟩:=Rd.slice Kq r b d e f;obtain⟨s,i,j,_⟩:=Zi g λu k=>a u Jq;exact⟨v',h1,s,i,j⟩
def AGq (k:Base S L) {j m p q bM:Nat} {l:List BI} {f t c o:Int} (F:Cell h j 0 (.func (.func 128) #[] #[AG bM 0])) (T:Cell h bM 0 (.map (I r))) (M:I4 h r l)
 (x:Cell h m 0 (Vi f)) (H:Cell h p 0 v) (K:Cell h q 0 (Vi o)) (y:Rd h v 1 n xs) (N:∀u∈xs,Lj u) (V:0<=f/\f<=t/\t<=n):
 Bk S L 2 136 [Vi t,Vi c,AG j 0,AG m 0,AG p 0,AG q 0] h λ_ J=>∃(s:Bd) (l':List BI),s.size<=4*n/\PH l ⟨f,t,s,o,o,c,3⟩ l'/\I4 J r l'/\B0 (·=r) h J:=
 Cn f136 k λd W _=>by
  obtain⟨a,rfl⟩:∃a:Nat,f=a:=⟨f.toNat,G⟩;obtain⟨b,rfl⟩:∃b:Nat,t=b:=⟨t.toNat,G⟩;obtain⟨v',h1,s,O,h3⟩:=VW (h:=h.ad) Jq N (lo:=I (Vi a)) (U:=I (Vi b)) B B G G;obtain⟨_,A,cc,rfl,_⟩:=id y;have X:=AT (AA.refl h);have z:=K.ext X;have P:=M.ext X;obtain⟨g,C,c1,rfl⟩:∃g C c1,v'=.slice g C c1:=by
   obtain⟨w,D,⟨_,g,c1,e,_⟩,_⟩:=Rd.slice Kq y (lo:=I (Vi a)) (U:=I (Vi b)) B B G G;rw[h1] at D;cases D;exact⟨g,_,c1,e⟩
  refine⟨[.w 12],Kq,_,(ld B F:Bw Ax 235 h.ad j 0=I (.func (.func 128) #[] #[AG bM 0])),_,ld B x,_,ld B H,_,ld B x,_,_,Cs (CN _) h1,_,O,_,ld B z,_,ld B z,_,Apr (h:=(nb h).ad) (n:=⟨a,b,s,o,o,c,3⟩) k Jq Jq d G,?_⟩;rintro w h5 ⟨l',st,Q,E⟩;refine⟨E.ok (λi U=>U) ?_,?_⟩
  .obtain⟨_,es,ck,R,_⟩:=P
   exact⟨_,R,B⟩
  .refine⟨s,l',G,st,?_,(X.ae _).trans E.aa⟩
   unfold I4;rw[CL,DF];exact Q
end
section
variable{S:A9} {L:Nat}
structure Sy (S:A9) (L:Nat):Prop extends Base6 S L where
 cB:S.ov 137=I (IA Ax 93)
def Arl (N:Nat) (n:BI):Prop:=(0<=n.f/\n.f<N)/\(n.f<n.t/\n.t<=1000000)/\(0<=n.c/\n.c<=40000)/\n.s.size<=256
def Xx {a b:BI} (h:a.key=b.key):a.f=b.f/\a.t=b.t:=⟨(Cs BI.f h:a.key.f=b.key.f),(Cs BI.t h:a.key.t=b.key.t)⟩
def Ayl {a b:BI} (h:a.key=b.key):a.s=b.s:=(Cs BI.s h:a.key.s=b.key.s)
structure Mq (N k:Nat) (l:List BI):Prop where
 bd:l.Pairwise λa b=>a.key≠b.key
 ok:∀m∈l,Arl N m
 bq:∀i:Nat,i<k->∃m∈l,m.f=i/\m.t=i+1
def Mq.step {N k:Nat} {l l':List BI} {n:BI} (i:Mq N k l) (s:PH l n l') (q:0<=n.f/\n.f<N) (r:n.f<n.t/\n.t<=1000000) (u:n.c<=40000) (d:n.s.size<=256):Mq N k l':=by
 refine⟨s.bd i.bd,λm a=>?_,λj g=>?_⟩
 .rcases s.sub m a with a|⟨b,v,_⟩
  .exact i.ok m a
  .obtain⟨h,o⟩:=Xx b
   exact⟨G,G,G,by rw[Ayl b];exact d⟩
 .obtain⟨m,a,e⟩:=i.bq j g
  obtain⟨x,p,b⟩:=s.du m a;obtain⟨h,o⟩:=Xx b;exact⟨x,p,G,G⟩
def Mq.next {N k:Nat} {l l':List BI} {n:BI} (i:Mq N k l) (s:PH l n l') (a:0<=n.f/\n.f<N) (b:n.f<n.t/\n.t<=1000000) (d:n.c<=40000) (e:n.s.size<=256) (o:n.f=k) (p:n.t=k+1):Mq N (k+1) l':=by
 have j:=i.step s a b d e;refine⟨j.bd,j.ok,λx q=>?_⟩;rcases A8 x k with h|h
 .exact j.bq x h
 .obtain⟨y,g,m⟩:=s.new
  obtain⟨r,u⟩:=Xx m;exact⟨y,g,G,G⟩
def Aid {s:Bd} (h:FH s=Ag) (a:Gp s.data.toList []=Ah):1<=El s:=by
 rw[El,Bi h,H5];have:s.size=s.data.toList.length:=rfl;rw[this];cases c:s.data.toList with
 |nil=>rw[c] at a;cases a
 |cons b l=>rw[AO,CA,AO];omega
def AEk {h:Y} {r:Nat} {l:List BI} (m:I4 h r l):Bx Ax .len [234] [.map (I r)] h=I (Vi (l.length:Int),h):=by
 obtain⟨_,es,c,a,_,b⟩:=m;rw[(rfl:Bx Ax .len [234] [.map (I r)] h=(match(match h.t.get r with|some (.map es _)=>I (Vi (AQ es.length))|_=>Z) with|some v=>I (v,h)|none=>Z)),a,(by have:=Cs HD b;simpa using this.symm:l.length=es.length)];rfl
def Xt {a b:Bd} (h:Gd a b=0):a=b:=by
 unfold Gd at h;split at h
 .omega
 .rename_i c
  split at h
  .omega
  .rename_i d
   refine CJ.1 ?_;cases e:Gp a.data.toList b.data.toList with
   |true=>rfl
   |false=>exact Cf ((Ul a.data.toList b.data.toList (by simpa using c)).1 e) d
def Ayy {a b:BI} (h:Ty a b=0):a.key=b.key:=by
 obtain⟨c,h⟩:=Ob h;obtain⟨d,h⟩:=Ob h;obtain⟨_,h⟩:=Ob h;obtain⟨e,h⟩:=Ob h;obtain⟨f,h⟩:=Ob h;obtain⟨g,_⟩:=Ob h;unfold BI.key;rw[Mu c,←Mu d,Xt e,Mu f,Mu g]
def Ayp {D:Dt} (b:∀i:Nat,i<D.p5.n->(D.bG (i:Int)).ok D.ps.length) {e:CI} (h:D.has e):e.rd.size<=256/\e.tx.size<=256/\(0<=e.c/\e.c<=30000)/\1<=El e.rd/\El e.rd<=256:=by
 obtain⟨⟨⟨d,f⟩,_⟩,g,j,k⟩:=h;have a:=b g j;rw[←k] at a;obtain⟨_,_,l,m⟩:=a;have:=YZ e.rd;exact⟨d,f,l,m,G⟩
def Abq {h:Y} {r:Nat} (m:Gy h r Jt CZ) {a b:Bd} (c:a.size<=400) (hb:b.size<=400):∃x:Int,BW Ax 231 (.map (I r)) (.agg #[Sg a,Sg b]) Ah h.ad=I (Vi x)/\0<=x/\x<=30000:=by
 obtain⟨d,e,f,g,i⟩:=QH (t:=231) (et:=3) Kq XA (z:=Vi 0) Kq Jq ⟨a,b,B,c,hb⟩ Ah;obtain⟨x,rfl,j⟩:CZ d:=by
  cases e with
  |true=>exact g B
  |false=>rw[i B];exact⟨0,B,by decide,by decide⟩
 exact⟨x,f,j⟩
def c57 (C:Sy S L) {h:Y} (af:Ce h) {b:Nat} {D:Dt} {s:Bd} {lv:Aa} {ls:List RT} (A:DT h b D) (f:D.fits) (hp:D.ps.length<=64) (hv:∀i:Nat,i<D.p5.n->(D.bG (i:Int)).ok D.ps.length) (hs:s.size<=400)
 (p:Ls h lv ls) (b9:ls.length<=40) (ca:Oq ls):
 PE S L 30 57 [AG b 0,Sg s,lv] h λw J=>AA h J/\∃(o:Aa) (z:Int),w=.tuple #[o,Vi z]/\(z=0->∃l:List BI,Mq (El s).toNat (El s).toNat l/\(1<=El s/\El s<=64)/\l.length<=10000/\AS J h.nx 93 7 o l.length (l.flatMap Bt)):=
 GU (fn:=f57) C.toBase Kq B λd dv=>by
  have hL:=C.aI;have az:∀{H:Y} (z:Int),z≠0->AA h H->AA h H/\∃(o:Aa) (z':Int),C4 #[sN,Vi z]=.tuple #[o,Vi z']/\(z'=0->∃l:List BI,Mq (El s).toNat (El s).toNat l/\(1<=El s/\El s<=64)/\l.length<=10000/\AS H h.nx 93 7 o l.length (l.flatMap Bt)):=λz hz x=>⟨x,_,z,B,λh=>Cf h hz⟩;refine⟨Dc B,_,B,_,(ACa C.toBase5 af G d G).any,?_⟩;rintro _ h1 ⟨x1,z,rfl,hz⟩;apply Ad<;>intro e1
  .exact az z Jq x1
  obtain⟨bc,cb⟩:=hz Jq;have bd:FH s=true:=by
   cases hb:FH s with
   |true=>rfl
   |false=>simp[El,hb] at bc
  refine⟨_,(ADp C.toBase5 (af.ext x1) G d G).any,?_⟩;rintro _ R ⟨x2,⟨be,_⟩|⟨rs,⟨_,cc⟩,rfl,o2,ai,bf,a0⟩⟩
  .rw[bd] at be;cases be
  have cd:El s=(rs.length:Int):=by rw[El,Bi bd,cc];rfl
  obtain⟨n,hn⟩:∃n,n=rs.length:=⟨_,B⟩;rw[←hn] at cd;rw[(G:(El s).toNat=n)] at az⊢;obtain⟨q,hq⟩:∃q,q=R.nx-1:=⟨_,B⟩;rw[←hn,←hq];rw[←hq] at o2 ai;obtain⟨g1,y1,N,y2,s2⟩:=(Sep.nil R).var (t:=176) (z:=sN) Kq (v:=sL q n n) B B B;have c9:Cell N R.nx 0 (sL q n n):=(s2.dD (i:=0) B).cell B;have aj:=((Own.bN o2 G (Al _)).rd:Rd R (sL q n n) 1 n rs).ext s2.e;have X:=(x1.trans x2).trans s2.e;refine⟨_,_,y1 _,_,y2,_,(ACs C.toBase (Rd.ext p X) G (λx hx=>ca x hx) d G).any,?_⟩;rintro _ h3 ⟨x3,E,rfl,bg,ce⟩;have s3:=(Sep.nil N).add (a:=PW E Jt CZ 40) x3 ⟨bg.1,bg.2.imp λ_ h=>h.imp λ_ h=>⟨h.1,Ao h.2 b9⟩⟩ (λi U=>by rw[show i=E from U];exact ce);refine⟨_,(ACg C.toBase (A.ext (X.trans x3)) G d G).any,?_⟩;rintro _ h4 ⟨x4,O,rfl,dw⟩;obtain⟨g4,y4,g5,y5,s5⟩:=(s3.ext x4).var (t:=3) (z:=Vi 0) Kq (v:=Vi O) B B B;have s6:=s5.add (a:=aN g5.nx []) (AA.new g5 (.map [] 0)) ⟨by rw[Ck];omega,[],0,by rw[CK,Bi B],B,B⟩ (λi U=>A2 U.symm);obtain⟨g7,y7,g8,y8,s8⟩:=s6.var (t:=234) (z:=.map Z) Kq (v:=.map (I g5.nx)) B B B;refine⟨_,_,y4 _,_,y5,_,_,y7 _,_,y8,?_⟩;obtain⟨g9,y9,dx,a2,ag⟩:=s8.var (t:=235) (z:=.nilFunc) Kq (v:=.func (.func 128) #[] #[AG (g5.new (.map [] 0)).nx 0]) B B B;refine⟨_,_,y9 _,_,a2,?_⟩;generalize dy:(g5.new (.map [] 0)).nx=g at ag y8 y9 a2 s8 y7;generalize dz:g8.nx=F at ag y9 a2;generalize ea:h4.nx=K at ag;generalize eb:g5.nx=rF at ag;refine⟨_,ld B (c9.ext ag.e),λμ Q aa hh=>∃(k:Nat) (l:List BI),Q=[(0,AG b 0),(9,AG R.nx 0),(11,.map (I E)),(12,AG K 0),(13,AG g 0),(14,AG F 0),(44,Vi n),(45,Vi k)]/\aa=[]/\k<=n/\μ=n-k/\Mq n k l/\(1<=k->l.length<=10000)/\
   Sep N hh [aO F 235 [.func (.func 128) #[] #[AG g 0]],aO g 234 [.map (I rF)],aN rF l,aO K 3 [Vi O],PW E Jt CZ 40],
   ⟨_,_,Sq,G,0,[],B,B,Al _,B,(⟨List.Pairwise.nil,(λm hm=>by cases hm),λi U=>Cf U (F5 _)⟩:Mq n 0 []),(λh=>Cf h G),ag⟩,?_⟩
  rintro μ Q aa hh ⟨k,l,rfl,rfl,hk,rfl,CV,cf,s⟩ ar;apply Bz<;>intro k1
  .have cg:k<n:=G
   obtain⟨ec,a3,a4,a5,ad⟩:=s.var (t:=3) (z:=Vi 0) Kq (v:=Vi k) B B B;generalize ed:hh.nx=M at ad a3 a5;obtain⟨v',l1,st,l2,l3⟩:=VW (aj.ext ad.e) a0 (lo:=I (Vi k)) (U:=Z) (l:=k) (m:=n) B B G (Ae _);obtain⟨A1,n1,c1,rfl⟩:∃A1 n1 c1,v'=.slice A1 n1 c1:=by
    obtain⟨w,V,⟨_,A1,c1,e,_⟩,_⟩:=Rd.slice (τ:=Ax) (t:=176) (k:=1) Kq (aj.ext ad.e) (lo:=I (Vi k)) (U:=Z) (l:=k) (m:=n) B B G (Ae _);rw[l1] at V;cases V;exact⟨A1,_,c1,e⟩
   refine⟨_,_,a3 _,_,a5,_,ld B (c9.ext ad.e),_,ld B ((λs=>(s.dD (i:=0) B).cell (i:=0) B:∀{H l'},Sep N H (aO M 3 [Vi k]::l')->Cell H M 0 (Vi k)) ad),_,_,Cs (CN a4) l1,_,l2,_,(ADy C.toBase (A.ext (X.trans ad.e)) f G d G).any,?_⟩;rintro bh ch ⟨bi,es,au,ee,ci⟩;have bj:=ad.add (a:=aS a4.nx 114 5 bh es.length (es.flatMap BV)) bi au au.ai;have bk:Rd ch bh 5 es.length (es.flatMap BV):=au.rd;have cj:=bk;obtain⟨_,A0,c0,rfl,cl,cm,hA⟩:=bk;refine⟨λμ Q aa J=>∃(j:Nat) (l:List BI),Q=[(0,AG b 0),(9,AG R.nx 0),(11,.map (I E)),(12,AG K 0),(13,AG g 0),(14,AG F 0),(44,Vi n),(45,Vi k),(15,AG M 0),(16,Sg st),(54,.slice A0 es.length c0),(55,Vi es.length),(56,Vi j)]/\aa=[]/\j<=es.length/\μ=es.length-j/\Mq n k l/\
    Sep N J [aS a4.nx 114 5 (.slice A0 es.length c0) es.length (es.flatMap BV),aO M 3 [Vi k],aO F 235 [.func (.func 128) #[] #[AG g 0]],aO g 234 [.map (I rF)],aN rF l,aO K 3 [Vi O],PW E Jt CZ 40],
    ⟨_,_,Sq,?_,0,l,B,B,Al _,B,CV,bj⟩,?_⟩
   .omega
   rintro μ Q aa a6 ⟨j,l,rfl,rfl,hj,rfl,CV,s⟩ ar;apply Bz<;>intro j1
   .have bl:j<es.length:=G
    obtain⟨a1,w1,e9,_,V⟩:=(s.sl (i:=0) B).rd.el bl;cases e9;rw[flatK (f:=BV) (λ_=>rfl) es (Ab bl)] at V;obtain⟨e,he⟩:∃e,e=es[j]:=⟨_,B⟩;rw[←he] at V;obtain⟨z1,z2,hc,cn,cp⟩:=Ayp hv (ci e (by rw[he];exact Bu _):D.has e);obtain⟨ef,bm,ae,bn,ak⟩:=s.var (t:=114) (z:=.agg #[Sg ⟨#[]⟩,Sg ⟨#[]⟩,Vi 0,Vi 0,Vi 0]) Kq (v:=.agg ⟨BV e⟩) B B B;generalize eg:a6.nx=bo at ak bm bn;have Xc:∀{H l'},Sep N H (aO bo 114 (BV e)::l')->∀i v,(BV e)[i]?=I v->Cell H bo i v:=λs i v h=>(s.dD (i:=0) B).cell h;refine⟨G,_,EQ (k:=5) Kq (show BK a6 a1.block (a1.off+(j:Int).toNat*5) (BV e) from V) B,_,_,bm _,_,bn,[],Kq,_,ld B ((ak.dD (i:=2) B).cell (i:=0) B),_,ld B (Xc ak 0 _ B),_,c58 (h:=ae.ad) C.toBase5 (show Ce ae from af.ext (X.trans ak.e)) G d G,?_⟩;rintro _ al ⟨bp,rfl⟩;have W:=ak.bz bp;have cq:=W.cz (i:=7) B;obtain⟨x,u1,hx⟩:=Abq cq (a:=e.rd) (b:=e.tx) G G;have c13:Cell (ae.aa al) g 0 (.map (I rF)):=(W.dD (i:=4) B).cell (i:=0) B;have mN:I4 (ae.aa al) rF l:=(W.2.1 5 _ B).1;refine⟨bp.ag,Pq,[.w 20],Kq,_,ld B ((W.dD (i:=3) B).cell (i:=0) B),_,ld B ((W.dD (i:=2) B).cell (i:=0) B),_,ld B (Xc W 1 _ B),_,ld B (Xc W 2 _ B),_,ld B (Xc W 3 _ B),_,ld B (Xc W 4 _ B),_,ld B (Xc W 0 _ B),_,ld B (Xc W 1 _ B),_,_,Cs (CN _) u1,Pq,_,Apr (h:=(ae.aa al).ad) (n:=⟨k,k+El e.rd,e.tx,e.l,e.r,e.c-x,1⟩) C.toBase (show Cell (ae.aa al) _ _ _ from c13) (show I4 (ae.aa al) _ _ from mN) d G,?_⟩;rintro w eh ⟨l',a7,cr,bq⟩;refine⟨bq.ok (b0:=rF) (λi U=>U) ?_,?_⟩
    .obtain⟨_,es,ck,hm,_⟩:=mN
     exact⟨_,hm,B⟩
    have cs:=(W.aZ (i:=5) (a':=aN rF l') B bq cr (λx hx=>.inl hx)).drop 1;exact⟨Pq,_,_,CG (l:=[(0,_),(9,_),(11,_),(12,_),(13,_),(14,_),(44,_),(45,_),(15,_),(16,_),(54,_),(55,_),(56,Vi ((j+1:Nat):Int))]) ⟨B,B,B,B,B,B,B,B,B,B,B,B,Cs (λz=>I (Vi z)) (G),trivial⟩,(show es.length-(j+1)<es.length-j by omega),j+1,l',B,B,G,B,CV.step a7 ⟨by show(0:Int)<=k;omega,by show(k:Int)<n;omega⟩ ⟨by show(k:Int)<k+El e.rd;omega,by show(k:Int)+El e.rd<=1000000;omega⟩ (by show e.c-x<=40000;omega) z2,cs⟩
   .clear ar j1 hj hA cl cm cj au bj ad a3 a5 bi
    have s:=s.drop 1;obtain⟨⟨_,P,ei,br,bs,ct⟩,ej,_,bt,a8⟩:=(s.2.1 5 _ B).1;have a8:P.length<=40:=by
     rw[br] at bt;cases bt;exact a8
    obtain⟨ek,cu,bu⟩:=s.cN (τ:=Ax) (t:=231) (kt:=238) (et:=3) Kq (i:=5) B (m:=E) (λx=>Iff.rfl) br ct;refine⟨_,_,cu,?_⟩;generalize a6.nx=T at bu;refine⟨λμ Q aa J=>∃(u:List Ap) (l:List BI),Q=[(0,AG b 0),(9,AG R.nx 0),(11,.map (I E)),(12,AG K 0),(13,AG g 0),(14,AG F 0),(44,Vi n),(45,Vi k),(15,AG M 0),(16,Sg st),(88,AG T 0)]/\aa=[]/\μ=P.length-u.length/\Mq n k l/\
     Sep N J [aO M 3 [Vi k],aO F 235 [.func (.func 128) #[] #[AG g 0]],aO g 234 [.map (I rF)],aN rF l,aO K 3 [Vi O],Yu T E P u],
     ⟨_,_,Sq,?_,[],l,B,B,B,CV,bu⟩,?_⟩
    .show P.length-0<L;omega
    rintro μ Q aa bv ⟨u,l,rfl,rfl,rfl,CV,s⟩ ar;refine s.cO (i:=5) B (λbw=>?_) (λe he cv bx s=>?_)
    .have s:Sep N bv [aO M 3 [Vi k],aO F 235 [.func (.func 128) #[] #[AG g 0]],aO g 234 [.map (I rF)],aN rF l,aO K 3 [Vi O],Yu T E P u]:=s
     have s:=s.ah (i:=5) (a':=PW E Jt CZ 40) B ((AA.refl bv).ae _) (by
      obtain⟨q0,ck,_,V,q2,_⟩:=(s.it (i:=5) B).m;exact⟨⟨q0,P,ck,V,bs,q2⟩,P,ck,V,a8⟩) (λx hx=>.inl (.inr hx))
     let ah:Nat->Y->Prop:=λk' H=>∃l',Mq n k' l'/\Sep N H [aO M 3 [Vi k],aO F 235 [.func (.func 128) #[] #[AG g 0]],aO g 234 [.map (I rF)],aN rF l',aO K 3 [Vi O],PW E Jt CZ 40]
     have step:∀{k':Nat} {H:Y} (z c:Int),ah k' H->(k:Int)<z/\z<=n->c<=10000->Bk S L 2 136 [Vi z,Vi c,AG F 0,AG M 0,AG R.nx 0,AG K 0] H λ_ J=>ah k' J/\(k'=k->z=k+1->ah (k+1) J):=by
      rintro k' H z c ⟨l',i,s⟩ hz hc;refine(AGq C.toBase (h:=H) (r:=rF) (n:=n) (v:=sL q n n) (xs:=rs) (l:=l') (f:=k) (o:=O) (bM:=g) ((s.dD (i:=1) B).cell (i:=0) B) ((s.dD (i:=2) B).cell (i:=0) B) (s.2.1 3 _ B).1 ((s.dD (i:=0) B).cell (i:=0) B) (c9.ext s.e) ((s.dD (i:=4) B).cell (i:=0) B) (aj.ext s.e) a0 G).mono ?_;rintro _ J ⟨sz,l2,en,st2,m2,cw⟩;have s2:=s.ah (i:=3) (a':=aN rF l2) B cw m2 (λx hx=>.inl hx);have p1:0<=(k:Int)/\(k:Int)<n:=G;refine⟨⟨l2,i.step st2 p1 ⟨hz.1,by show z<=1000000;omega⟩ (by show c<=40000;omega) (by show sz.size<=256;omega),s2⟩,λhk cx=>?_⟩;subst hk;exact⟨l2,i.next st2 p1 ⟨hz.1,by show z<=1000000;omega⟩ (by show c<=40000;omega) (by show sz.size<=256;omega) B cx,s2⟩
     refine⟨_,ld B (c9.ext s.e),_,ld B ((s.dD (i:=0) B).cell (i:=0) B),_,(AAu C.toBase (n:=n) (i:=k) (e:=2) (xs:=rs) G a0 cg (ah k) (ah (k+1)) (λ_ j=>(λ⟨_,_,s⟩=>aj.ext s.e:∀{k':Nat} {H:Y},ah k' H->Rd H (sL q n n) 1 n rs) j) ⟨l,CV,s⟩ (aj.ext s.e) ⟨136,#[],#[AG F 0,AG M 0,AG R.nx 0,AG K 0],B,
      λH j=>(step ((k+1:Nat):Int) 10000 j G G).mono λ_ J hh=>hh.2 rfl G,λz c H j h1 R h3=>(step (z:Int) (c:Int) j G G).mono λ_ J hh=>hh.1⟩ d G).any,?_⟩
     rintro w eo ⟨l',cy,av⟩;refine⟨_,ld B ((av.dD (i:=2) B).cell (i:=0) B),_,_,AEk (av.2.1 3 _ B).1,Bz (λu1=>?_) (λu1=>?_)⟩
     .exact az 7 (by decide) (X.trans av.e)
     exact⟨Pq,_,_,CG (l:=[(0,_),(9,_),(11,_),(12,_),(13,_),(14,_),(44,_),(45,Vi ((k+1:Nat):Int))]) ⟨B,B,B,B,B,B,B,Cs (λz=>I (Vi z)) (G),trivial⟩,(show n-(k+1)<n-k by omega),k+1,l',B,B,G,B,cy,(λ_=>G),av.drop 1⟩
    .obtain⟨⟨ka,kb,bz,ep,er⟩,x,am,ev,ew⟩:=bs e he
     have bf:u.length<P.length:=by
      have:=(s.it (i:=5) B).len;rw[Aj,Br] at this;omega
     have s:Sep N bx [aO M 3 [Vi k],aO F 235 [.func (.func 128) #[] #[AG g 0]],aO g 234 [.map (I rF)],aN rF l,aO K 3 [Vi O],Yu T E P (u++[e])]:=s;have an:=QO (s.it (i:=5) B);rw[bz,am] at an;obtain⟨ex,b1,cz,b2,ab⟩:=s.var (t:=238) (z:=.agg #[Sg ⟨#[]⟩,Sg ⟨#[]⟩]) Kq (v:=.agg #[Sg ka,Sg kb]) B B B;generalize bx.nx=ao at ab b1 b2;have ab:Sep N cz (aO ao 238 [Sg ka,Sg kb]::[aO M 3 [Vi k],aO F 235 [.func (.func 128) #[] #[AG g 0]],aO g 234 [.map (I rF)],aN rF l,aO K 3 [Vi O],Yu T E P (u++[e])]):=ab;have go:∀{H:Y} (l':List BI) (pc:Ct),Mq n k l'->Sep N H (pc::[aO M 3 [Vi k],aO F 235 [.func (.func 128) #[] #[AG g 0]],aO g 234 [.map (I rF)],aN rF l',aO K 3 [Vi O],Yu T E P (u++[e])])->∀(Q:As),Sub [(0,AG b 0),(9,AG R.nx 0),(11,.map (I E)),(12,AG K 0),(13,AG g 0),(14,AG F 0),(44,Vi n),(45,Vi k),(15,AG M 0),(16,Sg st),(88,AG T 0)] Q->
      ∃m' A0,Sub A0 Q/\m'<P.length-u.length/\∃(u:List Ap) (l:List BI),A0=[(0,AG b 0),(9,AG R.nx 0),(11,.map (I E)),(12,AG K 0),(13,AG g 0),(14,AG F 0),(44,Vi n),(45,Vi k),(15,AG M 0),(16,Sg st),(88,AG T 0)]/\([]:Bo)=[]/\m'=P.length-u.length/\Mq n k l/\
       Sep N H [aO M 3 [Vi k],aO F 235 [.func (.func 128) #[] #[AG g 0]],aO g 234 [.map (I rF)],aN rF l,aO K 3 [Vi O],Yu T E P u]:=λl' pc i s Q c2=>
      ⟨_,_,c2,(by rw[Aj,Br];omega:P.length-(u++[e]).length<_),u++[e],l',B,B,B,i,s.drop 1⟩
     have Sn:∀{H l'},Sep N H (aO ao 238 [Sg ka,Sg kb]::l')->∀i v,[Sg ka,Sg kb][i]?=I v->Cell H ao i v:=λs i v h=>(s.dD (i:=0) B).cell h;rw[bz,am];refine⟨_,_,Cs (CN _) an,_,_,b1 _,_,b2,_,ld B (Sn ab 0 _ B),_,B,Ad (λt1=>?_) (λt1=>?_)⟩
     .exact go l _ CV ab _ (Sq)
     refine⟨_,ld B (Sn ab 0 _ B),_,(AGo C.toBase d G).any,?_⟩;rintro _ _ ⟨rfl,pre,rfl,ey⟩;refine⟨_,_,B,Ad (λt2=>?_) (λt2=>?_)⟩
     .exact go l _ CV ab _ (Sq)
     refine⟨_,ld B (Sn ab 0 _ B),_,(c77 C.toBase5 (af.ext (X.trans ab.e)) G d G).any,?_⟩;rintro _ ez ⟨c3,rfl⟩;have aw:=ab.ext c3;refine⟨_,_,B,Ad (λt3=>?_) (λt3=>?_)⟩
     .exact go l _ CV aw _ (Sq)
     refine⟨_,ld B (Sn aw 1 _ B),_,(AEv C.toBase5 (af.ext (X.trans aw.e)) G d G).any,?_⟩;rintro _ e0 ⟨c4,e2,rfl,c5⟩;have ax:=aw.ext c4;refine⟨_,_,B,Ad (λt4=>?_) (λt4=>?_)⟩
     .exact go l _ CV ax _ (Sq)
     refine⟨_,ld B (Sn ax 0 _ B),_,(AAp C.toBase (A.ext (X.trans ax.e)) f G d G).any,?_⟩;rintro e3 e4 ⟨c6,es2,c7,e5,e6⟩;have b3:=ax.ext c6;refine⟨_,(AEc C.toBase (e:=1) c7 G ⟨134,#[],#[AG ao 0],B,λe _ J x'=>ABd C.toBase ((Sn b3 1 _ B).ext x')⟩ d G).any,?_⟩;rintro _ ap ⟨c8,e7,rfl⟩;have aq:=b3.ext c8;refine⟨_,_,B,Ad (λt5=>?_) (λt5=>?_)⟩;rotate_left
     .exact go l _ CV aq _ (Sq)
     have cp:=YZ ka;have cn:1<=El ka:=Aid (by simpa using t3) (by simpa using t1);have c13:∀{H:Y} {l':List BI},Sep N H (aO ao 238 [Sg ka,Sg kb]::[aO M 3 [Vi k],aO F 235 [.func (.func 128) #[] #[AG g 0]],aO g 234 [.map (I rF)],aN rF l',aO K 3 [Vi O],Yu T E P (u++[e])])->Cell H g 0 (.map (I rF))/\I4 H rF l'/\Cell H F 0 (.func (.func 128) #[] #[AG g 0])/\Cell H M 0 (Vi k)/\Cell H K 0 (Vi O):=
      λs=>⟨(s.dD (i:=3) B).cell (i:=0) B,(s.2.1 4 _ B).1,(s.dD (i:=2) B).cell (i:=0) B,(s.dD (i:=1) B).cell (i:=0) B,(s.dD (i:=5) B).cell (i:=0) B⟩
     obtain⟨_,_,da,k15,_⟩:=c13 aq;refine⟨[.w 14],Kq,_,ld B da,_,ld B k15,_,ld B k15,_,ld B (Sn aq 0 _ B),_,c58 (h:=ap.ad) C.toBase5 (show Ce ap from af.ext (X.trans aq.e)) G d G,?_⟩;rintro _ a9 ⟨b4,rfl⟩;have ba:=aq.bz b4;obtain⟨db,mN,_,_,k12⟩:=c13 ba;refine⟨b4.ag,Pq,_,ld B (Sn ba 1 _ B),_,ld B k12,_,ld B k12,Pq,_,Apr (h:=(ap.aa a9).ad) (n:=⟨k,k+El ka,kb,O,O,8000-x,2⟩) C.toBase (show Cell (ap.aa a9) _ _ _ from db) (show I4 (ap.aa a9) _ _ from mN) d G,?_⟩;rintro w e8 ⟨l',a7,m29,b5⟩;refine⟨b5.ok (b0:=rF) (λi U=>U) ?_,?_⟩
     .obtain⟨_,es,ck,hm,_⟩:=mN
      exact⟨_,hm,B⟩
     have dc:=ba.aZ (i:=4) (a':=aN rF l') B b5 m29 (λx hx=>.inl hx);exact go l' _ (CV.step a7 ⟨by show(0:Int)<=k;omega,by show(k:Int)<n;omega⟩ ⟨by show(k:Int)<k+El ka;omega,by show(k:Int)+El ka<=1000000;omega⟩ (by show 8000-x<=40000;omega) (c5 (by simpa using t4))) dc _ (Sq)
  .obtain rfl:k=n:=G
   have hl:=cf G;have mN:I4 hh rF l:=(s.2.1 2 _ B).1;obtain⟨_,eN,fa,dd,de,ai⟩:=mN;have fb:eN.length=l.length:=by have:=Cs HD ai;simpa using this
   obtain⟨fc,b6,b7⟩:=s.cN (τ:=Ax) (t:=234) (kt:=93) (et:=93) Kq (i:=2) B (m:=rF) (λx=>Iff.rfl) dd de;generalize fd:hh.nx=T at b7 b6;have df:=b7.add (a:=aS h.nx 93 7 (sN) 0 []) (AA.refl _) (AS.nil _ _ _ _) (λi U=>U.elim);refine⟨_,ld B ((s.dD (i:=1) B).cell (i:=0) B),_,_,b6,λμ Q aa J=>∃(u:List Ap) (ov:Aa),Q=[(22,ov),(147,AG T 0)]/\aa=[]/\μ=eN.length-u.length/\
    Sep N J [aS h.nx 93 7 ov u.length (u.flatMap λe=>AJ e.val),aO F 235 [.func (.func 128) #[] #[AG g 0]],aO g 234 [.map (I rF)],Yu T rF eN u,aO K 3 [Vi O],PW E Jt CZ 40],
    ⟨_,_,Sq,?_,[],_,B,B,B,df⟩,?_⟩
   .show eN.length-0<L;omega
   rintro μ Q aa fe ⟨u,ov,rfl,rfl,rfl,s⟩ ar;refine s.cO (i:=3) B (λbw=>?_) (λe he cv dg s=>?_)
   .have hp:=(s.it (i:=3) B).all bw
    have o:=s.sl (i:=0) B;obtain⟨ml,V,q2⟩:=HH (λn=>(Gb n,(.agg ⟨Bt n⟩:Aa))) (l:=u.map λe:Ap=>(e.key,e.val)) (m:=l) (by rw[←ai];exact hp.map _);have dh:ml.length=u.length:=by have:=Cs HD V;simpa using this.symm
    have di:u.flatMap (λe=>AJ e.val)=ml.flatMap Bt:=by
     have e1:u.flatMap (λe=>AJ e.val)=(u.map λe:Ap=>(e.key,e.val)).flatMap λp=>AJ p.2:=by rw[UM]
     rw[e1,V,UM];rfl
    rw[di,←dh] at o;have dj:ml.Pairwise λa b=>Ty a b≠0:=((q2.pairwise_iff (λh e=>h e.symm)).2 CV.bd).imp λh e=>h (Ayy e);have ff:ml.length=l.length:=q2.length_eq;refine⟨_,(QS cmN (Cr:=Bt) (k:=7) (d:=3) C.cB Kq Kq (λ_=>⟨B,B⟩) o B G dj (λx _ y _=>Awf C.toBase) d G).any,?_⟩;rintro _ dk ⟨rfl,dl,dm⟩;have ay:=DO (c:=Ty) ml;have dn:AA h dk:=(X.trans s.e).then dm λi U=>o.ai i U
    refine⟨dn,ov,0,B,λ_=>⟨H0 Ty ml,?_,⟨bc,cb⟩,by rw[ay.length_eq];omega,by rw[ay.length_eq];exact dl⟩⟩;have b8:∀m,m∈H0 Ty ml↔m∈l:=λm=>(ay.mem_iff).trans q2.mem_iff;exact⟨((ay.trans q2).pairwise_iff (λh e=>h e.symm)).2 CV.bd,λm hm=>CV.ok m ((b8 m).1 hm),λi U=>by
     obtain⟨m,h1,R⟩:=CV.bq i U;exact⟨m,(b8 m).2 h1,R⟩⟩
   .obtain⟨m,hm,dp⟩:=List.mem_map.1 (show(e.key,e.val)∈l.map _ from ai▸Gn he)
    have am:e.val=.agg ⟨Bt m⟩:=(Cs Amy dp).symm;have bf:u.length<eN.length:=by
     have:=(s.it (i:=3) B).len;rw[Aj,Br] at this;omega
    have an:=QO (s.it (i:=3) B);rw[am] at an;obtain⟨fg,dq,dr,ds,bb⟩:=s.var (t:=93) (z:=.agg ⟨Bt DS⟩) Kq (v:=.agg ⟨Bt m⟩) B B B;obtain⟨dt,fh,t37,du⟩:=bb.ba (st:=78) (t2:=78) (e:=93) (k:=7) Kq (i:=1) B (ys:=Bt m) B B (Ao (X.trans bb.e).nx (Ae _)) G (n':=(u++[e]).length) (xs':=(u++[e]).flatMap λe=>AJ e.val) (by simp) (by rw[E0,List.flatMap_singleton,am];rfl);refine⟨_,_,Cs (CN _) an,_,_,dq _,_,ds,_,EQ (k:=7) Kq (show BK dr dg.nx 0 (Bt m) from(bb.dD (i:=0) B).cells) B,_,_,Iv (τ:=Ax) (t:=78) (e:=93) (k:=7) Kq (.agg ⟨Bt m⟩) B B (by decide) _,_,_,t37,?_⟩;exact⟨_,_,Sq,(by rw[Aj,Br];omega:eN.length-(u++[e]).length<_),u++[e],dt,B,B,B,du.drop 1⟩
end
section
variable {h J h0 h1 H:Y} {v fv nv pv cv ev lv u v':Aa} {xs args vs ys:AH} {n b N i k e r j x m c q d a p t2 st sb mo ck lp rm b0 sz off:Nat} {t:Ai} {f:Au} {fn:BC} {s:Bd} {bs:Bl} {ws:Bo} {W:Nat->Prop} {Q:Aa->Y->Prop} {A:Option BD} {z df day:Int} {ss:BZ} {τ:Bb}
variable{S:A9} {L:Nat}
def Od (v:Aa):Prop:=∃a b:Bd,v=.agg #[.string a,.string b]
def Azw (a b c d:Bd):IZ Ax Op.maxDepth 143 (.agg #[Sg a,Sg b]) (.agg #[Sg c,Sg d])=I (Gp a.data.toList c.data.toList&&(Gp b.data.toList d.data.toList&&Ag)):=by
 have e:IZ Ax Op.maxDepth 143 (.agg #[Sg a,Sg b]) (.agg #[Sg c,Sg d])=bm (Gp a.data.toList c.data.toList) (bm (Gp b.data.toList d.data.toList) (I Ag)):=rfl;rw[e,L1,L1]
def Adw:K8 Ax 143 Od:=by
 rintro _ ⟨a,b,rfl⟩;refine⟨B,?_⟩;rintro _ ⟨c,d,rfl⟩;refine⟨_,Azw a b c d,λh=>?_⟩;rw[An,Mh] at h;obtain rfl:=CJ.1 h.1;obtain rfl:=CJ.1 h.2;show((Cy (Sg a) (Sg a))&&((Cy (Sg b) (Sg b))&&Ag))=Ag;have e:Cy (Sg a) (Sg a)=true:=h.1;have f:Cy (Sg b) (Sg b)=true:=h.2;rw[e,f];rfl
structure Cb where
 db:Nat
 D:Dt
 tx:Bd
 nv:Aa
 ns:List BI
 fv:Aa
 vs:AH
 fs:List Bo
 mb:Nat
 be:List Ap
def Cb.cells (V:Cb):AH:=[AG V.db 0,.string V.tx,V.nv,V.fv,.map (I V.mb)]
structure EI (h:Y) (p:Nat) (V:Cb):Prop where
 c:∀(i:Nat) v,V.cells[i]?=I v->Cell h p i v
 D:DT h V.db V.D
 ns:Rd h V.nv 7 V.ns.length (V.ns.flatMap Bt)
 fs:Rd h V.fv 1 V.fs.length V.vs
 fi:∀(i:Nat) v l,V.vs[i]?=I v->V.fs[i]?=I l->Rd h v 1 l.length (Bn l)
 mb:V.mb<h.nx/\∃ck,h.t.get V.mb=I (.map V.be ck)
def EI.ext {V:Cb} (A:EI h p V) (x:AA h J):EI J p V:=
 ⟨λi v e=>(A.c i v e).ext x,A.D.ext x,A.ns.ext x,A.fs.ext x,λi v l a b=>(A.fi i v l a b).ext x,⟨AC A.mb.1 x.nx,by rw[x.t _ A.mb.1];exact A.mb.2⟩⟩
structure Cb.Ok (V:Cb):Prop where
 N:1<=V.fs.length/\V.fs.length<=64
 cL:El V.tx=V.fs.length
 inv:Mq V.fs.length V.fs.length V.ns
 len:V.ns.length<=10000
 at_:∀(i:Nat) l,V.fs[i]?=I l->l=(BG V.ns.length).filter λj=>decide ((V.ns.getD j DS).f=(i:Int))
 vl:V.vs.length=V.fs.length
 be:∀e∈V.be,Od e.key/\CZ e.val
 df:0<=V.D.df/\V.D.df<=30000
 ml:EJ V.D.ps.length V.D.ml
def Yv (N:Nat) (vs:AH) (a:List Bo):List Ct:=List.zipWith (λv f=>aS N 3 1 v f.length (Bn f)) vs a
def Uh:∀{vs:AH} {a:List Bo} {i:Nat} {v:Aa} {f:Bo},vs[i]?=I v->a[i]?=I f->(Yv N vs a)[i]?=I (aS N 3 1 v f.length (Bn f)):=λ{vs a i v f} h1 b=>by
 unfold Yv;rw[List.getElem?_zipWith,h1,b]
def Zs:∀{vs:AH} {c:List Bo} (i:Nat) (v:Aa) (f:Bo),(Yv N vs c).set i (aS N 3 1 v f.length (Bn f))=Yv N (vs.set i v) (c.set i f)
 |[],c,i,v,f=>by simp[Yv]
 |_::_,[],i,v,f=>by simp[Yv]
 |a::vs,b::c,0,v,f=>rfl
 |
  a::vs,b::c,i+1,v,f=>by
  show _::(Yv N vs c).set i _=_::Yv N (vs.set i v) (c.set i f);rw[Zs]
def Zf {l:List Ct} (s:Sep h0 h l) (N:Nat):∀n,Sep h0 h (Yv N (AE n (sN)) (AE n [])++l)
 |0=>s
 |n+1=>(Zf s N n).add (AA.refl h) (AS.nil _ _ _ _) λi U=>U.elim
def WB (a:List BI) (i k:Nat):(BG (k+1)).filter (λj=>decide ((a.getD j DS).f=(i:Int)))=(BG k).filter (λj=>decide ((a.getD j DS).f=(i:Int)))++(if(a.getD k DS).f=(i:Int) then[k] else[]):=by
 rw[Acb,O6];congr 1;by_cases h:(a.getD k DS).f=(i:Int)
 .rw[Bi h];simp only[List.filter_cons,decide_eq_true h];rfl
 .rw[Bm h];simp only[List.filter_cons,decide_eq_false h];rfl
def Sn (ag:Sy S L) {h:Y} (ak:Ce h) {b:Nat} {D:Dt} {M:Bd} {lv pv:Aa} {ls C:List RT} (A:DT h b D) (f:D.fits) (hp:D.ps.length<=64) (hv:∀i:Nat,i<D.p5.n->(D.bG (i:Int)).ok D.ps.length) (hs:M.size<=400)
 (av:0<=D.df/\D.df<=30000) (aw:EJ D.ps.length D.ml) (p:Ls h lv ls) (ax:ls.length<=40) (ay:Oq ls) (pp:Ls h pv C) (bf:C.length<=40):
 PE S L 31 20 [AG b 0,Sg M,lv,pv] h λw J=>AA h J/\∃(o:Aa) (z:Int),w=.tuple #[o,Vi z]/\(z=0->∃(p:Nat) (V:Cb),o=AG p 0/\EI J p V/\V.Ok):=
 GU (fn:=f20) ag.toBase Kq B λd bg=>by
  have hL:=ag.aI;have az:∀{H:Y} (z:Int),z≠0->AA h H->AA h H/\∃(o:Aa) (z':Int),C4 #[.pointer Z,Vi z]=.tuple #[o,Vi z']/\(z'=0->∃(p:Nat) (V:Cb),o=AG p 0/\EI H p V/\V.Ok):=λz hz x=>⟨x,_,z,B,λh=>Cf h hz⟩;have a0:=pp;obtain⟨_,al,pc,rfl,_⟩:=pp;refine⟨Dc B,_,B,_,c57 ag ak A f hp hv hs p ax ay d G,?_⟩;rintro _ h1 ⟨x1,o,z,rfl,hz⟩;apply Ad<;>intro e1
  .exact az z (by simpa using e1) x1
  obtain⟨g,CV,⟨bh,bi⟩,hl,on⟩:=hz (by simpa using e1);obtain⟨N,hN⟩:∃N:Nat,El M=N:=⟨(El M).toNat,G⟩;rw[hN,show((N:Int)).toNat=N from B] at CV;have a2:0<g.length:=by
   obtain⟨m,hm,_⟩:=CV.bq 0 G;exact List.length_pos_of_mem hm
  obtain⟨Q,T,rfl⟩:=on.lit a2;refine⟨_,(c58 ag.toBase5 (ak.ext x1) G d G).any,?_⟩;rintro _ R ⟨x2,rfl⟩;have nr:=on.rd.ext x2;have am:=x1.trans x2;obtain⟨h3,y3,x3,o3,_⟩:=YH (τ:=Ax) (t:=79) (e:=48) (k:=1) (z:=sN) Kq Kq N N (Ae _) G .i64 .i64 R;rw[show AJ (sN)=[sN] from B,QV] at o3;have s3:=(Sep.nil R).add (a:=aO R.nx 48 (AE N (sN))) x3 o3 (λi U=>A2 U.symm);have s4:=s3.mk Od CZ;refine⟨_,_,by rw[hN];exact y3,?_⟩;obtain⟨g5,y5,s5⟩:=s4.box Ax 82 (.agg #[AG b 0,Sg M,sL Q g.length T,sL R.nx N N,.map (I h3.nx)]);refine⟨_,_,y5,?_⟩;generalize bj:(h3.new (.map [] 0)).nx=F at s5 y5;generalize bk:h3.nx=r at s5;generalize bl:R.nx=c at s5;have s5:Sep R g5 [aO F 82 [AG b 0,Sg M,sL Q g.length T,sL c N N,.map (I r)],aM r Od CZ,aO c 48 (AE N (sN))]:=s5;have s6:=(Zf s5 c N).perm ZC;refine⟨λμ A' ae O=>∃(k:Nat) (vs:AH) (K:List Bo),A'=[(3,.slice al C.length pc),(12,AG F 0),(41,sL Q g.length T),(42,Vi g.length),(43,Vi k)]/\ae=[]/\k<=g.length/\μ=g.length-k/\vs.length=N/\K.length=N/\
   (∀(i:Nat) l,K[i]?=I l->l=(BG k).filter λj=>decide ((g.getD j DS).f=(i:Int)))/\Sep R O ([aO F 82 [AG b 0,Sg M,sL Q g.length T,sL c N N,.map (I r)],aM r Od CZ,aO c 48 vs]++Yv c vs K),
   ⟨_,_,Sq,G,0,_,_,B,B,Al _,B,by simp,by simp,(λi l U=>(CH (AZ U)).trans (by simp)),s6⟩,?_⟩
  rintro μ A' ae O ⟨k,vs,K,rfl,rfl,hk,rfl,an,aa,ah,s⟩ a3;apply Bz<;>intro k1
  .have ab:k<g.length:=G
   obtain⟨a1,w1,e9,_,q1⟩:=(nr.ext s.e).el ab;cases e9;rw[flatK (f:=Bt) (λ_=>rfl) g (Ab ab)] at q1;obtain⟨n,hn⟩:∃n,n=g[k]:=⟨_,B⟩;have a4:=CV.ok n (by rw[hn];exact Bu _);rw[←hn] at q1;obtain⟨⟨f0,f1⟩,_⟩:=a4;obtain⟨i,U⟩:∃i:Nat,n.f=i:=⟨n.f.toNat,G⟩;have bm:i<N:=G;have a5:g.getD k DS=n:=by rw[Ak,Ab ab,hn];rfl
   obtain⟨g7,y7,E,y8,u⟩:=s.var (t:=93) (z:=.agg ⟨Bt DS⟩) Kq (v:=.agg ⟨Bt n⟩) B B B;generalize bn:O.nx=ad at u y7 y8;have u:Sep R E (aO ad 93 (Bt n)::aO F 82 [AG b 0,Sg M,sL Q g.length T,sL c N N,.map (I r)]::aM r Od CZ::aO c 48 vs::Yv c vs K):=u;obtain⟨v,ao⟩:∃v,vs[i]?=I v:=⟨vs[i],Ab G⟩;obtain⟨l,ai⟩:∃l,K[i]?=I l:=⟨K[i],Ab G⟩;have aj:(aO ad 93 (Bt n)::aO F 82 [AG b 0,Sg M,sL Q g.length T,sL c N N,.map (I r)]::aM r Od CZ::aO c 48 vs::Yv c vs K)[i+4]?=I (aS c 3 1 v l.length (Bn l)):=Uh ao ai;have ap:Cell E ad 0 (Vi i):=by have:=(u.dD (i:=0) B).cell (i:=0) (v:=Vi n.f) B;rwa [U] at this
   have aq:Cell E F 3 (sL c N N):=(u.dD (i:=1) B).cell (i:=3) B;have cv:Cell E c i v:=(u.dD (i:=3) B).cell ao;have bo:l.length<=k:=by rw[ah i l ai];exact Ao (D7 _ _) (by simp)
   obtain⟨gx,e9,v5,h5,t5,s9,hB⟩:=u.bo (st:=48) (t2:=48) (e:=3) (k:=1) Kq (i:=i+4) aj (ys:=[Vi k]) B B (by have:=u.e.nx;omega) G (n':=(l++[k]).length) (xs':=Bn (l++[k])) (by simp) (by simp[Bn]);subst e9;have s9:Sep R ((E.aa (BN E.ad 3 [Vi k])).aa h5) (aO ad 93 (Bt n)::aO F 82 [AG b 0,Sg M,sL Q g.length T,sL c N N,.map (I r)]::aM r Od CZ::aO c 48 vs::Yv c (vs.set i v5) (K.set i (l++[k]))):=by
    rw[←Zs];exact s9
   obtain⟨h6,t6,W⟩:=s9.stM (t:=48) B (i:=3) B (j:=i) (v:=v5) G (D5 (s9.sl (i:=i+4) (Uh (O4 G) (O4 G))));have ei:0+((i:Int)).toNat*t48.size=i:=by show 0+i*1=i;omega
   have l5:Bw Ax 48 E.ad c (0+((i:Int)).toNat*t48.size)=I v:=by rw[ei];exact ld B cv
   have a6:BA Ax 48 ((E.aa (BN E.ad 3 [Vi k])).aa h5).ad c (0+((i:Int)).toNat*t48.size) v5=I h6:=by rw[ei];exact t6
   refine⟨G,_,EQ (k:=7) Kq (show BK O Q (0+(k:Int).toNat*7) (Bt n) from q1) B,_,_,y7 _,_,y8,?_⟩;refine⟨[.x 16 3,.x 16 5],Kq,_,ld B aq,_,ld B ap,_,ld B aq,_,ld B ap,G,_,l5,_,_,Iv (τ:=Ax) (t:=48) (e:=3) (k:=1) Kq (Vi k) B B (by decide) _,_,_,t5,?_⟩;refine⟨hB ad (u.dD (i:=0) B).1 (u.2.2 0 (i+4) _ _ G B aj ad B),hB F (u.dD (i:=1) B).1 (u.2.2 1 (i+4) _ _ G B aj F B),G,_,a6,?_⟩;refine⟨Pq,_,_,CG (l:=[(3,_),(12,_),(41,_),(42,_),(43,Vi ((k+1:Nat):Int))]) ⟨B,B,B,B,Cs (λz=>I (Vi z)) (G),trivial⟩,(show g.length-(k+1)<g.length-k by omega),k+1,vs.set i v5,K.set i (l++[k]),B,B,G,B,by simp[an],by simp[aa],λi' l' af=>?_,W.drop 1⟩;rw[WB,a5,U];rw[Iu] at af;split at af
   .rename_i e
    subst e;rw[Bi G] at af;cases af;rw[Bi B,←ah i l ai]
   .rename_i e
    rw[Bm G,Fb];exact ah i' l' af
  .obtain rfl:k=g.length:=G
   refine⟨λμ A' ae O=>∃(k:Nat),A'=[(12,AG F 0),(67,.slice al C.length pc),(68,Vi C.length),(69,Vi k)]/\ae=[]/\k<=C.length/\μ=C.length-k/\
    Sep R O ([aO F 82 [AG b 0,Sg M,sL Q g.length T,sL c N N,.map (I r)],aM r Od CZ,aO c 48 vs]++Yv c vs K),
    ⟨_,_,Sq,G,0,B,B,Al _,B,s⟩,?_⟩
   rintro μ A' ae O ⟨k,rfl,rfl,hk,rfl,s⟩ a3;apply Bz<;>intro k1
   .have ab:k<C.length:=G
    obtain⟨a1,w1,e9,_,q1⟩:=(Rd.ext a0 (am.trans s.e)).el ab;cases e9;rw[flatK (f:=Qm) (λ_=>rfl) C (Ab ab)] at q1;obtain⟨⟨x,y,z⟩,hq⟩:∃q,q=C[k]:=⟨_,B⟩;rw[←hq] at q1;obtain⟨g7,y7,E,y8,u⟩:=s.var (t:=61) (z:=.agg #[Sg ⟨#[]⟩,Sg ⟨#[]⟩,Vi 0]) Kq (v:=.agg ⟨Qm ⟨x,y,z⟩⟩) B B B;have o8:Own E O.nx 61 [Sg x,Sg y,Vi z]:=u.dD (i:=0) B;obtain⟨g9,y9,P,a7,W⟩:=u.var (t:=143) (z:=.agg #[Sg ⟨#[]⟩,Sg ⟨#[]⟩]) Kq (v:=.agg #[Sg x,Sg y]) B B B;have a8:Own P E.nx 143 [Sg x,Sg y]:=W.dD (i:=0) B;have a9:Own P O.nx 61 [Sg x,Sg y,Vi z]:=W.dD (i:=1) B;have ar:Cell P F 4 (.map (I r)):=(W.dD (i:=2) B).cell (i:=4) B;have mw:=W.mw (i:=3) B;obtain⟨lv,bp,l1,_,_⟩:=QH (h:=P.ad) (τ:=Ax) (t:=80) (kt:=143) (et:=3) Kq Adw (z:=Vi 0) Kq (show Gy P r Od CZ from mw) (k:=.agg #[Sg x,Sg y]) ⟨x,y,B⟩ Ag;have au:Bw Ax 143 P.ad E.nx 0=I (.agg #[Sg x,Sg y]):=EQ (k:=2) Kq (show BK P E.nx 0 [Sg x,Sg y] from a8.cells) B;refine⟨G,_,EQ (k:=3) Kq (show BK O a1.block (a1.off+(k:Int).toNat*3) (Qm ⟨x,y,z⟩) from q1) B,_,_,y7 _,_,y8,_,ld B (o8.cell (i:=0) B),_,ld B (o8.cell (i:=1) B),_,_,y9 _,_,a7,?_⟩;refine⟨[],Kq,_,ld B ar,_,au,_,_,Cs (CN P.ad) l1,_,_,B,?_⟩;apply Ad<;>intro u1
    .refine⟨[],Kq,_,ld B ar,_,au,_,ld B (a9.cell (i:=2) B),?_⟩
     intro z1 bq z2 br;obtain⟨ba,bb,m11,bc⟩:=Aju (h:=P.ad) (τ:=Ax) (t:=80) (kt:=143) (et:=3) Kq Adw (show Gy P r Od CZ from mw) (k:=.agg #[Sg x,Sg y]) (v:=Vi z2) ⟨x,y,B⟩ ⟨z2,B,G,G⟩;have bd:Nb (BH Ax 80 (.map (I r)) (.agg #[Sg x,Sg y]) (Vi z2) P.ad)=I (.tuple #[],ba):=by rw[bb];rfl
     have be:=(W.aZ (i:=3) (a':=aM r Od CZ) B bc.ae m11 (λx hx=>.inl hx)).drop 2;exact⟨_,_,bd,Pq,_,_,CG (l:=[(12,_),(67,_),(68,_),(69,Vi ((k+1:Nat):Int))]) ⟨B,B,B,Cs (λz=>I (Vi z)) (G),trivial⟩,(show C.length-(k+1)<C.length-k by omega),k+1,B,B,G,B,be⟩
    .exact⟨Pq,_,_,CG (l:=[(12,_),(67,_),(68,_),(69,Vi ((k+1:Nat):Int))]) ⟨B,B,B,Cs (λz=>I (Vi z)) (G),trivial⟩,(show C.length-(k+1)<C.length-k by omega),k+1,B,B,G,B,W.drop 2⟩
   .obtain⟨m1,es,ck,m2,m3,_⟩:=s.mw (i:=1) B
    have X:=am.trans s.e;refine⟨X,_,0,B,λ_=>⟨F,⟨b,D,M,sL Q g.length T,g,sL c N N,vs,K,r,es⟩,B,⟨λi v e=>(s.dD (i:=0) B).cell e,A.ext X,nr.ext s.e,?_,λi v l hv hl=>(s.sl (i:=i+3) (Uh hv hl)).rd,m1,ck,m2⟩,⟨by rw[aa];omega,by rw[aa];exact hN,by rw[aa];exact CV,hl,λi l U=>ah i l U,by rw[an,aa],m3,av,aw⟩⟩⟩;show Rd O (sL c N N) 1 K.length vs;rw[aa];exact(Own.bN (N:=0) (n:=N) (k:=1) (s.dD (i:=2) B) G (Al _)).rd
def c11 (a:Base S L) {h:Y} {p:Nat} {V:Cb} (A:EI h p V):Bk S L 1 11 [AG p 0] h λw J=>J=h/\w=Vi V.fs.length:=
 Cn f11 a λd b _=>by
  have c3:=A.c 3 _ B;obtain⟨_,f,g,e,_⟩:=A.fs;rw[e] at c3;exact⟨_,B,_,ld B c3,B,B⟩
def PT (a:Base S L) {h:Y} {p:Nat} {V:Cb} (A:EI h p V):Bk S L 1 16 [AG p 0] h λw J=>J=h/\w=.string V.tx:=
 Cn f16 a λd b _=>⟨_,B,_,ld B (A.c 1 _ B),B,B⟩
def Tl {st e k:Nat} (f:G1 Ax st st e k=Ag) {h:Y} {n c:Nat} {a:BD} {xs:AH} (r:Rd h (.slice (I a) n c) k n xs) (h1:xs.all one=Ag) (j:n<=100000000):
 ∃v' J,Bx Ax .append [st,st] [sL h.nx 0 0,.slice (I a) n c] (BN h e [])=I (v',J)/\AA h J/\AS J h.nx e k v' n xs:=by
 have b:=AA.row h e [];have d:=r.ext b;have o:AS (BN h e []) h.nx e k (sL h.nx 0 0) 0 []:=⟨by simp,.inr ⟨h.nx,0,[],B,Ae _,Ae _,by simp,Own.row h e []⟩⟩;have g:=b.nx;obtain⟨v',J,t1,t2,t3,t4⟩:=UN (τ:=Ax) (st:=st) (t2:=st) (e:=e) (k:=k) f o d.bu d.src r.1 h1 g G;rw[IW,Ba] at t2;exact⟨v',J,t1,b.then t3 (λi U=>by have:i=h.nx:=U;omega),t2⟩
def Abr (l:Bo):(Bn l).all one=true:=List.all_eq_true.2 λv a=>by obtain⟨b,_,rfl⟩:=List.mem_map.1 a;rfl
def Aam (l:List BI):(l.flatMap Bt).all one=true:=List.all_eq_true.2 λv a=>by
 obtain⟨n,_,a⟩:=List.mem_flatMap.1 a;have:(Bt n).all one=true:=rfl;exact List.all_eq_true.1 this v a
def c31 (b:Base S L) {h:Y} {v:Aa} {l:Bo} (r:Rd h v 1 l.length (Bn l)) (f:l.length<=100000000):Bk S L 1 31 [v] h λw J=>AA h J/\AS J h.nx 3 1 w l.length (Bn l):=
 Cn f31 b λd i _=>by
  obtain⟨h1,A,c,rfl,j,g,m⟩:=id r;cases A with
  |
   none=>
   have h0:l=[]:=BO (by have:=g B;omega);subst h0;exact⟨_,B,AA.refl _,AS.nil _ _ _ _⟩
  |
   some a=>
   obtain⟨v',J,t1,x,o⟩:=Tl (st:=48) (e:=3) (k:=1) Kq r (Abr l) f;exact⟨_,B,_,_,B,_,_,t1,x,o⟩
def c69 (b:Base S L) {h:Y} {v:Aa} {l:List BI} (r:Rd h v 7 l.length (l.flatMap Bt)) (f:l.length<=100000000):Bk S L 1 69 [v] h λw J=>AA h J/\AS J h.nx 93 7 w l.length (l.flatMap Bt):=
 Cn f69 b λd i _=>by
  obtain⟨h1,A,c,rfl,j,g,m⟩:=id r;cases A with
  |
   none=>
   have h0:l=[]:=BO (by have:=g B;omega);subst h0;exact⟨_,B,AA.refl _,AS.nil _ _ _ _⟩
  |
   some a=>
   obtain⟨v',J,t1,x,o⟩:=Tl (st:=78) (e:=93) (k:=7) Kq r (Aam l) f;exact⟨_,B,_,_,B,_,_,t1,x,o⟩
def c28 (a:Base S L) {h:Y} {p:Nat} {V:Cb} (A:EI h p V) (b:V.Ok):Bk S L 2 28 [AG p 0] h λw J=>AA h J/\AS J h.nx 93 7 w V.ns.length (V.ns.flatMap Bt):=
 Cn f28 a λd f _=>by
  refine⟨_,B,_,ld B (A.c 2 _ B),_,c69 a A.ns (by have:=b.len;omega) d G,?_⟩;rintro w h1 ⟨e,o⟩;exact⟨e,o⟩
def Cb.from_ (V:Cb) (i:Int):Bo:=if 0<=i then V.fs.getD i.toNat [] else[]
def Cb.aY {V:Cb} (a:V.Ok) (i:Int):(V.from_ i).length<=V.ns.length:=by
 unfold Cb.from_;split
 .rw[Ak]
  cases h:V.fs[i.toNat]? with
  |none=>exact Al _
  |some l=>rw[EN,a.at_ _ l h];exact Ao (D7 _ _) (by simp)
 .exact Al _
def c73 (b:Base S L) {h:Y} {p:Nat} {V:Cb} (A:EI h p V) (f:V.Ok) {i:Int}:Bk S L 2 73 [AG p 0,Vi i] h λw J=>AA h J/\AS J h.nx 3 1 w (V.from_ i).length (Bn (V.from_ i)):=
 Cn f73 b λd x _=>by
  have g:V.from_ i=[]->AA h h/\AS h h.nx 3 1 (sN) (V.from_ i).length (Bn (V.from_ i)):=λe=>by rw[e];exact⟨AA.refl h,AS.nil _ _ _ _⟩
  apply Ad<;>intro e
  .exact g (by rw[Cb.from_,Bm (by have:=Fp e;omega)])
  have e:=KK e;refine cl (c11 b A) ?_;rintro _ _ ⟨rfl,rfl⟩;obtain⟨k,rfl⟩:∃k:Nat,i=k:=⟨i.toNat,G⟩;apply Bz<;>intro y
  .exact g (by rw[Cb.from_,Bi G,Ak,CD (by show V.fs.length<=k;omega)];rfl)
  have n:k<V.fs.length:=G;have z:=f.vl;obtain⟨v,j⟩:∃v,V.vs[k]?=I v:=⟨V.vs[k],Ab G⟩;obtain⟨l,m⟩:∃l,V.fs[k]?=I l:=⟨V.fs[k],Ab n⟩;have r:V.from_ (k:Int)=l:=by rw[Cb.from_,Bi G,Ak,show((k:Int)).toNat=k from B,m];rfl
  have s:=Cb.aY f (k:Int);rw[r] at s⊢;have c3:=A.c 3 _ B;obtain⟨a,c,t,_,q⟩:=A.fs.at_ G;rw[t] at c3;refine⟨_,ld B c3,G,_,Dz (ld B (q k v j)) (by show a.off+(k:Int).toNat*1=_;omega),_,c31 b (A.fi k v l j m) (by have:=f.len;omega) d G,?_⟩;rintro w h1 ⟨u,o⟩;exact⟨u,o⟩
def Cb.nd (V:Cb) (i:Int):Option BI:=if 0<=i then V.ns[i.toNat]? else Z
def c74 (x:Base S L) {h:Y} {p:Nat} {V:Cb} (A:EI h p V) {i:Int}:Bk S L 1 74 [AG p 0,Vi i] h λw J=>AA h J/\w=.tuple #[.agg ⟨Bt ((V.nd i).getD DS)⟩,.bool (V.nd i).isSome]:=
 Cn f74 x λd D _=>by
  obtain⟨b,y,a⟩:=(Sep.nil h).al (t:=93) (z:=.agg ⟨Bt DS⟩) Kq;have a:Sep h b [aO h.nx 93 (Bt DS)]:=a;have j:=(A.ext a.e).c 2 _ B;obtain⟨_,E,F,q,_⟩:=(A.ext a.e).ns;rw[q] at j;have r:V.nd i=Z->∃J,BA Ax 93 b h.nx 0 (.agg ⟨Bt DS⟩)=I J/\∃v,Bw Ax 93 J h.nx 0=I v/\AA h J/\C4 #[v,.bool Ah]=.tuple #[.agg ⟨Bt ((V.nd i).getD DS)⟩,.bool (V.nd i).isSome]:=λC=>by
   obtain⟨J,l,m,n⟩:=Own.bD (h:=b) (τ:=Ax) (t:=93) (k:=7) Kq (a.dD (i:=0) B) (i:=0) (vs:=Bt DS) B (by show 0+7<=7;decide) B;exact⟨J,l,_,EQ (k:=7) Kq (show BK J h.nx 0 (Bt DS) from Own.cells m) B,a.e.ah n (Ae _),by rw[C];rfl⟩
  refine⟨_,_,y _,_,B,Ad (λe=>?_) (λe=>?_)⟩
  .exact r (by rw[Cb.nd,Bm (by have:=Fp e;omega)])
  have e:=KK e;obtain⟨k,rfl⟩:∃k:Nat,i=k:=⟨i.toNat,G⟩;refine⟨_,ld B j,Ad (λg=>?_) (λg=>?_)⟩
  .exact r (by rw[Cb.nd,Bi G,CD (by have:=Fp g;show V.ns.length<=k;omega)])
  have g:=KK g;have o:k<V.ns.length:=G;obtain⟨a1,H,s,_,u⟩:=(A.ext a.e).ns.el o;rw[q] at s;cases s;rw[flatK (f:=Bt) (λ_=>rfl) V.ns (Ab o)] at u;obtain⟨J,l,m,n⟩:=Own.bD (h:=b) (τ:=Ax) (t:=93) (k:=7) Kq (a.dD (i:=0) B) (i:=0) (vs:=Bt V.ns[k]) B (by show 0+7<=7;decide) B;refine⟨_,ld B j,G,_,EQ (k:=7) Kq (show BK b a1.block (a1.off+(k:Int).toNat*7) (Bt V.ns[k]) from u) B,J,l,_,EQ (k:=7) Kq (show BK J h.nx 0 (Bt V.ns[k]) from Own.cells m) B,a.e.ah n (Ae _),?_⟩;rw[Cb.nd,Bi G,show((k:Int)).toNat=k from B,Ab o];rfl
def Acz (es:List Ap) (a b:Bd):Int:=match CE Ax 143 (.agg #[.string a,.string b]) es 0 with
 |some (I (_,e))=>(match e.val with|.int _ z=>z|_=>0)
 |_=>0
def Afk {es:List Ap} (d:h.t.get r=I (.map es ck)) (f:∀e∈es,Od e.key/\CZ e.val) (a b:Bd):
 BW Ax 80 (.map (I r)) (.agg #[.string a,.string b]) Ah h=I (Vi (Acz es a b))/\0<=Acz es a b/\Acz es a b<=30000:=by
 have g:Ax.ds.get 80=I (.map 143 3):=by rfl
 have i:Do Ax 5 143 (.agg #[.string a,.string b])=true:=by rfl
 unfold BW Acz;rcases Yx Adw ⟨a,b,B⟩ es 0 f with c|⟨j,e,c,k,_⟩
 .simp only[g,i,D1,d,c,Jq]
  exact⟨B,by decide,by decide⟩
 .obtain⟨x,l,h0,h1⟩:=(f e (AZ k)).2
  simp only[g,i,D1,d,c,l];exact⟨B,h0,h1⟩
def SA:∀{l:GX} {a b c:Int},Np l a b=I c->∃p∈l,p.2=c
 |[],_,_,_,h=>by cases h
 |
  p::l,a,b,c,h=>by
  rw[Np] at h;split at h
  .cases h;exact⟨p,Av,B⟩
  .obtain⟨q,h1,d⟩:=SA h
   exact⟨q,Az _ h1,d⟩
def IR {l:GX} (d:0<=df/\df<=30000) (e:EJ m l) (a b:Int):0<=Mz n df l a b/\Mz n df l a b<=30000:=by
 unfold Mz;split
 .cases f:Np l a b with
  |none=>exact d
  |
   some c=>
   obtain⟨p,h1,g⟩:=SA f;have:=e p h1;show 0<=c/\c<=30000;omega
 .omega
def Cb.cost (V:Cb) (a b:Int):Int:=Mz V.D.mn V.D.df V.D.ml a b
def Cb.aW (V:Cb) (i j:Int):Int:=match V.nd i,V.nd j with
 |some a,I b=>V.cost a.r b.l-Acz V.be a.s b.s
 |_,_=>0
def Cb.aR {V:Cb} (c:V.Ok) (A:EI h p V) (i j:Int):-30000<=V.aW i j/\V.aW i j<=30000:=by
 unfold Cb.aW;split
 .rename_i a b _ _
  obtain⟨_,ck,d⟩:=A.mb;have h1:=(Afk d c.be a.s b.s).2;have e:=IR (n:=V.D.mn) c.df c.ml a.r b.l;unfold Cb.cost;omega
 .omega
def c38 (g:Base S L) {V:Cb} (A:EI h p V) (m:V.Ok) {i j:Int}:Bk S L 5 38 [AG p 0,Vi i,Vi j] h λw J=>AA h J/\w=Vi (V.aW i j):=
 Cn f38 g λd R _=>by
  refine⟨_,c74 g A d G,?_⟩;rintro _ h1 ⟨q,rfl⟩;obtain⟨T,H,W,K,u⟩:=(Sep.nil h1).var (t:=93) (z:=.agg ⟨Bt DS⟩) Kq (v:=.agg ⟨Bt ((V.nd i).getD DS)⟩) B B B;refine⟨_,_,H _,_,K,_,c74 g (A.ext (q.trans u.e)) d G,?_⟩;rintro _ M ⟨N,rfl⟩;obtain⟨X,O,x,P,f⟩:=(u.ext N).var (t:=93) (z:=.agg ⟨Bt DS⟩) Kq (v:=.agg ⟨Bt ((V.nd j).getD DS)⟩) B B B;have k:=q.trans f.e;refine⟨_,_,O _,_,P,_,_,B,?_⟩;cases U:V.nd i with
  |none=>exact⟨k,by rw[Cb.aW,U];rfl⟩
  |
   some a=>
   rw[U] at f;refine⟨_,_,B,?_⟩;cases o:V.nd j with
   |none=>exact⟨k,by rw[Cb.aW,U,o];rfl⟩
   |
    some b=>
    rw[o] at f;have f:Sep h1 x [aO M.nx 93 (Bt b),aO h1.nx 93 (Bt a)]:=f;have y:=A.ext k;have C:=AT k;have E:=A.ext C;have F:=f.ext (AT (AA.refl x));obtain⟨_,ck,hm⟩:=E.mb;have Q:=Afk Jq m.be a.s b.s;have lc:=IR (n:=V.D.mn) m.df m.ml a.r b.l;refine⟨[],Kq,_,ld B (y.c 0 _ B),_,ld B ((f.dD (i:=1) B).cell B),_,ld B ((f.dD (i:=0) B).cell B),_,c75 g y.D.ad d G,?_⟩;rintro _ _ ⟨rfl,rfl⟩;refine⟨B,_,ld B (E.c 4 _ B),_,ld B ((F.dD (i:=1) B).cell B),_,ld B ((F.dD (i:=0) B).cell B),_,_,Cs (CN _) Q.1,⟨by omega,by omega⟩,C,?_⟩;rw[Cb.aW,U,o];rfl
def Cb.enter (V:Cb) (r:Int) (j:Int):Int:=match V.nd j with|some n=>V.cost r n.l|none=>0
def Cb.leave (V:Cb) (i:Int) (l:Int):Int:=match V.nd i with|some n=>V.cost n.r l|none=>0
def Cb.bm {V:Cb} (a:V.Ok) (r j:Int):0<=V.enter r j/\V.enter r j<=30000:=by
 unfold Cb.enter;split
 .exact IR a.df a.ml _ _
 .omega
def Cb.bV {V:Cb} (a:V.Ok) (r j:Int):0<=V.leave r j/\V.leave r j<=30000:=by
 unfold Cb.leave;split
 .exact IR a.df a.ml _ _
 .omega
def c35 (a:Base S L) {V:Cb} (A:EI h p V) {r j:Int}:Bk S L 5 35 [AG p 0,Vi r,Vi j] h λw J=>AA h J/\w=Vi (V.enter r j):=
 Cn f35 a λd s _=>by
  refine⟨_,c74 a A d G,?_⟩;rintro _ h1 ⟨m,rfl⟩;obtain⟨u,n,o,q,f⟩:=(Sep.nil h1).var (t:=93) (z:=.agg ⟨Bt DS⟩) Kq (v:=.agg ⟨Bt ((V.nd j).getD DS)⟩) B B B;have g:=m.trans f.e;refine⟨_,_,n _,_,q,?_⟩;cases k:V.nd j with
  |none=>exact⟨g,by rw[Cb.enter,k];rfl⟩
  |
   some b=>
   rw[k] at f;have l:=A.ext g;refine⟨[],Kq,_,ld B (l.c 0 _ B),_,ld B (((f:Sep h1 o [aO h1.nx 93 (Bt b)]).dD (i:=0) B).cell B),_,c75 a l.D.ad d G,?_⟩;rintro _ _ ⟨rfl,rfl⟩;exact⟨B,AT g,by rw[Cb.enter,k];rfl⟩
def c70 (a:Base S L) {V:Cb} (A:EI h p V) {i l:Int}:Bk S L 5 70 [AG p 0,Vi i,Vi l] h λw J=>AA h J/\w=Vi (V.leave i l):=
 Cn f70 a λd r _=>by
  refine⟨_,c74 a A d G,?_⟩;rintro _ h1 ⟨m,rfl⟩;obtain⟨s,n,o,q,f⟩:=(Sep.nil h1).var (t:=93) (z:=.agg ⟨Bt DS⟩) Kq (v:=.agg ⟨Bt ((V.nd i).getD DS)⟩) B B B;have g:=m.trans f.e;refine⟨_,_,n _,_,q,?_⟩;cases j:V.nd i with
  |none=>exact⟨g,by rw[Cb.leave,j];rfl⟩
  |
   some b=>
   rw[j] at f;have k:=A.ext g;refine⟨[],Kq,_,ld B (k.c 0 _ B),_,ld B (((f:Sep h1 o [aO h1.nx 93 (Bt b)]).dD (i:=0) B).cell B),_,c75 a k.D.ad d G,?_⟩;rintro _ _ ⟨rfl,rfl⟩;exact⟨B,AT g,by rw[Cb.leave,j];rfl⟩
section
variable{α:Type} {le:α->α->Prop}
def swp (l:List α) (i j:Nat) (x y:α):List α:=(l.set i y).set j x
def swp_get {l:List α} {x y:α} (U:l[i]?=I x) (c:l[j]?=I y) (k:Nat):(swp l i j x y)[k]?=if k=j then I x else if k=i then I y else l[k]?:=by
 have h1:=(List.getElem?_eq_some_iff.1 U).1;have d:=(List.getElem?_eq_some_iff.1 c).1;unfold swp;rw[Iu,B4,Iu];by_cases a:k=j
 .subst a;simp[d]
 .rw[Bm Jq,Bm a]
  by_cases b:k=i
  .subst b;simp[h1]
  .rw[Bm Jq,Bm b]
def Y4 (l:List α) (i j:Nat) (x y:α):(swp l i j x y).length=l.length:=by simp[swp]
def NM {l:List α} {x y:α} (U:l[i]?=I x) (a:l[j]?=I y):(swp l i j x y).Perm l:=by
 obtain⟨h1,b⟩:=List.getElem?_eq_some_iff.1 U;obtain⟨c,d⟩:=List.getElem?_eq_some_iff.1 a;have:=Array.swap_perm h1 c;rw[Array.perm_iff_toList_perm,Array.swap_def] at this;simpa[swp,b,d] using this
def Em (le:α->α->Prop) (m:Nat) (l:List α):Prop:=∀(k:Nat) x p,0<k->k<m->l[k]?=I x->l[(k-1)/2]?=I p->le p x
def UpH (le:α->α->Prop) (l:List α) (j:Nat):Prop:=(∀(k:Nat) x p,0<k->k≠j->l[k]?=I x->l[(k-1)/2]?=I p->le p x)/\
 ∀(k:Nat) x p,0<j->0<k->(k-1)/2=j->l[k]?=I x->l[(j-1)/2]?=I p->le p x
def UpH.start {l:List α} (h:Em le l.length l) (x:α):UpH le (l++[x]) l.length:=by
 refine⟨λk y p h0 c h1 a=>?_,λk y p h0 h1 c a=>?_⟩
 .have b:=(List.getElem?_eq_some_iff.1 h1).1
  rw[Aj,Br] at b;rw[AB G] at h1 a;exact h k y p h0 G h1 a
 .have b:=(List.getElem?_eq_some_iff.1 a).1
  rw[Aj,Br] at b;omega
def UpH.stop {l:List α} (h:UpH le l j) (b:∀x p,0<j->l[j]?=I x->l[(j-1)/2]?=I p->le p x):Em le l.length l:=λk x p h0 _ h1 a=>by
 by_cases e:k=j
 .subst e;exact b x p h0 h1 a
 .exact h.1 k x p h0 e h1 a
def UpH.step (g:∀{a b c},le a b->le b c->le a c) {l:List α} (h:UpH le l j) {x y:α} (h0:0<j) (U:l[(j-1)/2]?=I x) (i:l[j]?=I y) (m:le y x):UpH le (swp l ((j-1)/2) j x y) ((j-1)/2):=by
 refine⟨λk u p e f h1 d=>?_,λk u p o e f h1 d=>?_⟩
 .rw[swp_get U i] at h1 d
  by_cases a:k=j
  .subst a
   rw[Bi B] at h1;rw[Bm G,Bi B] at d;cases h1;cases d;exact m
  .rw[Bm a,Bm f] at h1
   by_cases b:(k-1)/2=j
   .rw[Bi b] at d;cases d
    exact h.2 k u x h0 e b h1 U
   .rw[Bm b] at d
    by_cases c:(k-1)/2=(j-1)/2
    .rw[Bi c] at d;cases d
     exact g m (h.1 k u x e a h1 (by rw[c];exact U))
    .rw[Bm c] at d
     exact h.1 k u p e a h1 d
 .rw[swp_get U i] at h1 d
  rw[Bm G,Bm G] at d;have n:=h.1 ((j-1)/2) x p o G U d;by_cases a:k=j
  .subst a
   rw[Bi B] at h1;cases h1;exact n
  .rw[Bm a,Bm G] at h1
   exact g n (h.1 k u x e a h1 (by rw[f];exact U))
def KL (le:α->α->Prop) (m:Nat) (l:List α) (i:Nat):Prop:=(∀(k:Nat) x p,0<k->k<m->(k-1)/2≠i->l[k]?=I x->l[(k-1)/2]?=I p->le p x)/\
 ∀(k:Nat) x p,0<i->0<k->k<m->(k-1)/2=i->l[k]?=I x->l[(i-1)/2]?=I p->le p x
def KL.start {l:List α} (h:Em le (n+1) l) {x y:α} (U:l[0]?=I x) (b:l[n]?=I y):KL le n (swp l 0 n x y) 0:=by
 refine⟨λk u p c d e h1 a=>?_,λk u p f=>G⟩;rw[swp_get U b,Bm G,Bm G] at h1 a;exact h k u p c G h1 a
def KL.stop {l:List α} (h:KL le m l i) (c:∀(k:Nat) x p,0<k->k<m->(k-1)/2=i->l[k]?=I x->l[i]?=I p->le p x):Em le m l:=λk x p a b h1 d=>by
 by_cases e:(k-1)/2=i
 .exact c k x p a b e h1 Jq
 .exact h.1 k x p a b e h1 d
def KL.step (v:∀{a b c},le a b->le b c->le a c) {l:List α} (h:KL le m l i) {x y:α} (q:0<j) (r:j<m) (g:(j-1)/2=i) (U:l[i]?=I x) (n:l[j]?=I y) (s:le y x)
 (t:∀(k:Nat) u,0<k->k<m->(k-1)/2=i->l[k]?=I u->le y u):KL le m (swp l i j x y) j:=by
 refine⟨λk u p e f o h1 d=>?_,λk u p w e f o h1 d=>?_⟩
 .rw[swp_get U n] at h1 d
  rw[Bm o] at d;by_cases a:k=j
  .subst a
   rw[Bi B] at h1;rw[Bi g] at d;cases h1;cases d;exact s
  .rw[Bm a] at h1
   by_cases b:(k-1)/2=i
   .rw[Bi b] at d;cases d
    rw[Bm G] at h1;exact t k u e f b h1
   .rw[Bm b] at d
    by_cases c:k=i
    .subst c
     rw[Bi B] at h1;cases h1;exact h.2 j y p e q r g n d
    .rw[Bm c] at h1
     exact h.1 k u p e f b h1 d
 .rw[swp_get U n] at h1 d
  rw[Bm G,Bi g] at d;rw[Bm G,Bm G] at h1;cases d;exact h.1 k u y e f G h1 Jq
def Em.root (g:∀a,le a a) (i:∀{a b c},le a b->le b c->le a c) {l:List α} (h:Em le m l) {r:α} (j:l[0]?=I r):∀(k:Nat) x,k<m->l[k]?=I x->le r x:=λk=>by
 induction k using Nat.strongRecOn with
 |
  ind k n=>
  intro x o d;by_cases e:k=0
  .subst e;rw[j] at d;cases d;exact g _
  .have p:=(List.getElem?_eq_some_iff.1 d).1
   have f:l[(k-1)/2]?=I l[(k-1)/2]:=Ab G;exact i (n ((k-1)/2) G _ G f) (h k x _ G o d f)
end
structure Ed where
 ns:Bo
 c:Int
 a:Int
 tx:Bd
 dn:Bool
def FE:Bo->Bo->Int
 |[],[]=>0
 |[],_::_=>-1
 |_::_,[]=>1
 |a::l,b::r=>if Dx a b=0 then FE l r else Dx a b
def HC (x y:Ed):Bool:=if x.a=y.a then(if FE x.ns y.ns=0 then !x.dn&&y.dn else decide (FE x.ns y.ns<0)) else decide (x.a<y.a)
def Tu (x y:Ed):Prop:=HC y x=Ah
def Ahb (a b:Int):Dx a b=-Dx b a:=by unfold Dx;split<;>split<;>(try split)<;>omega
def QW:∀a b,FE a b=-FE b a
 |[],[]=>rfl
 |[],_::_=>rfl
 |_::_,[]=>rfl
 |
  a::l,b::r=>by
  rw[FE,FE,QW l r];have:=Ahb a b;split<;>split<;>omega
def OO:∀a,FE a a=0
 |[]=>rfl
 |a::l=>by rw[FE,Bi (by unfold Dx;split<;>omega),OO l]
def Uf:∀{a b},FE a b=0->a=b
 |[],[],_=>rfl
 |[],_::_,h=>by cases h
 |_::_,[],h=>by cases h
 |
  a::l,b::r,h=>by
  rw[FE] at h;split at h
  .rename_i h1
   have h1:=Mu h1;rw[Uf h,show a=b by omega]
  .omega
def YS:∀{a b c},FE a b<0->FE b c<0->FE a c<0
 |[],_,[],h1,d=>by rename_i b;cases b<;>simp[FE] at h1 d
 |[],_,_::_,_,_=>by simp[FE]
 |_::_,[],_,h1,_=>by simp[FE] at h1
 |_::_,_::_,[],_,d=>by simp[FE] at d
 |
  a::l,b::r,c::t,h1,d=>by
  rw[FE] at h1 d⊢;have f:∀x y:Int,Dx x y<0↔x<y:=λx y=>by unfold Dx;split<;>(try split)<;>omega
  simp[(λx y=>by unfold Dx;split<;>(try split)<;>omega:∀x y:Int,Dx x y=0↔x=y)] at h1 d⊢
  split at h1<;>split at d
  .rw[Bi G];exact YS h1 d
  .rw[f] at d;rw[Bm G,f];omega
  .rw[f] at h1;rw[Bm G,f];omega
  .rw[f] at h1 d;rw[Bm G,f];omega
def VQ:∀{p y:Bo} (z:Bo),¬p<+:y->FE (p++z) y=FE p y
 |[],_,_,h=>Cf Jq h
 |_::_,[],_,_=>rfl
 |
  a::p,b::y,z,h=>by
  rw[KB,FE,FE];split
  .rename_i h1
   have h1:=Mu h1;refine VQ z λc=>h ?_;rw[List.cons_prefix_cons];exact⟨G,c⟩
  .rfl
def Ka {x y:Ed}:Tu x y↔x.a<y.a\/x.a=y.a/\(FE x.ns y.ns<0\/x.ns=y.ns/\(x.dn=Ag->y.dn=Ag)):=by
 unfold Tu HC;have d:=QW x.ns y.ns;split
 .rename_i h1
  split
  .rename_i b
   have c:=Uf b;rw[←c,OO];simp[h1];cases x.dn<;>cases y.dn<;>simp
  .rename_i b
   have c:¬x.ns=y.ns:=λe=>b (by rw[e];exact OO _);simp[h1,c,false_and,or_false,true_and,decide_eq_false_iff_not];omega
 .rename_i h1
  simp[decide_eq_false_iff_not];omega
def Ij (x:Ed):Tu x x:=Ka.2 Jq
def Agh {x y z:Ed} (h1:Tu x y) (b:Tu y z):Tu x z:=by
 rw[Ka] at*;rcases h1 with h1|⟨h1,c⟩
 .rcases b with b|⟨b,_⟩<;>exact .inl G
 .rcases b with b|⟨b,a⟩
  .exact .inl G
  .refine .inr ⟨G,?_⟩
   rcases c with c|⟨c,d⟩
   .rcases a with a|⟨a,_⟩
    .exact .inl (YS c a)
    .exact .inl Jq
   .rw[c]
    rcases a with a|⟨a,e⟩
    .exact .inl a
    .exact .inr Jq
def PZ {x y:Ed} (h:HC x y=Ag):Tu x y:=by
 rw[Ka];unfold HC at h;split at h
 .rename_i h1
  split at h
  .rename_i a
   refine .inr ⟨h1,.inr ⟨Uf a,λb=>?_⟩⟩;rw[b] at h;cases h
  .exact .inr Jq
 .exact .inl (Fp h)
def Zw {p x y:Ed} (h:Tu p y) (b:¬p.ns<+:y.ns) (c:p.ns<+:x.ns) (e:x.a=p.a):Tu x y:=by
 rw[Ka] at*;obtain⟨z,d⟩:=c;rcases h with h|⟨h,h1|⟨h1,_⟩⟩
 .exact .inl G
 .refine .inr ⟨G,.inl ?_⟩
  rw[←d,VQ z b];exact h1
 .exact Cf Jq b
def Cb.nN (V:Cb) (j:Nat):BI:=V.ns.getD j DS
structure A6 where
 V:Cb
 F:Int
 T:Int
 lf:Int
def A6.nN (s:A6) (j:Nat):BI:=s.V.nN j
def A6.kids (s:A6) (p:Int):Bo:=(s.V.from_ p).filter λj=>decide ((s.nN j).t<=s.T)
def A6.via (s:A6) (i j:Nat):Int:=s.V.aW i j+(s.nN j).c
def A6.ax (s:A6) (f:Nat->Option Int) (i:Nat) (o:Option Int) (j:Nat):Option Int:=match f j with
 |none=>o
 |
  some m=>match o with
  |none=>I (s.via i j+m)
  |some old=>if s.via i j+m<old then I (s.via i j+m) else I old
def A6.R (s:A6):Nat->Nat->Option Int
 |0,_=>Z
 |t+1,i=>if i<s.V.ns.length/\(s.nN i).t=s.T-t/\s.F<=(s.nN i).f then(if t=0 then I (s.V.leave i s.lf) else(s.kids (s.T-t)).foldl (s.ax (s.R t) i) Z) else s.R t i
def A6.rest (s:A6):Nat->Option Int:=s.R (s.T-s.F).toNat
def A6.fold {s:A6} {f:Nat->Option Int} {i:Nat}:∀(l:Bo) (o:Option Int),(l.foldl (s.ax f i) o=Z->o=Z/\∀j∈l,f j=Z)/\
 ∀r,l.foldl (s.ax f i) o=I r->(∀x,o=I x->r<=x)/\(∀j∈l,∀m,f j=I m->r<=s.via i j+m)/\(o=I r\/∃j∈l,∃m,f j=I m/\r=s.via i j+m)
 |[],o=>⟨λh=>⟨h,λ_ h=>by cases h⟩,λr h=>⟨λx q=>by rw[List.foldl_nil,q] at h;cases h;omega,(λ_ h=>by cases h),.inl h⟩⟩
 |
  j::l,o=>by
  obtain⟨h1,t⟩:=A6.fold (s:=s) (f:=f) (i:=i) l (s.ax f i o j);rw[F7];have st:s.ax f i o j=Z->o=Z/\f j=none:=by
   unfold A6.ax;split
   .exact λh=>⟨h,by assumption⟩
   .split
    .exact λh=>by cases h
    .split<;>exact λh=>by cases h
  refine⟨λh=>?_,λr u=>?_⟩
  .obtain⟨a,b⟩:=h1 h
   obtain⟨c,d⟩:=st a;exact⟨c,λk g=>(List.mem_cons.1 g).elim (λe=>e▸d) (b k)⟩
  .obtain⟨a,b,c⟩:=t r u
   unfold A6.ax at a c;cases p:f j with
   |
    none=>
    simp only[p] at a c;refine⟨a,λk g m n=>?_,c.imp id λ⟨k,g,x⟩=>⟨k,Az _ g,x⟩⟩;rcases List.mem_cons.1 g with rfl|g
    .rw[p] at n;cases n
    .exact b k g m n
   |
    some m=>
    simp only[p] at a c;cases o with
    |
     none=>
     simp only at a c;refine⟨(λx q=>by cases q),λk g m' n=>?_,?_⟩
     .rcases List.mem_cons.1 g with rfl|g
      .rw[p] at n;cases n;exact a _ B
      .exact b k g m' n
     .rcases c with c|⟨k,g,x⟩
      .cases c;exact .inr ⟨j,Av,m,p,B⟩
      .exact .inr ⟨k,Az _ g,x⟩
    |
     some old=>
     simp only at a c;have e:∃z,(if s.via i j+m<old then I (s.via i j+m) else I old)=I z/\z<=old/\z<=s.via i j+m/\(z=old\/z=s.via i j+m):=by
      split
      .exact⟨_,B,G,G,.inr B⟩
      .exact⟨_,B,G,G,.inl B⟩
     obtain⟨z,v,y,A,w⟩:=e;rw[v] at a c;have a:=a z B;refine⟨(λx q=>by cases q;omega),λk g m' n=>?_,?_⟩
     .rcases List.mem_cons.1 g with rfl|g
      .rw[p] at n;cases n;omega
      .exact b k g m' n
     .rcases c with c|⟨k,g,x⟩
      .cases c
       rcases w with rfl|rfl
       .exact .inl B
       .exact .inr ⟨j,Av,m,p,B⟩
      .exact .inr ⟨k,Az _ g,x⟩
def A6.mem {s:A6} {j:Nat} (h:j<s.V.ns.length):s.nN j∈s.V.ns:=by
 unfold A6.nN Cb.nN;rw[Ak,Ab h];exact Bu h
def A6.bJ {s:A6} (b:s.V.Ok) {p:Int} {j:Nat} (h:j∈s.V.from_ p):j<s.V.ns.length/\(s.nN j).f=p:=by
 unfold Cb.from_ at h;split at h
 .rw[Ak] at h
  cases a:s.V.fs[p.toNat]? with
  |none=>rw[a] at h;cases h
  |
   some l=>
   rw[a,EN,b.at_ _ l a,Api,List.mem_range] at h;refine⟨h.1,?_⟩;have:=Fp h.2;unfold A6.nN Cb.nN;omega
 .cases h
def A6.cj {s:A6} (a:s.V.Ok) {p:Int} {j:Nat}:j∈s.kids p->j<s.V.ns.length/\(s.nN j).f=p/\p<(s.nN j).t/\(s.nN j).t<=s.T:=λh=>by
 obtain⟨h1,c⟩:=List.mem_filter.1 h;obtain⟨b,d⟩:=A6.bJ a h1;have:=(a.inv.ok _ (A6.mem b)).2.1.1;exact⟨b,d,G,Fp c⟩
def A6.dz {s:A6} {i:Nat} {t:Nat} (h:(s.nN i).t=s.T-t):∀d,s.R (t+1+d) i=s.R (t+1) i
 |0=>rfl
 |
  d+1=>by
  rw[show t+1+(d+1)=(t+1+d)+1 from B,A6.R,Bm G];exact A6.dz h d
def A6.cl {s:A6} {i:Nat} (h:i<s.V.ns.length/\(s.nN i).t=s.T/\s.F<=(s.nN i).f) (a:s.F<s.T):s.rest i=I (s.V.leave i s.lf):=by
 unfold A6.rest;rw[show(s.T-s.F).toNat=0+1+((s.T-s.F).toNat-1) by omega,A6.dz (t:=0) G,A6.R,Bi G,Bi B]
def A6.dx {s:A6} (g:s.V.Ok) {i:Nat} (h:i<s.V.ns.length/\(s.nN i).t<s.T/\s.F<=(s.nN i).f) (q:s.F<(s.nN i).t):s.rest i=(s.kids (s.nN i).t).foldl (s.ax s.rest i) none:=by
 obtain⟨t,b⟩:∃t:Nat,(s.nN i).t=s.T-t:=⟨(s.T-(s.nN i).t).toNat,G⟩;have e:s.rest i=(s.kids (s.T-t)).foldl (s.ax (s.R t) i) none:=by
  unfold A6.rest;rw[show(s.T-s.F).toNat=t+1+((s.T-s.F).toNat-t-1) by omega,A6.dz b,A6.R,Bi G,Bm G]
 rw[e,b];have:∀(l:Bo) o,(∀j∈l,s.R t j=s.rest j)->l.foldl (s.ax (s.R t) i) o=l.foldl (s.ax s.rest i) o:=λl=>by
  induction l with
  |nil=>exact λ_ _=>rfl
  |
   cons j l m=>
   intro o c;rw[F7,F7,m _ λk n=>c k (Az _ n)];unfold A6.ax;rw[c j Av]
 refine this _ _ λj p=>?_;obtain⟨_,_,r,u⟩:=A6.cj g p;obtain⟨a,d⟩:∃a:Nat,(s.nN j).t=s.T-a:=⟨(s.T-(s.nN j).t).toNat,G⟩;unfold A6.rest;rw[show t=a+1+(t-a-1) by omega,A6.dz d,show(s.T-s.F).toNat=a+1+((s.T-s.F).toNat-a-1) by omega,A6.dz d]
def A6.exact {s:A6} (b:s.V.Ok) {i:Nat} {r:Int} (h:i<s.V.ns.length/\(s.nN i).t<s.T/\s.F<=(s.nN i).f) (c:s.F<(s.nN i).t) (a:s.rest i=I r):
 (∀j∈s.kids (s.nN i).t,∀m,s.rest j=I m->r<=s.via i j+m)/\∃j∈s.kids (s.nN i).t,∃m,s.rest j=I m/\r=s.via i j+m:=by
 rw[A6.dx b h c] at a;obtain⟨_,h1,d⟩:=(A6.fold _ _).2 r a;exact⟨h1,d.elim (λh=>by cases h) id⟩
def A6.one {s:A6} (b:s.V.Ok) (i:s.T<=s.V.fs.length) {p:Int} (h0:0<=p) (h1:p<s.T):∃j∈s.kids p,(s.nN j).t=p+1:=by
 obtain⟨q,rfl⟩:∃q:Nat,p=q:=⟨p.toNat,G⟩;obtain⟨n,g,h1,h⟩:=b.inv.bq q G;obtain⟨j,c,e⟩:=N2 g;have a:s.nN j=n:=by unfold A6.nN Cb.nN;rw[Ak,Ab c,e];rfl
 refine⟨j,List.mem_filter.2 ⟨?_,decide_eq_true (by rw[a];omega)⟩,by rw[a,h]⟩;have d:q<s.V.fs.length:=G;unfold Cb.from_;rw[Bi G,Ak,show((q:Int)).toNat=q from B,Ab d,EN,b.at_ _ _ (Ab d),Api,List.mem_range];exact⟨c,decide_eq_true (by show(s.nN j).f=_;rw[a,h1])⟩
def A6.dm {s:A6} (a:s.V.Ok) (g:0<=s.F) (b:s.T<=s.V.fs.length):∀(d:Nat) (p:Int),p=s.T-1-d->s.F<=p->∃j∈s.kids p,∃m,s.rest j=I m:=λd p l n=>by
 obtain⟨j,c,h⟩:=A6.one a b (p:=p) G G;obtain⟨h1,o,q,t⟩:=A6.cj a c;refine⟨j,c,?_⟩;cases d with
 |zero=>exact⟨_,A6.cl ⟨h1,G,G⟩ G⟩
 |
  succ d=>
  cases e:s.rest j with
  |some r=>exact⟨r,B⟩
  |
   none=>
   obtain⟨k,i,m,f⟩:=A6.dm a g b d (p+1) G G;rw[A6.dx a ⟨h1,G,G⟩ G] at e;have:=((A6.fold _ _).1 e).2 k (by rw[h];exact i);rw[this] at f;cases f
def A6.a9 {s:A6} (b:s.V.Ok) {h:Y} {p:Nat} (A:EI h p s.V):∀(t i:Nat) r,s.R t i=I r->-(70000*(t:Int))<=r/\r<=70000*(t:Int)
 |0,_,_,a=>by cases a
 |
  t+1,i,r,a=>by
  rw[A6.R] at a;split at a
  .split at a
   .cases a
    have:=Cb.bV b i s.lf;omega
   .rename_i h0
    obtain⟨_,_,c⟩:=(A6.fold _ _).2 r a;rcases c with c|⟨j,d,m,e,rfl⟩
    .cases c
    have g:=A6.a9 b A t j m e;have k:=Cb.aR b A i j;obtain⟨f,_⟩:=A6.cj b d;have l:=(b.inv.ok _ (A6.mem f)).2.2.1;unfold A6.via;omega
  .have:=A6.a9 b A t i r a
   omega
end
section
variable {h J h0 h1 H:Y} {v fv nv pv cv ev lv u v':Aa} {xs args vs ys:AH} {n b N i k e r j x m c q d a p t2 st sb mo ck lp rm b0 sz off:Nat} {t:Ai} {f:Au} {fn:BC} {s:Bd} {bs:Bl} {ws:Bo} {Q:Aa->Y->Prop} {A:Option BD} {z df day:Int} {ss:BZ} {τ:Bb}
def _root_.ByteArray.bF (a b:Bd):(a++b).data.toList=a.data.toList++b.data.toList:=by simp
def px (a b:Bd):Prop:=a.data.toList<+:b.data.toList
def Ed.lj (x:Ed):Nat:=x.ns.getLastD 0
def Oa:List Ed->Option (Ed×List Ed)
 |[]=>Z
 |
  x::l=>match Oa l with
  |none=>I (x,[])
  |some (m,r)=>if HC m x=Ag then I (m,x::r) else I (x,l)
def JK:∀{Q:List Ed},Q≠[]->∃p q,Oa Q=I (p,q)
 |[],h=>Cf B h
 |
  x::l,_=>by
  rw[Oa];split
  .exact⟨_,_,B⟩
  .split<;>exact⟨_,_,B⟩
def HN:∀{Q:List Ed} {p:Ed} {q:List Ed},Oa Q=I (p,q)->Q.Perm (p::q)/\∀y∈Q,Tu p y
 |[],_,_,h=>by cases h
 |
  x::l,p,q,h=>by
  rw[Oa] at h;cases c:Oa l with
  |
   none=>
   rw[c] at h;cases h;have g:l=[]:=by
    cases l with
    |nil=>rfl
    |cons a l=>obtain⟨_,_,e⟩:=JK (Q:=a::l) (by simp);rw[c] at e;cases e
   subst g;exact⟨List.Perm.refl _,λy b=>by rw[List.mem_singleton.1 b];exact Ij _⟩
  |
   some i=>
   obtain⟨m,r⟩:=i;obtain⟨h1,f⟩:=HN c;rw[c] at h;simp only at h;split at h
   .rename_i d
    cases h;refine⟨(h1.cons x).trans (List.Perm.swap _ _ _),λy b=>?_⟩;rcases List.mem_cons.1 b with rfl|b
    .exact PZ d
    .exact f y b
   .rename_i d
    cases h;refine⟨List.Perm.refl _,λy b=>?_⟩;rcases List.mem_cons.1 b with rfl|b
    .exact Ij _
    .exact Agh (show Tu x m by unfold Tu;simpa using d) (f y b)
def Ed.apart (x y:Ed):Prop:=¬x.ns<+:y.ns/\¬y.ns<+:x.ns
def Ed.apart.symm {x y:Ed} (h:x.apart y):y.apart x:=⟨h.2,h.1⟩
def M4 {Q q:List Ed} {p h:Ed} (b:Q.Perm (p::q)) (g:Q.Pairwise Ed.apart) (i:∀y∈Q,Tu p y) (c:h∈Q) (j:∀y∈Q,Tu h y):h=p:=by
 have k:=(b.pairwise_iff Ed.apart.symm).1 g;rcases List.mem_cons.1 (b.mem_iff.1 c) with e|l
 .exact e
 .have m:p∈Q:=b.mem_iff.2 Av
  have h1:=Ka.1 (i h c);have a:=Ka.1 (j p m);have n:=QW p.ns h.ns;have e:p.ns=h.ns:=by
   rcases h1 with h1|⟨h1,d|⟨d,_⟩⟩
   .rcases a with a|⟨a,_⟩<;>omega
   .rcases a with a|⟨a,f|⟨f,_⟩⟩
    .omega
    .omega
    .exact f.symm
   .exact d
  exact Cf (e▸Eb _) ((List.pairwise_cons.1 k).1 h l).1
namespace A6
def AGz (s:A6) (p:Ed) (j:Nat) (m:Int):Ed:=⟨p.ns++[j],s.via p.lj j+p.c,s.via p.lj j+p.c+m,p.tx++(s.nN j).s,Ah⟩
def Aou (s:A6) (p:Ed):List Ed:=(s.kids (s.nN p.lj).t).filterMap λj=>(s.rest j).map (s.AGz p j)
def Axk (s:A6) (r:Int) (j:Nat) (m:Int):Ed:=⟨[j],s.V.enter r j+(s.nN j).c,s.V.enter r j+(s.nN j).c+m,(s.nN j).s,Ah⟩
def AGu (s:A6) (r:Int):List Ed:=(s.kids s.F).filterMap λj=>(s.rest j).map (s.Axk r j)
structure ADf (s:A6) (x:Ed):Prop where
 ne:x.ns≠[]
 lt:∀j∈x.ns,j<s.V.ns.length
 j:x.lj<s.V.ns.length/\s.F<=(s.nN x.lj).f/\s.F<(s.nN x.lj).t/\(s.nN x.lj).t<=s.T
 m:∃m,s.rest x.lj=I m/\x.a=x.c+m
 dn:x.dn=Ag->(s.nN x.lj).t=s.T
 len:(x.ns.length:Int)<=(s.nN x.lj).t-s.F
 tx:x.tx.size<=256*x.ns.length
 c:-(70000*(x.ns.length:Int))<=x.c/\x.c<=70000*(x.ns.length:Int)
def Cw (p:Ed):Int×Bd:=(if p.dn=Ag then-1 else(p.lj:Int),p.tx)
open Classical in
def next (s:A6) (x:List Ed×List (Int×Bd)×List Ed):List Ed×List (Int×Bd)×List Ed:=match Oa x.1 with
 |none=>x
 |
  some (p,q)=>if Cw p∈x.2.1 then(q,x.2.1,x.2.2) else
  if p.dn=Ag then(q,Cw p::x.2.1,x.2.2++[p]) else
  if(s.nN p.lj).t=s.T then(⟨p.ns,p.c,p.a,p.tx,Ag⟩::q,Cw p::x.2.1,x.2.2) else(s.Aou p++q,Cw p::x.2.1,x.2.2)
def W (s:A6) (n:Nat):Nat:=if(s.nN n).t=s.T then 1 else(s.kids (s.nN n).t).length
def Wk (s:A6) (k:Int×Bd):Nat:=if k.1<0 then 0 else s.W k.1.toNat
def AHb (s:A6) (Q:List Ed) (a:List Ed) (k:Int×Bd):Prop:=
 (∃o∈a,px k.2 o.tx/\(k.1<0->k.2=o.tx))\/(0<=k.1/\∃h∈Q,(∀y∈Q,Tu h y)/\px k.2 h.tx/\(h.dn=Ag\/(s.nN k.1.toNat).t<(s.nN h.lj).t))
structure Inv (s:A6) (n:Nat) (Q:List Ed) (K:List (Int×Bd)) (out:List Ed):Prop where
 ok:∀x∈Q,s.ADf x
 oo:∀o∈out,s.ADf o
 ac:Q.Pairwise Ed.apart
 nd:K.Nodup
 bq:∀k∈K,s.AHb Q out k
 kn:∀k∈K,k.1<0\/k.1.toNat<s.V.ns.length
 ne:K=[]->Q≠[]
 cL:Q.length+n<=s.V.ns.length+(K.map s.Wk).sum
def Arv {s:A6} (d:s.V.Ok) {h:Y} {b:Nat} (A:EI h b s.V) {p:Ed} (a:s.ADf p) {j:Nat} (k:j∈s.kids (s.nN p.lj).t) {m:Int} (l:s.rest j=I m):s.ADf (s.AGz p j m):=by
 obtain⟨e,o,q,r⟩:=cj d k;have f:(s.AGz p j m).lj=j:=by show(p.ns++[j]).getLastD 0=j;exact Acf ..
 have g:(s.AGz p j m).ns.length=p.ns.length+1:=by show(p.ns++[j]).length=_;simp
 have h1:=a.j;have v:=a.len;have w:=a.c;refine⟨by show p.ns++[j]≠[];simp,λi U=>?_,by rw[f];omega,⟨m,by rw[f];exact l,B⟩,(λh=>by cases h),by rw[f,g];omega,?_,?_⟩
 .rcases List.mem_append.1 U with U|U
  .exact a.lt i U
  .rw[List.mem_singleton.1 U];exact e
 .have x:=a.tx
  have y:=(d.inv.ok _ (mem e)).2.2.2;rw[g];show(p.tx++(s.nN j).s).size<=_;rw[KF];omega
 .have z:=Cb.aR d A p.lj j
  have C:=(d.inv.ok _ (mem e)).2.2.1;rw[g];show _<=s.V.aW p.lj j+(s.nN j).c+p.c/\s.V.aW p.lj j+(s.nN j).c+p.c<=_;omega
end A6
end
section
variable {h J h0 h1 H:Y} {v fv nv pv cv ev lv u v':Aa} {xs args vs ys:AH} {n b N i k e r j x m c q d a p t2 st sb mo ck lp rm b0 sz off:Nat} {t:Ai} {f:Au} {fn:BC} {s:Bd} {bs:Bl} {ws:Bo} {W:Nat->Prop} {Q:Aa->Y->Prop} {A:Option BD} {z df day:Int} {ss:BZ} {τ:Bb}
def Anc {a b c:Bd} (h1:px a b) (d:px b c):px a c:=List.IsPrefix.trans h1 d
def Y8 (a:Bd):px a a:=Eb _
def Ame (f:Int×Bd->Nat) (k:Int×Bd) (K:List (Int×Bd)):((k::K).map f).sum=f k+(K.map f).sum:=by simp
namespace A6
def OT {s:A6} {p x:Ed}:x∈s.Aou p->∃j∈s.kids (s.nN p.lj).t,∃m,s.rest j=I m/\x=s.AGz p j m:=λh=>by
 obtain⟨j,b,e⟩:=List.mem_filterMap.1 h;cases a:s.rest j with
 |none=>rw[a] at e;cases e
 |some m=>rw[a] at e;cases e;exact⟨j,b,m,a,B⟩
def Akv (s:A6) (p:Ed) (j:Nat) (m:Int):(s.AGz p j m).lj=j:=by
 show(p.ns++[j]).getLastD 0=j;exact Acf ..
def Rr {s:A6} (a:s.V.Ok) (p:Int):(s.kids p).Nodup:=by
 refine List.Pairwise.filter _ ?_;unfold Cb.from_;split
 .rw[Ak]
  cases b:s.V.fs[p.toNat]? with
  |none=>exact Jg
  |some l=>rw[EN,a.at_ _ l b];exact List.Pairwise.filter _ List.nodup_range
 .exact Jg
def P0 {l:Bo} {i j:Nat} (h:l++[i]<+:l++[j]):i=j:=by
 have:=h.eq_of_length (by simp);simpa using this
def Yd {s:A6} (e:s.V.Ok) (p:Ed):(s.Aou p).Pairwise Ed.apart:=by
 unfold Aou;refine List.pairwise_filterMap.2 ((Rr e _).imp λ{i j} c x a y b=>?_);cases U:s.rest i with
 |none=>rw[U] at a;cases a
 |
  some m=>
  cases d:s.rest j with
  |none=>rw[d] at b;cases b
  |
   some m'=>
   rw[U] at a;rw[d] at b;cases a;cases b;exact⟨λh=>c (P0 h),λh=>c (P0 h).symm⟩
def Aar {x y:Bo} (j:Nat) (h:¬x<+:y/\¬y<+:x):¬x++[j]<+:y/\¬y<+:x++[j]:=
 ⟨λe=>h.1 ((GS _ _).trans e),λe=>by
  rcases List.prefix_concat_iff.1 e with e|e
  .exact h.1 (e▸GS _ _)
  .exact h.2 e⟩
def Inv.next {s:A6} (O:s.V.Ok) {hp:Y} {b:Nat} (A:EI hp b s.V) {n:Nat} {Q:List Ed} {K:List (Int×Bd)} {F:List Ed} (d:s.Inv n Q K F) {p:Ed} {q:List Ed} (ae:Oa Q=I (p,q)):
 s.Inv (n+1) (s.next (Q,K,F)).1 (s.next (Q,K,F)).2.1 (s.next (Q,K,F)).2.2:=by
 obtain⟨M,X⟩:=HN ae;have C:=List.pairwise_cons.1 ((M.pairwise_iff Ed.apart.symm).1 d.ac);have am:p∈Q:=M.mem_iff.2 Av;have H:∀y∈q,y∈Q:=λy g=>M.mem_iff.2 (Az _ g);have z:=d.ok p am;have av:Q.length=q.length+1:=by rw[M.length_eq];rfl
 have hc:=d.cL;have P:=z.j;have R:∀{h:Ed},h∈Q->(∀y∈Q,Tu h y)->h=p:=λu w=>M4 M d.ac X u w;unfold A6.next
 simp only[ae];split
 .rename_i S
  have cp:∃o∈F,px p.tx o.tx:=by
   rcases d.bq _ S with⟨o,D,h1,_⟩|⟨h0,h,u,w,_,v⟩
   .exact⟨o,D,h1⟩
   .rw[R u w] at v
    cases E:p.dn with
    |true=>unfold Cw at h0;rw[Bi E] at h0;simp at h0
    |
     false=>
     unfold Cw at v;rw[E] at v;simp at v
  obtain⟨o,D,h1⟩:=cp;refine⟨λx l=>d.ok x (H x l),d.oo,C.2,d.nd,λk f=>?_,d.kn,(λe=>Cf S (by rw[show K=[] from e];simp)),(by show q.length+_<=s.V.ns.length+(K.map s.Wk).sum;omega)⟩;rcases d.bq k f with h|⟨h0,h,u,w,v,_⟩
  .exact .inl h
  .rw[R u w] at v
   exact .inl ⟨o,D,Anc v h1,λhn=>G⟩
 .rename_i S
  have aa:(Cw p::K).Nodup:=List.nodup_cons.2 ⟨S,d.nd⟩;have hw:=Ame s.Wk (Cw p) K;split
  ·
   rename_i E;refine⟨λx l=>d.ok x (H x l),λo D=>(List.mem_append.1 D).elim (d.oo o) λe=>by rw[List.mem_singleton.1 e];exact z,C.2,aa,λk f=>?_,λk f=>?_,(λe=>by cases e),(by show q.length+_<=s.V.ns.length+((Cw p::K).map s.Wk).sum;omega)⟩
   .rcases List.mem_cons.1 f with rfl|f
    .exact .inl ⟨p,by simp,Y8 _,λ_=>rfl⟩
    .rcases d.bq k f with⟨o,D,h⟩|⟨h0,h,u,w,v,_⟩
     .exact .inl ⟨o,DW _ D,h⟩
     .rw[R u w] at v
      exact .inl ⟨p,by simp,v,λhn=>G⟩
   .rcases List.mem_cons.1 f with rfl|f
    .exact .inl (show(Cw p).1<0 by unfold Cw;rw[Bi E];exact(by decide:(-1:Int)<0))
    .exact d.kn k f
  .rename_i E
   have ab:Cw p=((p.lj:Int),p.tx):=by unfold Cw;rw[Bm E]
   have aw:s.Wk (Cw p)=s.W p.lj:=by rw[ab];unfold Wk;rw[Bm (by simp)];rfl
   have af:∀k∈Cw p::K,k.1<0\/k.1.toNat<s.V.ns.length:=λk f=>by
    rcases List.mem_cons.1 f with rfl|f
    .rw[ab];exact .inr P.1
    .exact d.kn k f
   have ag:∀{Q':List Ed} {h:Ed},h∈Q'->(∀y∈Q',Tu h y)->px p.tx h.tx->(h.dn=Ag\/(s.nN p.lj).t<(s.nN h.lj).t)->∀k∈Cw p::K,s.AHb Q' F k:=λ{Q' h} u w ah hl k f=>by
    rcases List.mem_cons.1 f with rfl|f
    .rw[ab]
     exact .inr ⟨by simp,h,u,w,ah,hl⟩
    .rcases d.bq k f with h|⟨h0,J,an,ad,v,N⟩
     .exact .inl h
     .rw[R an ad] at v N
      refine .inr ⟨h0,h,u,w,Anc v ah,?_⟩;rcases N with N|N
      .exact Cf N E
      .exact hl.imp id λh=>G
   split
   ·
    rename_i T;have hW:s.W p.lj=1:=by unfold A6.W;rw[Bi T]
    refine⟨λx l=>?_,d.oo,List.pairwise_cons.2 ⟨λy g=>C.1 y g,C.2⟩,aa,ag Av (λy g=>?_) (Y8 _) (.inl B),af,(λe=>by cases e),(by show(_::q).length+_<=s.V.ns.length+((Cw p::K).map s.Wk).sum;rw[AO];omega)⟩
    .rcases List.mem_cons.1 l with rfl|l
     .exact⟨z.ne,z.lt,z.j,z.m,λ_=>T,z.len,z.tx,z.c⟩
     .exact d.ok x (H x l)
    .rcases List.mem_cons.1 g with rfl|g
     .exact Ij _
     .exact Zw (X y (H y g)) (C.1 y g).1 (Eb _) B
   .rename_i T
    obtain⟨r,hr,ha⟩:=z.m;obtain⟨e1,j,ao,m,w,e2⟩:=exact O ⟨P.1,G,P.2.1⟩ P.2.2.1 hr;have ai:s.AGz p j m∈s.Aou p:=List.mem_filterMap.2 ⟨j,ao,by rw[w];rfl⟩;obtain⟨h,ax,ap⟩:=JK (O7 ai);obtain⟨aq,aj⟩:=HN ap;have u:h∈s.Aou p:=aq.mem_iff.2 Av;obtain⟨L,ak,m',ad,rfl⟩:=OT u;have ay:=Ka.1 (aj _ ai);have az:=e1 L ak m' ad;have ar:(s.AGz p L m').a=p.a:=by
     have q1:(s.AGz p L m').a=s.via p.lj L+p.c+m':=rfl;have q2:(s.AGz p j m).a=s.via p.lj j+p.c+m:=rfl;omega
    have au:=Akv s p L m';have f:=cj O ak;have hW:(s.Aou p).length<=s.W p.lj:=by
     unfold A6.W Aou;rw[Bm T];exact KH _ _
    refine⟨λx l=>?_,d.oo,List.pairwise_append.2 ⟨Yd O p,C.2,λx l y g=>?_⟩,aa,ag (DW _ u) (λy g=>?_) ?_ (.inr (by rw[au];omega)),af,(λe=>by cases e),(by show(s.Aou p++q).length+_<=s.V.ns.length+((Cw p::K).map s.Wk).sum;rw[Aj];omega)⟩
    .rcases List.mem_append.1 l with l|l
     .obtain⟨i,U,mi,al,rfl⟩:=OT l
      exact Arv O A z U al
     .exact d.ok x (H x l)
    .obtain⟨i,U,mi,al,rfl⟩:=OT l
     exact Aar i (C.1 y g)
    .rcases List.mem_append.1 g with g|g
     .exact aj y g
     .exact Zw (X y (H y g)) (C.1 y g).1 (GS _ _) ar
    .show p.tx.data.toList<+:(p.tx++(s.nN L).s).data.toList
     rw[ByteArray.bF];exact GS _ _
end A6
def Dd:Nat->(Nat->Nat)->Nat
 |0,_=>0
 |n+1,f=>Dd n f+f n
def LV {f g:Nat->Nat}:∀{n:Nat},(∀i,i<n->f i<=g i)->Dd n f<=Dd n g
 |0,_=>Ae _
 |n+1,h=>Nat.add_le_add (LV λi U=>h i G) (h n G)
def G6 (f g:Nat->Nat):∀n,Dd n (λi=>f i+g i)=Dd n f+Dd n g
 |0=>rfl
 |n+1=>by rw[Dd,Dd,Dd,G6 f g n];omega
def NI (c:Nat) (f:Nat->Nat):∀n,Dd n (λi=>c*f i)=c*Dd n f
 |0=>rfl
 |n+1=>by rw[Dd,Dd,NI c f n,EG]
def SM (f:Nat->Nat->Nat) (m:Nat):∀n,Dd n (λi=>Dd m λj=>f i j)=Dd m λj=>Dd n λi=>f i j
 |
  0=>by
  show 0=Dd m λ_=>0;have:∀m,Dd m (λ_=>0)=0:=λm=>by induction m with|zero=>rfl|succ m a=>rw[Dd,a]
  exact(this m).symm
 |
  n+1=>by
  rw[Dd,SM f m n,←G6];rfl
def VK (f:Nat->Nat):∀n,0<n->∃v,v<n/\∀i,i<n->f i<=f v
 |1,_=>⟨0,by decide,λi U=>by rw[Nat.lt_one_iff.1 U];exact Ae _⟩
 |
  n+2,_=>by
  obtain⟨v,b,h⟩:=VK f (n+1) G;rcases A8 (f v) (f (n+1)) with c|a
  .refine⟨n+1,G,λi U=>?_⟩
   rcases A8 i (n+1) with h1|h1
   .have:=h i h1;omega
   .rw[show i=n+1 by omega];exact Ae _
  .refine⟨v,G,λi U=>?_⟩
   rcases A8 i (n+1) with h1|h1
   .exact h i h1
   .rw[show i=n+1 by omega];exact a
def Ahs (x y:Nat):4*(x*y)<=(x+y)*(x+y):=by
 rcases Nat.le_total x y with h|h
 .obtain⟨d,rfl⟩:=Nat.le.dest h
  simp only[Dw,EG];have e:=UI x d;have:=Al (d*d);omega
 .obtain⟨d,rfl⟩:=Nat.le.dest h
  simp only[Dw,EG];have e:=UI y d;have:=Al (d*d);omega
def Aye (f t:Nat->Int) (n:Nat) (c:∀i,i<n->f i<t i):4*Dd n (λi=>Dd n λj=>if t i=f j then 1 else 0)<=n*n:=by
 rcases KQ n with rfl|h
 .exact Ae _
 let a:Nat->Nat->Nat:=λi j=>if t i=f j then 1 else 0
 let b:Nat->Nat:=λi=>Dd n λj=>a i j+a j i
 obtain⟨v,d,k⟩:=VK b n h
 let u:Nat->Nat:=λi=>if t v=f i\/t i=f v then 0 else 1
 have h1:Dd n (λi=>Dd n λj=>a i j)<=Dd n λi=>u i*b i:=by
  have e:Dd n (λi=>u i*b i)=Dd n (λi=>Dd n λj=>(u i+u j)*a i j):=by
   have l:∀i,u i*b i=Dd n (λj=>u i*a i j)+Dd n λj=>u i*a j i:=λi=>by
    show u i*Dd n (λj=>a i j+a j i)=_;rw[G6,EG,←NI,←NI]
   have o:Dd n (λi=>u i*b i)=Dd n (λi=>Dd n λj=>u i*a i j)+Dd n (λi=>Dd n λj=>u i*a j i):=by
    rw[←G6];congr 1;funext i;exact l i
   rw[o,SM (λi j=>u i*a j i),←G6];congr 1;funext i;rw[←G6];congr 1;funext j;rw[Dw]
  rw[e];refine LV λi U=>LV λj p=>?_;show(if t i=f j then 1 else 0)<=((if t v=f i\/t i=f v then 0 else 1)+(if t v=f j\/t j=f v then 0 else 1))*(if t i=f j then 1 else 0)
  have:=c i U;have:=c j p;have:=c v d;split
  .split
   .rw[Bm G];decide
   .omega
  .omega
 have r:Dd n (λi=>u i*b i)<=b v*Dd n u:=by
  rw[←NI];exact LV λi U=>by rw[UI];exact Ci _ (k i U)
 have s:Dd n u+b v<=n:=by
  have e:Dd n (λ_=>1)=n:=by
   have:∀m,Dd m (λ_=>1)=m:=λm=>by induction m with|zero=>rfl|succ m q=>rw[Dd,q]
   exact this n
  show Dd n u+Dd n (λj=>a v j+a j v)<=n;rw[←G6];refine Ao (LV (g:=λ_=>1) λi U=>?_) (A2 e);show(if t v=f i\/t i=f v then 0 else 1)+((if t v=f i then 1 else 0)+(if t i=f v then 1 else 0))<=1
  have:=c i U;have:=c v d;split
  .split
   .rw[Bm G];decide
   .split<;>omega
  .rw[Bm G,Bm G];decide
 have w:=Ahs (b v) (Dd n u);have x:(b v+Dd n u)*(b v+Dd n u)<=n*n:=Cj G G;show 4*Dd n (λi=>Dd n λj=>a i j)<=n*n;omega
def T2 {c:Type} (f:c->Nat):∀(K M:List c),K.Nodup->(∀k∈K,f k=0\/k∈M)->(K.map f).sum<=(M.map f).sum
 |[],_,_,_=>by simp
 |
  k::K,M,e,h=>by
  obtain⟨g,d⟩:=List.nodup_cons.1 e;rw[Bp,Amw];rcases h k Av with h0|i
  .rw[h0,Ba];exact T2 f K M d λx b=>h x (Az _ b)
  .obtain⟨A,j,rfl⟩:=List.append_of_mem i
   have:=T2 f K (A++j) d λx b=>(h x (Az _ b)).imp id λa=>by
    rcases List.mem_append.1 a with a|a
    .exact DW _ a
    .rcases List.mem_cons.1 a with rfl|a
     .exact Cf b g
     .exact List.mem_append_right _ a
   simp only[BS,PC,Bp,Amw] at this⊢;omega
def Xh (o:Bd):BZ:=(BG (o.size+1)).map λl=>⟨⟨o.data.toList.take l⟩⟩
def Ahd {a o:Bd} (h:px a o):a∈Xh o:=by
 refine List.mem_map.2 ⟨a.size,List.mem_range.2 ?_,?_⟩
 .have:=h.length_le
  have b:a.data.toList.length=a.size:=rfl;have c:o.data.toList.length=o.size:=rfl;omega
 .have:o.data.toList.take a.size=a.data.toList:=(List.prefix_iff_eq_take.1 h).symm
  rw[this]
def VJ {a b:Type} (g:a->List b) (c:Nat):∀l:List a,(∀x∈l,(g x).length<=c)->(l.flatMap g).length<=l.length*c
 |[],_=>by simp
 |
  x::l,h=>by
  have h1:=h x Av;have e:=VJ g c l λy d=>h y (Az _ d);rw[Dg,Aj,AO,Dw];omega
namespace A6
def Aoh (s:A6):∀(n:Nat) (M:BZ),((M.flatMap λt=>(BG n).map λi:Nat=>((i:Int),t)).map s.Wk).sum=M.length*Dd n s.W
 |n,[]=>by simp
 |
  n,t::M=>by
  rw[Dg,BS,PC,Aoh s n M,AO,Dw,Nat.one_mul,UK];congr 1;rw[O5]
  induction n with
  |zero=>rfl
  |
   succ n a=>
   rw[Acb,BS,PC,a,Dd];have:(s.Wk∘λi:Nat=>((i:Int),t)) n=s.W n:=by
    show s.Wk ((n:Int),t)=_;unfold Wk;rw[Bm (by simp)];rfl
   simpa using this
def ACi {s:A6} (a:s.V.Ok) (i:Nat):s.W i<=1+Dd s.V.ns.length λj=>if(s.nN i).t=(s.nN j).f then 1 else 0:=by
 unfold A6.W;split
 .omega
 refine Ao (D7 _ _) ?_;have b:∀n:Nat,((BG n).filter λj=>decide ((s.V.ns.getD j DS).f=(s.nN i).t)).length=Dd n λj=>if(s.nN i).t=(s.nN j).f then 1 else 0:=λn=>by
  induction n with
  |zero=>rfl
  |
   succ n c=>
   rw[Acb,O6,Aj,c,Dd];congr 1;by_cases h:(s.nN i).t=(s.nN n).f
   .rw[Bi h,W8 (by exact decide_eq_true h.symm)];rfl
   .rw[Bm h,W9 (by rw[decide_eq_true_iff];exact λe=>h (Eq.symm e))];rfl
 unfold Cb.from_;split
 .rw[Ak]
  cases d:s.V.fs[(s.nN i).t.toNat]? with
  |none=>exact Al _
  |
   some l=>
   rw[EN,a.at_ _ l d];have:=b s.V.ns.length;rename_i h0;rw[show(((s.nN i).t.toNat:Nat):Int)=(s.nN i).t by omega,this];omega
 .exact Al _
def Azj {s:A6} (a:s.V.Ok):Dd s.V.ns.length s.W<=25010000:=by
 have h1:=LV (n:=s.V.ns.length) λi _=>ACi a i;rw[G6] at h1;have d:=Aye (λi=>(s.nN i).f) (λi=>(s.nN i).t) s.V.ns.length λi U=>(a.inv.ok _ (mem U)).2.1.1;have g:Dd s.V.ns.length (λ_=>1)=s.V.ns.length:=by
  have:∀m,Dd m (λ_=>1)=m:=λm=>by induction m with|zero=>rfl|succ m c=>rw[Dd,c]
  exact this _
 have b:=a.len;have h:s.V.ns.length*s.V.ns.length<=10000*10000:=Cj b b;omega
def ADf.size {s:A6} (a:s.T-s.F<=64) {x:Ed} (h:s.ADf x):x.tx.size<=16384:=by
 have h1:=h.len;have b:=h.j;have c:=h.tx;omega
def Inv.sum {s:A6} (j:s.V.Ok) (u:s.T-s.F<=64) {n:Nat} {Q:List Ed} {K:List (Int×Bd)} {e:List Ed} (a:s.Inv n Q K e) (l:e.length<=60):Q.length+n<=25000000000000:=by
 have C:=a.cL;obtain⟨b,h1,v,w⟩:∃b:BZ,b.length<=61/\(∀t∈b,(Xh t).length<=16385)/\∀k∈K,∃t∈b,px k.2 t:=by
  have sz:∀{x:Ed},s.ADf x->(Xh x.tx).length<=16385:=λh=>by
   have:=h.size u;unfold Xh;rw[A4,List.length_range];omega
  by_cases m:Q=[]
  .refine⟨e.map Ed.tx,by simpa using UF l,λt c=>?_,λk d=>?_⟩
   .obtain⟨o,h,rfl⟩:=List.mem_map.1 c
    exact sz (a.oo o h)
   .rcases a.bq k d with⟨o,h,J,_⟩|⟨_,h,f,_⟩
    .exact⟨_,Gn h,J⟩
    .rw[m] at f;cases f
  .obtain⟨p,q,g⟩:=JK m
   obtain⟨r,y⟩:=HN g;refine⟨p.tx::e.map Ed.tx,by simpa using l,λt c=>?_,λk d=>?_⟩
   .rcases List.mem_cons.1 c with rfl|c
    .exact sz (a.ok p (r.mem_iff.2 Av))
    .obtain⟨o,h,rfl⟩:=List.mem_map.1 c
     exact sz (a.oo o h)
   .rcases a.bq k d with⟨o,h,J,_⟩|⟨_,h,f,z,J,_⟩
    .exact⟨_,Az _ (Gn h),J⟩
    .rw[M4 r a.ac y f z] at J
     exact⟨_,Av,J⟩
 have A:=T2 s.Wk K ((b.flatMap Xh).flatMap λt=>(BG s.V.ns.length).map λi:Nat=>((i:Int),t)) a.nd λk d=>by
  by_cases h0:k.1<0
  .exact .inl (by unfold Wk;rw[Bi h0])
  .refine .inr (List.mem_flatMap.2 ⟨k.2,?_,List.mem_map.2 ⟨k.1.toNat,List.mem_range.2 ?_,?_⟩⟩)
   .obtain⟨t,c,g⟩:=w k d
    exact List.mem_flatMap.2 ⟨t,c,Ahd g⟩
   .exact(a.kn k d).resolve_left h0
   .rw[show((k.1.toNat:Nat):Int)=k.1 by omega]
 rw[Aoh] at A;have D:=VJ Xh 16385 b v;have E:b.length*16385<=61*16385:=Ci _ h1;have H:(b.flatMap Xh).length*Dd s.V.ns.length s.W<=999485*25010000:=Cj G (Azj j);have L:=j.len;omega
end A6
variable{S:A9} {L:Nat}
def Aah {a b:Bo} (c:k<a.length) (hb:k<b.length):FE (a.drop k) (b.drop k)=if Dx a[k] b[k]=0 then FE (a.drop (k+1)) (b.drop (k+1)) else Dx a[k] b[k]:=by
 rw[Di c,Di hb];rfl
def Aic {a:Bo} (h:k<a.length):(Bn a)[k]?=I (Vi (a[k]:Int)):=by
 unfold Bn;rw[AX,Ab h];rfl
def Rd.int {a:Bo} (r:Rd h (.slice A a.length c) 1 a.length (Bn a)) (d:k<a.length):∃b,A=I b/\Cell h b.block (b.off+k*1) (Vi (a[k]:Int)):=by
 obtain⟨b,f,e,_,q⟩:=r.at_ G;cases e;exact⟨b,B,by rw[BJ];exact q k _ (Aic d)⟩
def AAv (l:Base S L) {w:Aa} {a b:Bo} (m:Rd h v 1 a.length (Bn a)) (n:Rd h w 1 b.length (Bn b)) (y:a.length<=1000000):Bk S L 3 397 [v,w] h λz J=>J=h/\z=Vi (FE a b):=
 Cn f397 l λd C D=>by
  obtain⟨o,p,rfl⟩:∃A c,v=.slice A a.length c:=by obtain⟨_,A,c,e,_⟩:=m;exact⟨A,c,e⟩
  obtain⟨t,c1,rfl⟩:∃A c,w=.slice A b.length c:=by obtain⟨_,A,c,e,_⟩:=n;exact⟨A,c,e⟩
  refine⟨λq A r=>∃k:Nat,A=[(0,.slice o a.length p),(1,.slice t b.length c1),(9,.slice o a.length p),(10,Vi a.length),(11,Vi k)]/\k<=a.length/\q=a.length-k/\FE (a.drop k) (b.drop k)=FE a b/\(k<=b.length)/\r=h,
   ⟨_,_,Sq,G,0,B,Al _,B,B,Al _,B⟩,?_⟩
  rintro q A r ⟨k,rfl,E,rfl,f,i,rfl⟩ F;apply Bz<;>intro H
  .have j:k<a.length:=G
   obtain⟨K,rfl,u⟩:=m.int j;refine⟨G,_,ld B u,Bz (λs=>?_) (λs=>?_)⟩
   .refine⟨B,?_⟩
    rw[←f,Di j,show b.drop k=[] from Ef G];rfl
   have i:k<b.length:=G;obtain⟨M,rfl,x⟩:=n.int i;refine⟨G,_,ld B x,GZ (Qo l d G) ?_⟩;have st:=Aah j i;refine Ad (λg=>?_) (λg=>?_)
   .have g:¬Dx a[k] b[k]=0:=by simpa using g
    rw[Bm g,f] at st;exact⟨B,by rw[st];rfl⟩
   rw[Bi Jq] at st;exact⟨Pq,_,_,Sq,G,k+1,B,G,B,by rw[←st,f],G,B⟩
  rw[Ef Jq] at f;apply Bz<;>intro s
  .rw[Di Jq] at f
   exact⟨B,by rw[←f];rfl⟩
  rw[Ef Jq] at f;exact⟨B,by rw[←f];rfl⟩
structure IE where
 b:Nat
 nv:Aa
 P:Ed
def IE.cells (e:IE):AH:=[e.nv,.int .i64 e.P.c,.int .i64 e.P.a,.string e.P.tx,.bool e.P.dn]
def IE.pt (e:IE):Value:=AG e.b 0
structure Ix (h:Y) (e:IE):Prop where
 c:∀(i:Nat) v,e.cells[i]?=I v->Cell h e.b i v
 n:Rd h e.nv 1 e.P.ns.length (Bn e.P.ns)
 l:e.P.ns.length<=1000000
def IE.am (e:IE) (i:Nat):Prop:=i=e.b\/BY e.nv i
def Ix.ae {e:IE} (A:Ix h e) (x:B0 W h J) (a:∀i,e.am i->¬W i):Ix J e:=
 ⟨λi v U=>(A.c i v U).ae x (a _ (.inl B)),A.n.ae x λi U=>a i (.inr U),A.l⟩
def Ix.ext {e:IE} (A:Ix h e) (x:AA h J):Ix J e:=A.ae (x.ae λ_=>False) λ_ _ h=>h
def Rd.pt {es:List IE} (r:Rd h (.slice A n c) 1 n (es.map IE.pt)) {x:IE} (U:es[i]?=I x):i<n/\∃a,A=I a/\Cell h a.block (a.off+i*1) x.pt:=by
 have b:(es.map IE.pt).length=n:=by rw[r.1,BJ]
 have d:=(List.getElem?_eq_some_iff.1 U).1;rw[A4] at b;obtain⟨a,f,e,_,q⟩:=r.at_ G;cases e;exact⟨G,a,B,Jq⟩
def Ade (z:Base S L) {es:List IE} (r:Rd h v 1 n (es.map IE.pt)) (C:∀e∈es,Ix h e) {x y:IE} (U:es[i]?=I x) (D:es[j]?=I y):
 Bk S L 4 395 [v,Vi i,Vi j] h λw J=>AA h J/\w=.bool (HC x.P y.P):=
 Cn f395 z λd E _=>by
  have ax:=C x Jq;have p:=C y Jq;obtain⟨F,H,rfl⟩:∃A c,v=.slice A n c:=by obtain⟨_,A,c,e,_⟩:=r;exact⟨A,c,e⟩
  obtain⟨q,K,rfl,s⟩:=r.pt U;obtain⟨t,M,e,u⟩:=r.pt D;cases e;have g:=AT (AA.refl h);have b:∀k:Nat,k<n->0<=(k:Int)/\(k:Int)<n:=λk N=>G;refine⟨[],Kq,b i q,_,ld B s,_,ld B (ax.c 2 _ B),b j t,_,ld B u,_,ld B (p.c 2 _ B),Ad (λf=>?_) (λf=>?_)⟩
  .have f:¬x.P.a=y.P.a:=by simpa using f
   exact⟨[],Kq,b i q,_,ld B s,_,ld B (ax.c 2 _ B),b j t,_,ld B u,_,ld B (p.c 2 _ B),AA.refl h,by rw[HC,Bm f];rfl⟩
  have f:x.P.a=y.P.a:=Gq;refine⟨[],Kq,b i q,_,ld B s,_,ld B (ax.c 0 _ B),b j t,_,ld B u,_,ld B (p.c 0 _ B),_,AAv (h:=h.ad) z (show Rd h _ _ _ _ from ax.n) (show Rd h _ _ _ _ from p.n) ax.l d G,?_⟩;rintro _ _ ⟨rfl,rfl⟩;refine⟨B,Ad (λm=>?_) (λm=>?_)⟩
  .have m:¬FE x.P.ns y.P.ns=0:=by simpa using m
   exact⟨g,by rw[HC,Bi f,Bm m];rfl⟩
  have m:FE x.P.ns y.P.ns=0:=Gq;refine⟨b i q,_,ld B (s.ext g),_,ld B ((ax.c 4 _ B).ext g),_,_,B,Ad (λo=>?_) (λo=>?_)⟩
  .refine⟨b j t,_,ld B (u.ext g),_,ld B ((p.c 4 _ B).ext g),g,?_⟩
   have o:x.P.dn=false:=Gq;rw[HC,Bi f,Bi m,o];rfl
  .have o:x.P.dn=true:=by simpa using o
   exact⟨g,by rw[HC,Bi f,Bi m,o];rfl⟩
def Acq (q:Base S L) {es:List IE} (o:AS h N 90 1 v n (es.map IE.pt)) {x y:IE} (U:es[i]?=I x) (c:es[j]?=I y):
 Bk S L 1 396 [v,Vi i,Vi j] h λ_ J=>B0 (BY v) h J/\AS J N 90 1 v n ((swp es i j x y).map IE.pt):=
 Cn f396 q λd O _=>by
  have r:=o.rd;have P:=(List.getElem?_eq_some_iff.1 c).1;obtain⟨f,⟨rfl,rfl⟩|⟨b,s,sp,rfl,u,w,z,A⟩⟩:=o
  .rw[A4] at f;omega
  rw[A4,BJ] at f;obtain⟨g,Q,e,C⟩:=r.pt U;cases e;obtain⟨l,R,e,D⟩:=r.pt c;cases e;have a:∀k:Nat,k<n->0<=(k:Int)/\(k:Int)<n:=λk m=>G;obtain⟨h1,E,F,H⟩:=Own.st (τ:=Ax) (t:=90) B (show Own h.ad b 90 _ from A) (i:=i) (v:=y.pt) Jq B;obtain⟨T,K,p,M⟩:=Own.st (τ:=Ax) (t:=90) B (show Own (h.aa h1).ad b 90 _ from F.aa (h:=h)) (i:=j) (v:=x.pt) Jq B;refine⟨[],Kq,a j l,_,ld B D,a i g,_,ld B C,a i g,_,Jp E (by show 0+i*1=i;omega),a j l,_,Jp K (by show 0+j*1=j;omega),(H.aa.ae.trans M.aa.ae).mono λk m=>m,⟨by rw[A4,Y4];omega,.inr ⟨b,s,sp,B,u,w,?_,?_⟩⟩⟩
  .rw[Aj,A4,Y4,←z,Aj,A4]
  .rw[Hj,Bi Jq,Hj,Bi Jq] at p
   rw[show(swp es i j x y).map IE.pt=((es.map IE.pt).set i y.pt).set j x.pt by unfold swp;rw[Cp,Cp]];exact p.aa
def qp (q:Nat):Value:=.iface 98 (AG q 0)
def Vp (h:Y) (q:Nat):No Ax h 98 (AG q 0) "Less"=(match Bw Ax 89 h q 0 with|some r=>I (395,r)|none=>Z):=Kq
def Vu (h:Y) (q:Nat):No Ax h 98 (AG q 0) "Swap"=(match Bw Ax 89 h q 0 with|some r=>I (396,r)|none=>Z):=Kq
def Awm (h:Y) (q:Nat):No Ax h 98 (AG q 0) "Len"=(match Bw Ax 89 h q 0 with|some r=>I (394,r)|none=>Z):=Kq
def Axa (h:Y) (q:Nat):No Ax h 98 (AG q 0) "Push"=I (399,AG q 0):=Kq
def ADi (h:Y) (q:Nat):No Ax h 98 (AG q 0) "Pop"=I (398,AG q 0):=Kq
def mV (c:Cell h q 0 v):(match Bw Ax 89 h q 0 with|some r=>I (f,r)|none=>Z)=I (f,v):=by
 rw[ld B c]
def Jk (e f:IE):Prop:=Tu e.P f.P
def Ol {a b c:IE} (h1:Jk a b) (d:Jk b c):Jk a c:=Agh h1 d
structure HW (h:Y) (N q n:Nat) (v:Aa) (es:List IE):Prop where
 c:Own h q 89 [v]
 o:AS h N 90 1 v n (es.map IE.pt)
 i:∀e∈es,Ix h e
 ap:∀e∈es,∀i,e.am i->¬BY v i/\i≠q
 q:¬BY v q
def HW.len {es:List IE} (H:HW h N q n v es):es.length=n:=by
 have:=H.o.1
 rwa [A4,BJ] at this
def HW.mv {es b:List IE} (H:HW h N q n v es) (c:B0 (BY v) h J) (o:AS J N 90 1 v n (b.map IE.pt)) (p:b.Perm es):HW J N q n v b:=
 ⟨H.c.ae c H.q,o,λe a=>(H.i e (p.mem_iff.1 a)).ae c λi U=>(H.ap e (p.mem_iff.1 a) i U).1,λe a=>H.ap e (p.mem_iff.1 a),H.q⟩
def Aya {ox oy:BU} (j:Nat) (a:j<=26000000000000):Jo Ax .quo 3 ox oy (Vi ((j:Int)-1)) (Vi 2)=I (Vi (((j-1)/2:Nat):Int)):=by
 cases j with
 |zero=>rfl
 |
  succ j=>
  rw[(G:((j+1:Nat):Int)-1=(j:Int)),Awi ⟨G,Pq⟩];rfl
def c72 (r:Base S L) {es:List IE} (H:HW h N q n v es) (u:j<n) (o:UpH Jk es j) (Q:n<=26000000000000):
 Bk S L 5 72 [qp q,Vi j] h λ_ J=>B0 (BY v) h J/\∃b:List IE,b.Perm es/\Em Jk n b/\HW J N q n v b:=
 Cn f72 r λd R T=>by
  refine⟨λw A g=>∃(j:Nat) (b:List IE),A=[(0,qp q),(1,Vi j)]/\j<n/\j=w/\UpH Jk b j/\b.Perm es/\HW g N q n v b/\B0 (BY v) h g,
   ⟨_,_,Sq,G,j,es,B,u,B,o,List.Perm.refl _,H,(AA.refl h).ae _⟩,?_⟩
  rintro w A g ⟨j,b,rfl,u,rfl,o,y,e,x⟩ V;have F:=e.len;have Da:∀{k:Y},AA g k->(∀a p,0<j->b[j]?=I a->b[(j-1)/2]?=I p->Jk p a)->B0 (BY v) h k/\∃s:List IE,s.Perm es/\Em Jk n s/\HW k N q n v s:=λf K=>
   ⟨x.trans (f.ae _),b,y,by have:=o.stop K;rwa [F] at this,e.mv (f.ae _) (e.o.ext f) (List.Perm.refl _)⟩
  obtain⟨a,l⟩:∃a,b[j]?=I a:=⟨b[j],Ab G⟩;obtain⟨p,m⟩:∃p,b[(j-1)/2]?=I p:=⟨b[(j-1)/2]'G,Ab G⟩;refine⟨Pq,_,Aya j G,Bz (λM=>?_) (λM=>?_)⟩
  .exact Da (AA.refl _) λ_ _ h0=>G
  refine⟨_,_,(Vp g q).trans (mV (e.c.cell B)),_,Ade r e.o.rd e.i l m d G,?_⟩;rintro _ k ⟨f,rfl⟩;refine⟨_,_,B,Ad (λt=>?_) (λt=>?_)⟩
  .refine Da f λa' W _ z C=>?_
   rw[l] at z;rw[m] at C;cases z;cases C;show HC a.P p.P=Ah;simpa using t
  refine⟨_,_,(Vu k q).trans (mV ((e.c.ext f).cell B)),_,Acq r (e.o.ext f) m l d G,?_⟩;rintro _ X ⟨D,O⟩;have E:=NM m l;exact⟨_,_,Sq,G,(j-1)/2,_,B,G,B,UpH.step (le:=Jk) Ol o G m l (PZ (by simpa using t:HC a.P p.P=Ag)),E.trans y,e.mv ((f.ae _).trans D) O E,x.trans ((f.ae _).trans D)⟩
def c76 (F:Base S L) {es:List IE} (H:HW h N q n v es) (hm:m<n) (R:KL Jk m es 0) (hn:n<=26000000000000):
 Bk S L 5 76 [qp q,Vi 0,Vi m] h λw J=>(∃b,w=.bool b)/\B0 (BY v) h J/\∃f:List IE,f.Perm es/\Em Jk m f/\f[m]?=es[m]?/\HW J N q n v f:=
 Cn f76 F λd af hL=>by
  refine⟨λμ A M=>∃(i:Nat) (f:List IE),A=[(0,qp q),(1,Vi 0),(2,Vi m),(7,Vi i)]/\i<=m/\μ=m-i/\KL Jk m f i/\f.Perm es/\f[m]?=es[m]?/\HW M N q n v f/\B0 (BY v) h M,
   ⟨_,_,Sq,G,0,es,B,G,B,R,List.Perm.refl _,B,H,(AA.refl h).ae _⟩,?_⟩
  rintro μ A M ⟨i,f,rfl,U,rfl,R,hp,aa,g,x⟩ ag;have hl:=g.len;have Da:∀{j:Y} (b:Bool),AA M j->(∀(k:Nat) a p,0<k->k<m->(k-1)/2=i->f[k]?=I a->f[i]?=I p->Jk p a)->(∃b',CU b=.bool b')/\B0 (BY v) h j/\∃E:List IE,E.Perm es/\Em Jk m E/\E[m]?=es[m]?/\HW j N q n v E:=λb l hs=>
   ⟨⟨b,B⟩,x.trans (l.ae _),f,hp,R.stop hs,aa,g.mv (l.ae _) (g.o.ext l) (List.Perm.refl _)⟩
  refine⟨Pq,Pq,Bz (λk1=>?_) (λk1=>?_)⟩
  .exact Da _ (AA.refl _) λk _ _ h0 h1 j=>G
  have W:∀k:Nat,k<n->∃a,f[k]?=I a:=λk hk=>⟨f[k]'G,Ab G⟩;obtain⟨p,s⟩:=W i G;obtain⟨a,z⟩:=W (2*i+1) G;have e1:(2:Int)*(i:Int)+1=((2*i+1:Nat):Int):=G;have X:∀{j C:Y} (c:Nat) (y:IE),AA M j->(c=2*i+1\/c=2*i+2)->c<m->f[c]?=I y->HC y.P p.P=Ag->(∀(k:Nat) u,0<k->k<m->(k-1)/2=i->f[k]?=I u->Jk y u)->B0 (BY v) j C->AS C N 90 1 v n ((swp f i c p y).map IE.pt)->
   ∀{A:As},Sub [(0,qp q),(1,Vi 0),(2,Vi m),(7,Vi c)] A->∃m' A0,Sub A0 A/\m'<m-i/\∃(T:Nat) (E:List IE),A0=[(0,qp q),(1,Vi 0),(2,Vi m),(7,Vi T)]/\T<=m/\m'=m-T/\KL Jk m E T/\E.Perm es/\E[m]?=es[m]?/\HW C N q n v E/\B0 (BY v) h C:=λc y l hc ab hy ad D r o3 A ae=>by
   have p3:=NM s hy;refine⟨m-c,_,ae,G,c,_,B,G,B,KL.step (le:=Jk) Ol R G ab G s hy (PZ ad) D,p3.trans hp,?_,g.mv ((l.ae _).trans r) o3 p3,x.trans ((l.ae _).trans r)⟩;rw[swp_get s hy,Bm G,Bm G,aa]
  refine⟨Pq,Bz (λk3=>?_) (λk3=>?_)⟩
  .obtain⟨b,hb⟩:=W (2*i+2) G
   rw[(G:(2:Int)*(i:Int)+1+1=((2*i+2:Nat):Int)),e1];refine⟨_,_,(Vp M q).trans (mV (g.c.cell B)),_,Ade F g.o.rd g.i hb z d G,?_⟩;rintro _ j ⟨l,rfl⟩;have V:=g.c.ext l;refine Ad (λk4=>?_) (λk4=>?_)
   .have D:∀(k:Nat) u,0<k->k<m->(k-1)/2=i->f[k]?=I u->Jk b u:=λk u h0 h1 j o=>by
     rcases(show k=2*i+1\/k=2*i+2 by omega) with rfl|rfl
     .rw[z] at o;cases o;exact PZ k4
     .rw[hb] at o;cases o;exact Ij _
    refine⟨_,_,(Vp j q).trans (mV (V.cell B)),_,Ade F (g.o.ext l).rd (λe he=>(g.i e he).ext l) hb s d G,?_⟩;rintro _ C ⟨r,rfl⟩;refine⟨_,_,B,Ad (λt=>?_) (λt=>?_)⟩
    .refine Da _ (l.trans r) λk u p' h0 h1 j o K=>?_
     rw[s] at K;cases K;exact Ol (show HC b.P p.P=Ah by simpa using t) (D k u h0 h1 j o)
    refine⟨_,_,(Vu C q).trans (mV ((V.ext r).cell B)),_,Acq F ((g.o.ext l).ext r) s hb d G,?_⟩;rintro _ h4 ⟨O,Q⟩;exact X (2*i+2) b (l.trans r) (.inr B) G hb (by simpa using t) D O Q (Sq)
   .have D:∀(k:Nat) u,0<k->k<m->(k-1)/2=i->f[k]?=I u->Jk a u:=λk u h0 h1 j o=>by
     rcases(show k=2*i+1\/k=2*i+2 by omega) with rfl|rfl
     .rw[z] at o;cases o;exact Ij _
     .rw[hb] at o;cases o;exact k4
    refine⟨_,_,(Vp j q).trans (mV (V.cell B)),_,Ade F (g.o.ext l).rd (λe he=>(g.i e he).ext l) z s d G,?_⟩;rintro _ C ⟨r,rfl⟩;refine⟨_,_,B,Ad (λt=>?_) (λt=>?_)⟩
    .refine Da _ (l.trans r) λk u p' h0 h1 j o K=>?_
     rw[s] at K;cases K;exact Ol (show HC a.P p.P=Ah by simpa using t) (D k u h0 h1 j o)
    refine⟨_,_,(Vu C q).trans (mV ((V.ext r).cell B)),_,Acq F ((g.o.ext l).ext r) s z d G,?_⟩;rintro _ h4 ⟨O,Q⟩;exact X (2*i+1) a (l.trans r) (.inl B) G z (by simpa using t) D O Q (Sq)
  .have D:∀(k:Nat) u,0<k->k<m->(k-1)/2=i->f[k]?=I u->Jk a u:=λk u h0 h1 j o=>by
    obtain rfl:k=2*i+1:=G;rw[z] at o;cases o;exact Ij _
   rw[e1];refine⟨_,_,(Vp M q).trans (mV (g.c.cell B)),_,Ade F g.o.rd g.i z s d G,?_⟩;rintro _ C ⟨r,rfl⟩;refine⟨_,_,B,Ad (λt=>?_) (λt=>?_)⟩
   .refine Da _ r λk u p' h0 h1 j o K=>?_
    rw[s] at K;cases K;exact Ol (show HC a.P p.P=Ah by simpa using t) (D k u h0 h1 j o)
   refine⟨_,_,(Vu C q).trans (mV ((g.c.ext r).cell B)),_,Acq F (g.o.ext r) s z d G,?_⟩;rintro _ h4 ⟨O,Q⟩;exact X (2*i+1) a r (.inl B) G z (by simpa using t) D O Q (Sq)
def Ix.a8 {h:Y} {e:IE} (A:Ix h e):∀i,e.am i->i<h.nx:=λi U=>by
 rcases U with rfl|U
 .exact(A.c 0 _ B).1
 .exact A.n.aw i U
def AEg (y:Base S L) {h:Y} {N q n:Nat} {v:Aa} {es:List IE} {e:IE} (H:HW h N q n v es) (z:Ix h e) (A:∀i,e.am i->¬BY v i/\i≠q) (C:N<=h.nx) (P:n<26000000000000):
 Bk S L 1 399 [AG q 0,.iface 90 e.pt] h λ_ J=>∃v',HW J N q (n+1) v' (es++[e])/\B0 (λi=>i=q\/BY v i) h J/\∀i,BY v' i->BY v i\/h.nx<=i:=
 Cn f399 y λd Q _=>by
  have R:=H.c.1;have b:=AA.row h 90 [e.pt];have D:=Own.row h 90 [e.pt];obtain⟨v',p,t1,r,s,E⟩:=Aww (τ:=Ax) (st:=89) (t2:=89) (e:=90) (k:=1) Kq (m:=1) (ys:=[e.pt]) (H.o.ext b) (x:=sL h.nx 1 1) B (by rw[Il D (Ae 1)];rfl) B B (Ao C b.nx) (by decide) (.inr ⟨G,Kq⟩);have l:∀i,BY v' i->BY v i\/h.nx<=i:=λi U=>(E i U).imp id λh=>Ao b.nx h;have F:Own p q 89 [v]:=(H.c.ext b).ae s H.q;obtain⟨j,K,M,u⟩:=Own.st (τ:=Ax) (t:=89) B F (i:=0) (v:=v') (HL 0) (D5 r);have w:¬BY v' q:=λo=>by
   rcases l q o with h1|h1
   .exact H.q h1
   .omega
  have c:B0 (λi=>i=q\/BY v i) h j:=((b.ae _).trans (s.mono λi U=>.inr U)).trans (u.ae.mono λi U=>.inl U);have g:∀f∈es++[e],Ix h f/\∀i,f.am i->¬BY v i/\i≠q:=λf a=>by
   rcases List.mem_append.1 a with a|a
   .exact⟨H.i f a,H.ap f a⟩
   .rw[List.mem_singleton.1 a];exact⟨z,A⟩
  refine⟨_,_,B,_,ld B (H.c.cell (i:=0) B),_,_,Iv (τ:=Ax) (t:=89) (e:=90) (k:=1) Kq e.pt B B G h,_,_,t1,_,K,v',⟨M,?_,λf a=>(g f a).1.ae c λi U O=>?_,λf a i U=>⟨λo=>?_,((g f a).2 i U).2⟩,w⟩,c,l⟩
  .rw[BS]
   exact r.ah u λi U=>λe=>w (e▸U)
  .have:=(g f a).2 i U
   exact O.elim this.2 this.1
  .have h1:=(g f a).2 i U
   have p:=(g f a).1.a8 i U;rcases l i o with j|j
   .exact h1.1 j
   .omega
def slQ (b n c m:Nat) {z:Int} (a:z=(m:Int)) (d:m<=c):C7 Ax 89 (sL b n c) Z (I (Vi z)) Z=I (.slice (I ⟨b,0+0*1,Z⟩) (m-0) (c-0)):=by
 subst a;show(bif Ar 0 m&&Ar m c then I (PA (I ⟨b,0+0*1,Z⟩) (m-0) (c-0)) else Z)=_
 rw[Aq d];rfl
def Azz (l:Base S L) {h:Y} {N q n:Nat} {v:Aa} {es:List IE} {x:IE} (H:HW h N q (n+1) v (es++[x])) (A:n<26000000000000):
 Bk S L 1 398 [AG q 0] h λw J=>w=.iface 90 x.pt/\∃v',HW J N q n v' es/\B0 (λi=>i=q\/BY v i) h J/\∀i,BY v' i->BY v i:=
 Cn f398 l λd C _=>by
  have m:=H.len;rw[Aj,Br] at m;obtain⟨b,c,rfl⟩:=H.o.lit G;obtain⟨_,D,e,o⟩:=H.o.rd.pt (i:=n) (x:=x) (by rw[Bq G,show n-es.length=0 by omega];rfl);cases e;obtain⟨p,r,s,g⟩:=Own.st (τ:=Ax) (t:=89) B H.c (i:=0) (v:=.slice (I ⟨b,0+0*1,Z⟩) (n-0) (c-0)) (HL 0) B;have j:B0 (λi=>i=q\/BY (sL b (n+1) c) i) h p:=g.ae.mono λi U=>.inl U;obtain⟨E,⟨h0,_⟩|⟨F,K,sp,e,u,M,y,k6⟩⟩:=H.o
  .cases h0
  cases e;refine⟨_,ld B (H.c.cell (i:=0) B),Pq,G,_,Dz (ld B o) (by show 0+(((n+1:Nat):Int)-1).toNat*1=0+n*1;omega),Pq,_,_,Cs (CN _) (slQ b (n+1) c n G G),_,r,B,_,⟨s,⟨by rw[A4];omega,.inr ⟨b,c,x.pt::sp,B,u,G,?_,?_⟩⟩,λf a=>(H.i f (DW _ a)).ae j λi U z=>?_,λf a=>H.ap f (DW _ a),H.q⟩,j,λi U=>U⟩
  .rw[←y];simp
  .have k:=k6.ah g (i:=q) (λe=>H.q e.symm)
   rw[BS,KA] at k;exact k
  .have:=H.ap f (DW _ a) i U
   exact z.elim this.2 this.1
def c32 (b:Base S L) {h:Y} {N q n:Nat} {v:Aa} {es:List IE} {e:IE} (H:HW h N q n v es) (j:Em Jk n es) (k:Ix h e) (m:∀i,e.am i->¬BY v i/\i≠q) (o:N<=h.nx) (p:n<26000000000000):
 Bk S L 6 32 [qp q,.iface 90 e.pt] h λ_ J=>∃(v':Aa) (a:List IE),HW J N q (n+1) v' a/\a.Perm (e::es)/\Em Jk (n+1) a/\B0 (λi=>i=q\/BY v i) h J/\∀i,BY v' i->BY v i\/h.nx<=i:=
 Cn f32 b λd x _=>by
  have g:=H.len;refine⟨_,_,Axa h q,_,AEg b H k m o p d G,?_⟩;rintro _ h1 ⟨v',f,c1,b1⟩;refine⟨_,_,(Awm h1 q).trans (mV (f.c.cell (i:=0) B)),_,Avd b f.o.rd d G,?_⟩;rintro _ _ ⟨rfl,rfl⟩;have r:UpH Jk (es++[e]) n:=by
   have:=UpH.start (le:=Jk) (l:=es) (by rw[g];exact j) e
   rwa [g] at this
  refine⟨Pq,_,(show Bk S L 5 72 [qp q,Vi (((n+1:Nat):Int)-1)] _ _ from by
   rw[show((n+1:Nat):Int)-1=(n:Int) by omega];exact c72 b f G r G) d G,?_⟩
  rintro _ y ⟨s,a,t,u,w⟩;exact⟨v',a,w,t.trans (Gm _ _),u,c1.then s λi U=>(b1 i U).imp .inr id,b1⟩
def c36 (f:Base S L) {h:Y} {N q n:Nat} {v:Aa} {es:List IE} (H:HW h N q (n+1) v es) (o:Em Jk (n+1) es) (E:n<26000000000000):
 Bk S L 6 36 [qp q] h λw J=>∃(x:IE) (v':Aa) (m:List IE),w=.iface 90 x.pt/\es.Perm (x::m)/\(∀y∈es,Jk x y)/\Em Jk n m/\HW J N q n v' m/\B0 (λi=>i=q\/BY v i) h J/\∀i,BY v' i->BY v i:=
 Cn f36 f λd aa _=>by
  have hl:=H.len;obtain⟨x,g⟩:∃x,es[0]?=I x:=⟨es[0]'G,Ab G⟩;obtain⟨y,j⟩:∃y,es[n]?=I y:=⟨es[n]'G,Ab G⟩;refine⟨_,_,(Awm h q).trans (mV (H.c.cell (i:=0) B)),_,Avd f H.o.rd d G,?_⟩;rintro _ _ ⟨rfl,rfl⟩;have r:((n+1:Nat):Int)-1=(n:Int):=G;refine⟨Pq,_,_,(Vu _ q).trans (mV (H.c.cell (i:=0) B)),_,(show Bk S L 1 396 [v,Vi ((0:Nat):Int),Vi (((n+1:Nat):Int)-1)] _ _ from by rw[r];exact Acq f H.o g j) d G,?_⟩;rintro _ h1 ⟨c1,F⟩;have s:=NM g j;have K:=H.mv c1 F s;refine⟨_,(show Bk S L 5 76 [qp q,Vi 0,Vi (((n+1:Nat):Int)-1)] _ _ from by rw[r];exact c76 f K G (KL.start o g j) G) d G,?_⟩;rintro _ M ⟨⟨b,rfl⟩,O,es2,P,Q,t,u⟩;rw[swp_get g j,Bi B] at t;have ab:=u.len;have A:es2=es2.take n++[x]:=by
   obtain⟨R,e⟩:=List.getElem?_eq_some_iff.1 t;rw[←e,←A5 R,Bj G]
  refine⟨_,_,ADi M q,_,Azz f (es:=es2.take n) (x:=x) (by rw[←A];exact u) E d G,?_⟩;rintro _ h3 ⟨rfl,v',T,c3,V⟩;refine⟨x,v',es2.take n,B,?_,λz W=>?_,λk a p X l C D=>?_,T,((c1.trans O).mono λi U=>.inr U).trans c3,V⟩
  .refine(P.trans s).symm.trans ?_
   have:=Gm x (es2.take n)
   rwa [←A] at this
  .obtain⟨k,l,e⟩:=N2 W
   exact Em.root (le:=Jk) (λa=>Ij _) Ol o g k z G (e▸Ab l)
  .rw[LS,Bi l] at C
   rw[LS,Bi G] at D;exact Q k a p X l C D
def P5 (s:A6) (lp:Nat) (nv:Aa) (rm:Nat):AH:=[AG lp 0,nv,.int .i64 s.F,.int .i64 s.T,.int .i64 s.lf,.map (I rm)]
structure Jm (h:Y) (x:Nat) (s:A6) (lp:Nat) (nv:Aa) (rm:Nat):Prop where
 c:∀(i:Nat) v,(P5 s lp nv rm)[i]?=I v->Cell h x i v
 A:EI h lp s.V
 n:Rd h nv 7 s.V.ns.length (s.V.ns.flatMap Bt)
def Jm.ext {s:A6} (X:Jm h x s lp nv rm) (e:AA h J):Jm J x s lp nv rm:=
 ⟨λi v U=>(X.c i v U).ext e,X.A.ext e,X.n.ext e⟩
def Jm.nd {s:A6} (X:Jm h x s lp (.slice A n c) rm) (b:j<s.V.ns.length):n=s.V.ns.length/\∃a,A=I a/\∀(i:Nat) v,(Bt (s.nN j))[i]?=I v->Cell h a.block (a.off+j*7+i) v:=by
 obtain⟨a,w,e,_,q⟩:=X.n.el b;cases e;rw[flatK (f:=Bt) (λ_=>rfl) s.V.ns (Ab b)] at q;have:s.nN j=s.V.ns[j]:=by unfold A6.nN Cb.nN;rw[Ak,Ab b];rfl
 rw[←this] at q;exact⟨B,a,B,λi v U=>q.at U⟩
def Jm.dq {s:A6} {a:BD} (X:Jm h x s lp (.slice (I a) n c) rm) (b:j<s.V.ns.length):BK h a.block (a.off+j*7) (Bt (s.nN j)):=by
 obtain⟨a,w,e,_,q⟩:=X.n.el b;cases e;rw[flatK (f:=Bt) (λ_=>rfl) s.V.ns (Ab b)] at q;have:s.nN j=s.V.ns[j]:=by unfold A6.nN Cb.nN;rw[Ak,Ab b];rfl
 rw[←this] at q;exact q
def Jm.lit {s:A6} (X:Jm h x s lp nv rm):∃A c,nv=.slice A s.V.ns.length c:=by
 obtain⟨_,A,c,e,_⟩:=X.n;exact⟨A,c,e⟩
def c33 (y:Base S L) {s:A6} {p:Int} (X:Jm h x s lp nv rm) (b:s.V.Ok) (a:Bo->Nat->Y->Prop) (P:∀D N H,a D N H->Jm H x s lp nv rm) (h0:∀H,AA h H->a [] H.nx H)
 (Q:∃g first cap,fv=.func (.func g) first cap/\∀D N H (j:Nat),a D N H->j∈s.kids p->D++[j]<+:s.kids p->Bk S L e g (first.toList++[Vi (j:Int)]++cap.toList) H λ_ z=>a (D++[j]) N z/\B0 (λi=>i<h.nx\/N<=i) H z):
 Bk S L (e+3) 33 [AG x 0,Vi p,fv] h λ_ J=>∃N,a (s.kids p) N J:=
 Cn f33 y λd ad hL=>by
  obtain⟨g,first,cap,rfl,R⟩:=Q
  obtain⟨ae,c2,rfl⟩:=X.lit;refine⟨_,ld B (X.c 0 _ B),_,c73 y X.A b d G,?_⟩;rintro w h1 ⟨W,o⟩;have r:=o.rd;have C:=o.ai;have E:=o.aw;have aa:=Cb.aY b p;have af:=b.len;obtain⟨F,K,rfl⟩:∃A c,w=.slice A (s.V.from_ p).length c:=by obtain⟨_,A,c,e,_⟩:=r;exact⟨A,c,e⟩
  generalize M:s.V.from_ p=l at o r aa C E;have hk:s.kids p=l.filter λj=>decide ((s.nN j).t<=s.T):=by unfold A6.kids;rw[M]
  refine⟨λO A m=>∃k:Nat,A=[(0,AG x 0),(2,.func (.func g) first cap),(13,.slice F l.length K),(14,Vi l.length),(15,Vi k)]/\k<=l.length/\O=l.length-k/\a ((l.take k).filter λj=>decide ((s.nN j).t<=s.T)) h1.nx m/\Rd m (.slice F l.length K) 1 l.length (Bn l),
   ⟨_,_,Sq,G,0,B,Al _,B,h0 h1 W,r⟩,?_⟩
  rintro O A m ⟨k,rfl,ag,rfl,j,n⟩ ah;apply Bz<;>intro k1;rotate_left
  .rw[Bj G,←hk] at j
   exact⟨_,j⟩
  have q:k<l.length:=G;obtain⟨ai,rfl,q1⟩:=n.int q;have u:=P _ _ _ j;obtain⟨f1,f2⟩:=A6.bJ b (by rw[M];exact Bu q:l[k]∈s.V.from_ p);obtain⟨_,a2,rfl,q2⟩:=u.nd f1;have st:(l.take (k+1)).filter (λj=>decide ((s.nN j).t<=s.T))=(l.take k).filter (λj=>decide ((s.nN j).t<=s.T))++if(s.nN l[k]).t<=s.T then[l[k]] else[]:=by
   rw[A5 q,O6];congr 1;by_cases f:(s.nN l[k]).t<=s.T
   .rw[Bi f,W8 (by exact decide_eq_true f)];rfl
   .rw[Bm f,W9 (by rw[decide_eq_true_iff];exact f)];rfl
  refine⟨G,_,ld B q1,[],Kq,_,ld B (u.c 1 _ B),G,_,Dz (ld B (q2 1 _ B)) (by show a2.off+((l[k]:Nat):Int).toNat*7+1=_;omega),_,ld B (u.c 3 _ B),Bz (λv=>?_) (λv=>?_)⟩
  .rw[Bi v] at st
   refine⟨_,R _ _ _ _ j Jq Jq d G,?_⟩;rintro _ h2 ⟨j2,ab⟩;exact⟨Pq,_,_,Sq,G,k+1,B,G,B,Jq,n.ae ab λi U hw=>by
    have:=C i U;have:=E i U;omega⟩
  .rw[Bm v,Fb] at st
   exact⟨Pq,_,_,Sq,G,k+1,B,G,B,by rw[st];exact j,n⟩
def Hs:List (Nat×Int)->Nat->Option Int
 |[],_=>Z
 |p::l,k=>if p.1=k then I p.2 else Hs l k
def U1 (k:Nat) (z:Int):List (Nat×Int)->List (Nat×Int)
 |[]=>[(k,z)]
 |p::l=>if p.1=k then(k,z)::l else p::U1 k z l
def TP (k:Nat) (z:Int) (j:Nat):∀l,Hs (U1 k z l) j=if j=k then I z else Hs l j
 |
  []=>by
  rw[U1,Hs,Hs];by_cases h:j=k
  .rw[Bi h.symm,Bi h]
  .rw[Bm (λe=>h e.symm),Bm h];rfl
 |
  p::l=>by
  rw[U1];split
  .rename_i h1
   rw[Hs,Hs];by_cases h:j=k
   .rw[Bi h.symm,Bi h]
   .rw[Bm (λe=>h e.symm),Bm h,Bm G]
  .rename_i h1
   rw[Hs,Hs,TP k z j l];by_cases h:j=k
   .rw[Bm G,Bi h,Bi h]
   .rw[Bm h,Bm h]
def FG (h:Y) (r:Nat) (l:List (Nat×Int)):Prop:=r<h.nx/\∃es ck,h.t.get r=I (.map es ck)/\es.map (λe:Ap=>(e.key,e.val))=l.map λp=>(AL .i64 (p.1:Int),AL .i64 p.2)
def FG.ae {W:Nat->Prop} {h J:Y} {r:Nat} {l:List (Nat×Int)} (m:FG h r l) (c:B0 W h J) (a:¬W r):FG J r l:=⟨AC m.1 c.nx,by rw[c.t r m.1 a];exact m.2⟩
def FG.ext {h J:Y} {r:Nat} {l:List (Nat×Int)} (m:FG h r l) (c:AA h J):FG J r l:=m.ae (c.ae λ_=>False) λh=>h
def FG.aa {h J:Y} {r:Nat} {l:List (Nat×Int)} (m:FG J r l):FG (h.aa J) r l:=by
 unfold FG;rw[CL,DF];exact m
def Adr (k:Nat) (z:Int):∀(es:List Ap) (l:List (Nat×Int)) (i ck:Nat),es.map (λe:Ap=>(e.key,e.val))=l.map (λp=>(Vi (p.1:Int),Vi p.2))->
 (CE Ax 3 (Vi k) es i=I Z/\Hs l k=Z/\(es++[({key:=Vi k,val:=Vi z,born:=ck}:Ap)]).map (λe:Ap=>(e.key,e.val))=(U1 k z l).map λp=>(Vi (p.1:Int),Vi p.2))\/
 ∃j e y,CE Ax 3 (Vi k) es i=I (I (i+j,e))/\e.val=Vi y/\Hs l k=I y/\Cy e.key (Vi k)=Ag/\(Cu es j λe=>{e with key:=Vi k,val:=Vi z}).map (λe:Ap=>(e.key,e.val))=(U1 k z l).map λp=>(Vi (p.1:Int),Vi p.2)
 |[],[],i,ck,_=>.inl ⟨B,B,B⟩
 |[],_::_,_,_,h=>by cases h
 |_::_,[],_,_,h=>by cases h
 |
  e::es,p::l,i,ck,h=>by
  simp only[Bp,List.cons.injEq,Prod.mk.injEq] at h;obtain⟨⟨h1,b⟩,c⟩:=h;have d:IZ Ax Op.maxDepth 3 (Vi (k:Int)) (Vi (p.1:Int))=I ((k:Int)==(p.1:Int)):=rfl;rw[CE,h1,d,U1,Hs];by_cases a:p.1=k
  .rw[show((k:Int)==(p.1:Int))=Ag by simp[a],Bi a,Bi a]
   refine .inr ⟨0,e,p.2,B,b,B,?_,?_⟩
   .rw[h1,a];show(Ag&&decide ((k:Int)=k))=Ag;simp
   .simp[Cu,c]
  .rw[show((k:Int)==(p.1:Int))=Ah by simp;omega,Bm a,Bm a]
   rcases Adr k z es l (i+1) ck c with⟨f1,f0,f2⟩|⟨j,f,y,f1,f2,f3,f4,f5⟩
   .refine .inl ⟨f1,f0,?_⟩
    simp only[KB,Bp,h1,b,f2]
   .refine .inr ⟨j+1,f,y,by rw[show i+(j+1)=i+1+j by omega];exact f1,f2,f3,f4,?_⟩
    simp only[Cu,Bp,h1,b,f5]
def YO {h:Y} {r:Nat} {l:List (Nat×Int)} (m:FG h r l) (k:Nat):BW Ax 85 (.map (I r)) (Vi k) Ag h=I (.tuple #[Vi ((Hs l k).getD 0),.bool (Hs l k).isSome]):=by
 obtain⟨_,es,ck,h1,c⟩:=m;have a:Ax.ds.get 85=I (.map 3 3):=by rfl
 have d:CP Ax 3=I (Vi 0):=Kq;have b:Do Ax 5 3 (Vi (k:Int))=true:=by rfl
 unfold BW;rcases Adr k 0 es l 0 0 c with⟨f1,f2,_⟩|⟨j,e,y,f1,f2,f3,_⟩
 .simp only[a,b,D1,h1,f1,d,f2];rfl
 .simp only[a,b,D1,h1,f1,f2,f3];rfl
def Anp {h:Y} {r:Nat} {l:List (Nat×Int)} (m:FG h r l) (k:Nat) (z:Int):∃J,BH Ax 85 (.map (I r)) (Vi k) (Vi z) h=I J/\FG J r (U1 k z l)/\Er r h J:=by
 obtain⟨a,es,ck,h1,d⟩:=m;have b:Ax.ds.get 85=I (.map 3 3):=by rfl
 have c:Do Ax 5 3 (Vi (k:Int))=true:=by rfl
 unfold BH;rcases Adr k z es l 0 ck d with⟨f1,_,f2⟩|⟨j,e,y,f1,_,_,f5,f6⟩
 .refine⟨h.put r (.map (es++[({key:=Vi k,val:=Vi z,born:=ck}:Ap)]) (ck+1)),by simp only[b,c,D1,h1,f1],⟨by rw[Cc];exact a,_,_,by rw[BQ,Bi B],f2⟩,Er.put _ _ _⟩
 .rw[Ba] at f1
  exact⟨h.put r (.map (Cu es j λe=>{e with key:=Vi k,val:=Vi z}) ck),by simp only[b,c,D1,h1,f1,f5],⟨by rw[Cc];exact a,_,_,by rw[BQ,Bi B],f6⟩,Er.put _ _ _⟩
def Lp (l:List (Nat×Int)):Prop:=∀k z,Hs l k=I z->-5000000<=z/\z<=5000000
def c71 (v:Base S L) {h:Y} {w y x:Nat} {s:A6} {lp:Nat} {nv:Aa} {rm i j:Nat} {l:List (Nat×Int)} (o:Cell h w 0 (AG x 0)) (z:Cell h y 0 (Vi i)) (X:Jm h x s lp nv rm) (p:s.V.Ok) (M:FG h rm l) (F:Lp l) (q:j<s.V.ns.length):
 Bk S L 6 71 [Vi j,AG w 0,AG y 0] h λ_ J=>∃l',FG J rm l'/\B0 (·=rm) h J/\∀k,Hs l' k=if k=i then s.ax (Hs l) i (Hs l i) j else Hs l k:=
 Cn f71 v λd Q R=>by
  obtain⟨T,W,rfl⟩:=X.lit;obtain⟨_,H,rfl,q2⟩:=X.nd q;have aa:=AT (AA.refl h);refine⟨_,ld B o,_,ld B (X.c 5 _ B),_,_,Cs (CN _) (YO M j),?_⟩;cases r:Hs l j with
  |
   none=>
   refine⟨_,_,B,l,M,(AA.refl h).ae _,λk=>?_⟩;have:s.ax (Hs l) i (Hs l i) j=Hs l i:=by unfold A6.ax;rw[r]
   rw[this];split
   .rename_i e;rw[e]
   .rfl
  |
   some m=>
   have hm:=F j m r;have he:=Cb.aR p X.A i j;have hc:=(p.inv.ok _ (A6.mem (s:=s) q)).2.2.1;refine⟨_,_,B,[],Kq,_,ld B o,_,ld B (X.c 0 _ B),_,ld B z,_,c38 (h:=h.ad) v (X.A.ext (AA.ad h)) p d G,?_⟩;rintro _ b ⟨a,rfl⟩;refine⟨a.ag,?_⟩;have a:AA h (h.aa b):=a.aa;have g:=X.ext a;obtain⟨_,a3,K,N⟩:=g.nd q;cases K;have t:=M.ext a;have n:=o.ext a;have u:=z.ext a;refine⟨_,ld B n,_,ld B (g.c 1 _ B),G,_,Dz (ld B (N 5 _ B)) (by show H.off+((j:Nat):Int).toNat*7+5=_;omega),Pq,⟨by show _<=s.V.aW i j+(s.nN j).c+m;omega,by show s.V.aW i j+(s.nN j).c+m<=_;omega⟩,?_⟩;refine⟨[],Kq,_,ld B n,_,ld B (g.c 5 _ B),_,ld B u,_,_,Cs (CN _) (YO (h:=(h.aa b).ad) (show FG (h.aa b) rm l from t) i),?_⟩;obtain⟨C,O,D,P⟩:=Anp (h:=(h.aa b).ad) (show FG (h.aa b) rm l from t) i (s.via i j+m);have E:Nb (BH Ax 85 (.map (I rm)) (Vi i) (Vi (s.V.aW i j+(s.nN j).c+m)) (h.aa b).ad)=I (.tuple #[],C):=Cs Nb O;have c4:B0 (·=rm) h ((h.aa b).aa C):=(a.ae _).trans P.aa.ae;have st:s.ax (Hs l) i (Hs l i) j=match Hs l i with|none=>I (s.via i j+m)|some old=>if s.via i j+m<old then I (s.via i j+m) else I old:=by unfold A6.ax;rw[r]
   cases U:Hs l i with
   |
    none=>
    rw[U] at st;have st:s.ax (Hs l) i Z j=I (s.via i j+m):=st;exact⟨_,_,B,[],Kq,_,ld B n,_,ld B (g.c 5 _ B),_,ld B u,_,_,E,_,D.aa,c4,λk=>by rw[TP,st]⟩
   |
    some old=>
    rw[U] at st;have st:s.ax (Hs l) i (I old) j=(if s.via i j+m<old then I (s.via i j+m) else I old):=st
    refine⟨_,_,B,Ad (λf=>?_) (λf=>?_)⟩
    .have f:s.via i j+m<old:=Fp f
     rw[Bi f] at st;exact⟨[],Kq,_,ld B n,_,ld B (g.c 5 _ B),_,ld B u,_,_,E,_,D.aa,c4,λk=>by rw[TP,st]⟩
    .have f:¬s.via i j+m<old:=KK f
     rw[Bm f] at st;refine⟨l,t,a.ae _,λk=>?_⟩;rw[st];split
     .rename_i e;rw[e,U]
     .rfl
def A6.ce {s:A6} {i a:Nat} (h:(s.nN i).t=s.T-a):∀t,t<=a->s.R t i=Z
 |0,_=>rfl
 |t+1,b=>by rw[A6.R,Bm G];exact A6.ce h t G
structure SrB (h0:Y) (s:A6) (lp:Nat) (nv:Aa) (rm:Nat):Prop where
 ok:s.V.Ok
 A:EI h0 lp s.V
 n:Rd h0 nv 7 s.V.ns.length (s.V.ns.flatMap Bt)
 rm:h0.nx<=rm
 F:0<=s.F/\s.F<s.T/\s.T<=s.V.fs.length
def SrB.at_ {h0 h a:Y} {x:Nat} {s:A6} {lp:Nat} {nv:Aa} {rm:Nat} (b:SrB h0 s lp nv rm) (e:AA h0 h) {W:Nat->Prop} (c:B0 W h a) (d:∀i,W i->h0.nx<=i) (f:¬W x) (g:∀(i:Nat) v,(P5 s lp nv rm)[i]?=I v->Cell h x i v):Jm a x s lp nv rm:=
 have E:=e.then c d
 ⟨λi v U=>(g i v U).ae c f,b.A.ext E,b.n.ext E⟩
def c29 (ab:Base S L) {h0 h:Y} {x:Nat} {s:A6} {lp:Nat} {nv:Aa} {rm:Nat} (b:SrB h0 s lp nv rm) (e0:AA h0 h) (hx:x≠rm) (cx:∀(i:Nat) v,(P5 s lp nv rm)[i]?=I v->Cell h x i v) (M:FG h rm []):
 Bk S L 11 29 [AG x 0] h λ_ J=>B0 (·=rm) h J/\∃l,FG J rm l/\∀k,Hs l k=s.rest k:=
 Cn f29 ab λd a7 hL=>by
  have w:=b.ok;have hF:=b.F;have hN:=w.N;have a8:=w.len;have aq:=b.rm;obtain⟨g1,y1,W⟩:=(Sep.nil h).box Ax 83 (AG x 0);have o1:Own g1 h.nx 83 [AG x 0]:=W.dD (i:=0) B;obtain⟨g,ar⟩:∃g,g=h.nx:=⟨_,B⟩;rw[←ar] at o1 y1;have a9:rm<h.nx:=M.1;have ae:g≠rm:=G;have P:∀{E:Y},B0 (·=rm) h E->Jm E x s lp nv rm:=λc=>b.at_ e0 c (λi U=>by rw[show i=rm from U];exact aq) hx cx;have n:Cell g1 g 0 (AG x 0):=o1.cell (i:=0) B;have af:=P (W.e.ae _);obtain⟨au,c2,rfl⟩:=af.lit;refine⟨_,_,y1,_,ld B n,_,ld B (af.c 3 _ B),?_⟩;refine⟨λμ A E=>∃(t:Nat) (l:List (Nat×Int)),A=[(1,AG g 0),(2,Vi (s.T-t))]/\t<=(s.T-s.F).toNat/\μ=(s.T-s.F).toNat-t/\FG E rm l/\(∀k,Hs l k=s.R t k)/\B0 (·=rm) h E/\Cell E g 0 (AG x 0),
   ⟨_,_,Sq,G,0,[],B,Al _,B,M.ext W.e,λ_=>rfl,W.e.ae _,n⟩,?_⟩
  clear M y1 W o1 af n;rintro μ A E ⟨t,l,rfl,ht,rfl,M,p,c,n⟩ aj;have X:=P c;refine⟨_,ld B n,_,ld B (X.c 2 _ B),Bz (λk1=>?_) (λk1=>?_)⟩;rotate_left
  .refine⟨c,l,M,λk=>?_⟩
   rw[p,show t=(s.T-s.F).toNat by omega];rfl
  have rs:∀i,s.R (t+1) i=if i<s.V.ns.length/\(s.nN i).t=s.T-t/\s.F<=(s.nN i).f then(if t=0 then I (s.V.leave i s.lf) else(s.kids (s.T-t)).foldl (s.ax (s.R t) i) Z) else s.R t i:=λi=>by rw[A6.R]
  refine⟨_,ld B n,_,ld B (X.c 1 _ B),?_⟩;refine⟨λμ A a=>∃(i:Nat) (l:List (Nat×Int)),A=[(1,AG g 0),(2,Vi (s.T-t)),(22,.slice au s.V.ns.length c2),(23,Vi s.V.ns.length),(24,Vi i)]/\i<=s.V.ns.length/\μ=s.V.ns.length-i/\FG a rm l/\(∀k,Hs l k=if k<i then s.R (t+1) k else s.R t k)/\B0 (·=rm) h a/\Cell a g 0 (AG x 0),
   ⟨_,_,Sq,G,0,l,B,Al _,B,M,λk=>by rw[p,Bm G],c,n⟩,?_⟩
  clear M p c n X aj;rintro μ A a ⟨i,l,rfl,U,rfl,M,p,c,n⟩ aj;apply Bz<;>intro k2;rotate_left
  .refine⟨Pq,_,_,Sq,G,t+1,l,B,G,B,M,λk=>?_,c,n⟩
   rw[p];split
   .rfl
   .rw[rs,Bm G]
  have ag:i<s.V.ns.length:=G;have X:=P c;obtain⟨_,Q,rfl,q2⟩:=X.nd ag;have av:Bw Ax 93 a Q.block (Q.off+(i:Int).toNat*7)=I (.agg ⟨Bt (s.nN i)⟩):=EQ (k:=7) Kq (show BK a Q.block (Q.off+(i:Int).toNat*7) (Bt (s.nN i)) from X.dq ag) B;have go:∀{y:Y} (l':List (Nat×Int)),FG y rm l'->(∀k,Hs l' k=if k<i+1 then s.R (t+1) k else s.R t k)->B0 (·=rm) h y->Cell y g 0 (AG x 0)->∀{A:As},Sub [(1,AG g 0),(2,Vi (s.T-t)),(22,.slice (I Q) s.V.ns.length c2),(23,Vi s.V.ns.length),(24,Vi ((i+1:Nat):Int))] A->
   ∃m' A0,Sub A0 A/\m'<s.V.ns.length-i/\∃(i:Nat) (l:List (Nat×Int)),A0=[(1,AG g 0),(2,Vi (s.T-t)),(22,.slice (I Q) s.V.ns.length c2),(23,Vi s.V.ns.length),(24,Vi i)]/\i<=s.V.ns.length/\m'=s.V.ns.length-i/\FG y rm l/\(∀k,Hs l k=if k<i then s.R (t+1) k else s.R t k)/\B0 (·=rm) h y/\Cell y g 0 (AG x 0):=
   λl' M p c n A aw=>⟨_,_,aw,(show s.V.ns.length-(i+1)<s.V.ns.length-i by omega),i+1,l',B,G,B,M,p,c,n⟩
  have ak:s.R (t+1) i=s.R t i->∀k,Hs l k=if k<i+1 then s.R (t+1) k else s.R t k:=λe k=>by
   rw[p];by_cases h1:k<i
   .rw[Bi h1,Bi G]
   .by_cases a:k=i
    .subst a;rw[Bm h1,Bi G,e]
    .rw[Bm h1,Bm G]
  obtain⟨g3,y3,s3⟩:=(Sep.nil a).al (t:=3) (z:=Vi 0) Kq;obtain⟨g4,y4,s4⟩:=s3.al (t:=93) (z:=.agg ⟨Bt DS⟩) Kq;obtain⟨g5,y5,s5⟩:=s4.st (t:=3) B (i:=1) B (j:=0) (v:=Vi i) (HL 0) B;obtain⟨r,u6,o6,x6⟩:=Own.bD (τ:=Ax) (t:=93) (k:=7) Kq (s5.dD (i:=0) B) (i:=0) (vs:=Bt (s.nN i)) B (by show 0+7<=7;decide) B;have s6:=s5.ah (i:=0) (a':=aO g3.nx 93 (Bt (s.nN i))) B x6.ae o6 λx hx=>.inl hx;obtain⟨ib,al⟩:∃ib,ib=a.nx:=⟨_,B⟩;obtain⟨nb,am⟩:∃nb,nb=g3.nx:=⟨_,B⟩;have ci:Cell r ib 0 (Vi i):=by rw[al];exact(s6.dD (i:=1) B).cell (i:=0) B
  have cn:∀(k:Nat) v,(Bt (s.nN i))[k]?=I v->Cell r nb k v:=λk v hk=>by rw[am];exact(s6.dD (i:=0) B).cell hk
  have ax:ib≠rm:=by have:=M.1;omega
  rw[←al] at y3 y5;rw[←am] at y4 u6;have x6:AA a r:=s6.e;clear s6 s5 s4 s3 o6;have aa:=M.ext x6;have K:=c.trans (x6.ae _);have q:=n.ext x6;have u:=P K;refine⟨G,_,av,_,_,y3 _,_,_,y4 _,_,y5,_,u6,[],Kq,_,ld B (cn 1 _ B),Ad (λC=>?_) (λC=>?_)⟩
  .have C:¬(s.nN i).t=s.T-t:=by simpa using C
   exact⟨Pq,go l aa (ak (by rw[rs,Bm (λh=>C h.2.1)])) K q (Sq)⟩
  have C:(s.nN i).t=s.T-t:=by simpa using C
  refine⟨_,ld B (cn 0 _ B),_,ld B q,_,ld B (u.c 2 _ B),Bz (λk4=>?_) (λk4=>?_)⟩
  .exact⟨Pq,go l aa (ak (by rw[rs,Bm G])) K q (Sq)⟩
  have ri:=rs i;rw[Bi ⟨ag,C,G⟩] at ri;have done:∀{l':List (Nat×Int)} {z:Option Int},(∀k,Hs l' k=if k=i then z else Hs l k)->z=s.R (t+1) i->∀k,Hs l' k=if k<i+1 then s.R (t+1) k else s.R t k:=λh1 a k=>by
   rw[h1,p];by_cases e:k=i
   .subst e;rw[Bi B,Bi G,a]
   .rw[Bm e]
    by_cases e1:k<i
    .rw[Bi e1,Bi G]
    .rw[Bm e1,Bm G]
  refine⟨_,ld B q,_,ld B (u.c 3 _ B),Bz (λk5=>?_) (λk5=>?_)⟩
  .rw[Bi G] at ri
   refine⟨[],Kq,_,ld B q,_,ld B (u.c 5 _ B),_,ld B ci,_,ld B q,_,ld B (u.c 0 _ B),_,ld B ci,_,ld B q,_,ld B (u.c 4 _ B),_,c70 (h:=r.ad) ab (u.A.ext (AA.ad r)) d G,?_⟩;rintro _ h7 ⟨x7,rfl⟩;have ah:AA r (r.aa h7):=x7.aa;obtain⟨h8,u8,m8,x8⟩:=Anp (h:=(r.aa h7).ad) (show FG (r.aa h7) rm l from aa.ext ah) i (s.V.leave i s.lf);refine⟨x7.ag,_,_,Cs Nb u8,Pq,go _ m8.aa (done (λk=>TP _ _ k l) ri.symm) ((K.trans (ah.ae _)).trans x8.aa.ae) ((q.ext ah).ah x8.aa ae) (Sq)⟩
  .have ay:t≠0:=λe=>k5 G
   rw[Bm ay] at ri;have az:Hs l i=none:=by rw[p,Bm G];exact A6.ce C t (Ae _)
   have an:∀j,j∈s.kids (s.T-t)->j<s.V.ns.length/\j≠i/\Hs l j=s.R t j:=λj hj=>by
    obtain⟨h1,a,y,h4⟩:=A6.cj w hj;have a0:j≠i:=λe=>by rw[e] at y;omega
    refine⟨h1,a0,?_⟩;rw[p];split
    .rw[rs,Bm G]
    .rfl
   have a1:∀k,Hs l k=if k=i then([]:Bo).foldl (s.ax (s.R t) i) Z else Hs l k:=λk=>by
    split
    .rename_i e;rw[e,az];rfl
    .rfl
   have ao:=λk z=>A6.a9 w u.A t k z;refine⟨_,ld B q,_,c33 (e:=6) ab u w (λD N H=>(∀j∈D,j∈s.kids (s.T-t))/\B0 (·=rm) r H/\∃l',FG H rm l'/\∀k,Hs l' k=if k=i then D.foldl (s.ax (s.R t) i) Z else Hs l k)
    (λD N H j=>P (K.trans j.2.1)) (λH x=>⟨(λ_ h=>by cases h),x.ae _,l,aa.ext x,a1⟩)
    ⟨71,#[],#[AG g 0,AG ib 0],B,?_⟩ d G,?_⟩
   .rintro D N H j ⟨hD,cH,l',m',ad⟩ hj _
    obtain⟨j1,j2,j3⟩:=an j hj;have sm:Lp l':=λk z O=>by
     rw[ad] at O;split at O
     .rcases((A6.fold _ _).2 z O).2.2 with h1|⟨R,ai,m,hm,rfl⟩
      .cases h1
      .have h1:=ao R m hm
       have a:=Cb.aR w u.A i R;have y:=(w.inv.ok _ (A6.mem (s:=s) (an R (hD R ai)).1)).2.2.1;unfold A6.via;omega
     .rw[p] at O
      split at O
      .have:=A6.a9 w u.A _ _ _ O;omega
      .have:=ao _ _ O;omega
    refine(c71 ab (q.ae cH ae) (ci.ae cH ax) (P (K.trans cH)) w m' sm j1).mono ?_;rintro _ H' ⟨a2,a3,ap,a4⟩;have a5:∀o,s.ax (Hs l') i o j=s.ax (s.R t) i o j:=λo=>by unfold A6.ax;rw[ad,Bm j2,j3]
    refine⟨⟨λR ai=>(List.mem_append.1 ai).elim (hD R) λe=>by rw[List.mem_singleton.1 e];exact hj,cH.trans ap,a2,a3,λk=>?_⟩,ap.mono λk hk=>.inl (by have:=aa.1;omega)⟩;rw[a4,K1];split
    .rename_i e
     subst e;rw[a5,ad,Bi B];rfl
    .rename_i e
     rw[ad,Bm e]
   .rintro _ h8 ⟨N,hD,c8,l',m8,a6⟩
    exact⟨Pq,go l' m8 (done a6 ri.symm) (K.trans c8) (q.ae c8 ae) (Sq)⟩
def AEt (a b:Bd):(⟨⟨a.data.toList++b.data.toList⟩⟩:Bd)=a++b:=by
 have e:(a++b).data=⟨a.data.toList++b.data.toList⟩:=Et (by rw[ByteArray.bF]);cases h:a++b with
 |mk d=>rw[h] at e;rw[←e]
def ZS {ox oy:BU} (a b:Bd) (h:a.size+b.size<=1000000):Jo Ax .add 9 ox oy (Sg a) (Sg b)=I (Sg (a++b)):=by
 rw[←AEt];show(bif Ar (a.size+b.size) 1099511627776 then I (Sg (EY (a.data.toList++b.data.toList))) else Z)=_
 rw[Aq G];rfl
def A6.b4 (s:A6) (p:Option Ed) (j:Nat) (a m:Int):Ed:=match p with
 |none=>⟨[j],a+(s.nN j).c,a+(s.nN j).c+m,(s.nN j).s,Ah⟩
 |some p=>⟨p.ns++[j],a+(s.nN j).c+p.c,a+(s.nN j).c+p.c+m,p.tx++(s.nN j).s,Ah⟩
def Hr (h J:Y) (N q:Nat) (v:Aa) (es:List IE) (b:List Ed):Prop:=∃(n:Nat) (v':Aa) (a:List IE),HW J N q n v' a/\Em Jk n a/\(a.map IE.P).Perm (b++es.map IE.P)/\B0 (λi=>i=q\/BY v i) h J/\(∀i,BY v' i->BY v i\/h.nx<=i)/\∀e∈a,e∈es\/∀i,e.am i->h.nx<=i
def V9 (j:Base S L) {h g:Y} {N q n:Nat} {v:Aa} {es:List IE} {e:IE} (H:HW h N q n v es) (k:Em Jk n es) (x:AA h g) (a:Ix g e) (d:∀i,e.am i->h.nx<=i) (l:N<=h.nx) (m:n<26000000000000):
 Bk S L 6 32 [qp q,.iface 90 (AG e.b 0)] g λ_ J=>Hr h J N q v es [e.P]:=by
 have hb:∀i,BY v i->i<h.nx:=H.o.aw;have y:=H.c.1;have o:HW g N q n v es:=⟨H.c.ext x,H.o.ext x,λe a=>(H.i e a).ext x,H.ap,H.q⟩;refine(c32 j o k a (λi U=>⟨λh1=>by have:=d i U;have:=hb i h1;omega,by have:=d i U;omega⟩) (Ao l x.nx) m).mono ?_;rintro _ J ⟨v',p,r,f,s,t,u⟩;exact⟨n+1,v',p,r,s,by simpa using f.map IE.P,(x.ae _).trans t,λi U=>(u i U).imp id λh=>Ao x.nx h,λz w=>(List.mem_cons.1 (f.mem_iff.1 w)).elim (λh=>.inr (h▸d)) .inl⟩
def AEb (g:Base S L) {h:Y} {sb x:Nat} {s:A6} {lp:Nat} {nv:Aa} {rm j N q n:Nat} {l:List (Nat×Int)} {a:Int} {v:Aa} {es:List IE} (cs:Cell h sb 0 (AG x 0)) (X:Jm h x s lp nv rm) (A:s.V.Ok) (M:FG h rm l) (o:∀k,Hs l k=s.rest k) (C:Lp l) (p:j<s.V.ns.length)
 (r:-30000<=a/\a<=30000) (H:HW h N q n v es) (u:Em Jk n es) (D:N<=h.nx) (E:n<26000000000000):
 Bk S L 7 30 [.pointer Z,Vi j,Vi a,AG sb 0,AG q 0] h λ_ J=>Hr h J N q v es ((s.rest j).map (s.b4 Z j a)).toList:=
 Cn f30 g λd R T=>by
  obtain⟨W,c2,rfl⟩:=X.lit;obtain⟨_,w,rfl,F⟩:=X.nd p;have hc:=(A.inv.ok _ (A6.mem (s:=s) p)).2.2.1;refine⟨_,ld B cs,_,ld B (X.c 5 _ B),_,_,Cs (CN _) (YO M j),?_⟩;rw[o];cases K:s.rest j with
  |none=>exact⟨_,_,B,n,v,es,H,u,List.Perm.refl _,(AA.refl h).ae _,λi U=>.inl U,λe r=>.inl r⟩
  |
   some m=>
   have hm:=C j m (by rw[o,K]);have hg:(I m).getD (0:Int)=m:=rfl;have b:=AA.row h 3 [Vi (j:Int)];have O:=Own.row h 3 [Vi (j:Int)];have y:=X.ext b;have z:=λi v U=>(F i v U).ext b;obtain⟨g2,P,f⟩:=(Sep.nil (BN h 3 [Vi (j:Int)])).box Ax 96 (.agg #[sL h.nx 1 1,Vi (a+(s.nN j).c),Vi (a+(s.nN j).c+m),Sg (s.nN j).s,.bool Ah]);have ob:=f.dD (i:=0) B;have Q:=b.trans f.e;refine⟨_,_,B,_,_,Iv (τ:=Ax) (t:=48) (e:=3) (k:=1) Kq (Vi (j:Int)) B B (by decide) h,_,ld B (cs.ext b),_,ld B (y.c 1 _ B),G,_,Dz (ld B (z 2 _ B)) (by show w.off+(j:Int).toNat*7+2=_;omega),_,ld B (cs.ext b),_,ld B (y.c 1 _ B),G,_,Dz (ld B (z 5 _ B)) (by show w.off+(j:Int).toNat*7+5=_;omega),Pq,_,B,Pq,_,_,P,_,V9 g (e:=⟨(BN h 3 [Vi (j:Int)]).nx,sL h.nx 1 1,s.b4 Z j a m⟩) H u Q ⟨λi v U=>ob.cell U,((Own.bN (N:=0) (n:=1) (k:=1) O B (Al _)).rd).ext f.e,Ac B⟩ ?_ D E d G,?_⟩
   .rintro i (U|U)
    .rw[U];exact b.nx
    .rw[show i=h.nx from U];exact Ae _
   .exact λ_ _ h=>h
def AEy (g:Base S L) {h:Y} {sb x:Nat} {s:A6} {lp:Nat} {nv:Aa} {rm j N q n:Nat} {l:List (Nat×Int)} {a:Int} {v:Aa} {es:List IE} {p:IE} (cs:Cell h sb 0 (AG x 0)) (X:Jm h x s lp nv rm) (F:s.V.Ok) (M:FG h rm l) (K:∀k,Hs l k=s.rest k) (sm:Lp l) (o:j<s.V.ns.length)
 (O:-30000<=a/\a<=30000) (Q:Ix h p) (ah:p.P.ns.length<=1000) (ai:p.P.tx.size<=20000) (aj:-100000000<=p.P.c/\p.P.c<=100000000) (H:HW h N q n v es) (R:Em Jk n es) (hN:N<=h.nx) (hn:n<26000000000000):
 Bk S L 7 30 [AG p.b 0,Vi j,Vi a,AG sb 0,AG q 0] h λ_ J=>Hr h J N q v es ((s.rest j).map (s.b4 (I p.P) j a)).toList:=
 Cn f30 g λd ak hL=>by
  obtain⟨al,c2,rfl⟩:=X.lit;obtain⟨_,T,rfl,q2⟩:=X.nd o;have hc:=(F.inv.ok _ (A6.mem (s:=s) o)).2.2.1;have W:=(F.inv.ok _ (A6.mem (s:=s) o)).2.2.2;have W:(s.nN j).s.size<=256:=W;refine⟨_,ld B cs,_,ld B (X.c 5 _ B),_,_,Cs (CN _) (YO M j),?_⟩;rw[K];cases hr:s.rest j with
  |none=>exact⟨_,_,B,n,v,es,H,R,List.Perm.refl _,(AA.refl h).ae _,λi U=>.inl U,λe O=>.inl O⟩
  |
   some m=>
   have hm:=sm j m (by rw[K,hr]);have hg:(I m).getD (0:Int)=m:=rfl;have f:=AA.row h 3 [Vi (j:Int)];have aa:=X.ext f;have p1:=Q.ext f;have q1:=λi v U=>(q2 i v U).ext f;refine⟨_,_,B,_,_,Iv (τ:=Ax) (t:=48) (e:=3) (k:=1) Kq (Vi (j:Int)) B B (by decide) h,_,ld B (cs.ext f),_,ld B (aa.c 1 _ B),G,_,Dz (ld B (q1 2 _ B)) (by show T.off+(j:Int).toNat*7+2=_;omega),_,ld B (cs.ext f),_,ld B (aa.c 1 _ B),G,_,Dz (ld B (q1 5 _ B)) (by show T.off+(j:Int).toNat*7+5=_;omega),Pq,_,B,
    _,ld B (p1.c 0 _ B),_,c31 g p1.n G d G,?_⟩
   rintro w h2 ⟨r,u⟩;have ab:=f.trans r;have y:=f.nx;obtain⟨v3,z,t3,A,ad,C⟩:=Tz (τ:=Ax) (st:=48) (t2:=48) (e:=3) (k:=1) Kq u (ys:=[Vi (j:Int)]) B B r.nx G;have D:AA h z:=ab.then ad λi U=>Ao y (u.ai i U)
   have p3:=Q.ext D;have ae:Bn p.P.ns++[Vi (j:Int)]=Bn (p.P.ns++[j]):=by simp[Bn]
   rw[ae] at A;have C:∀i,BY v3 i->h.nx<=i:=λi U=>(C i U).elim (λh=>Ao y (u.ai i h)) λh=>Ao y (Ao r.nx h);obtain⟨bb,cc,rfl⟩:=A.lit G;obtain⟨g4,y4,E⟩:=(Sep.nil z).box Ax 96 (.agg #[sL bb (p.P.ns.length+1) cc,Vi (a+(s.nN j).c+p.P.c),Vi (a+(s.nN j).c+p.P.c+m),Sg (p.P.tx++(s.nN j).s),.bool Ah]);have af:=D.trans E.e;have ob:=E.dD (i:=0) B;have ag:(p.P.ns++[j]).length=p.P.ns.length+1:=by simp
   refine⟨_,_,Iv (τ:=Ax) (t:=48) (e:=3) (k:=1) Kq (Vi (j:Int)) B B (by decide) h2,_,_,t3,_,ld B (p3.c 3 _ B),Sg (p.P.tx++(s.nN j).s),ZS _ _ G,_,ld B (p3.c 1 _ B),Pq,Pq,_,_,y4,_,V9 g (e:=⟨z.nx,sL bb (p.P.ns.length+1) cc,s.b4 (I p.P) j a m⟩) H R af ⟨λi v U=>ob.cell U,?_,by show(p.P.ns++[j]).length<=_;omega⟩ ?_ hN hn d G,?_⟩
   .show Rd g4 _ 1 (p.P.ns++[j]).length (Bn (p.P.ns++[j]))
    rw[ag];exact A.rd.ext E.e
   .rintro i (U|U)
    .rw[U];exact D.nx
    .exact C i U
   .exact λ_ _ h=>h
def HW.ext {es:List IE} (H:HW h N q n v es) (x:AA h J):HW J N q n v es:=⟨H.c.ext x,H.o.ext x,λe a=>(H.i e a).ext x,H.ap,H.q⟩
def HW.aa {es:List IE} (H:HW J N q n v es):HW (h.aa J) N q n v es:=
 ⟨H.c.aa,H.o.aa,λe a=>⟨λi v U=>((H.i e a).c i v U).aa,(H.i e a).n.aa,(H.i e a).l⟩,H.ap,H.q⟩
def Hr.ok {es:List IE} {a:List Ed} (H:HW h N q n v es) (p:Hr h.ad J N q v es a):N5 h J.lo:=by
 obtain⟨_,_,_,_,_,_,c,_⟩:=p;refine c.de λi U=>.inl ?_;rcases U with rfl|U
 .obtain⟨_,b,x,h1,_⟩:=H.c
  exact⟨_,h1,B⟩
 .exact H.o.live U
def Hr.aa {es:List IE} {a:List Ed} (x:AA h0 h) (p:Hr h.ad J N q v es a):Hr h0 (h.aa J) N q v es a:=by
 obtain⟨n,v',d,H,g,p,c,b,f⟩:=p;exact⟨n,v',d,H.aa,g,p,(x.ae _).trans c.aa,λi U=>(b i U).imp id λh1=>Ao x.nx (by rw[BF] at h1;exact h1),λe j=>(f e j).imp id λh1 i U=>Ao x.nx (by have:=h1 i U;rw[BF] at this;exact this)⟩
def c34 (c:Base S L) {e f rb:Nat} {s:A6} {l:List (Nat×Int)} {r:Int} {es:List IE} (i:Cell h e 0 (.func (.func 30) #[] #[AG sb 0,AG q 0])) (cl:Cell h f 0 (AG lp 0)) (m:Cell h rb 0 (Vi r))
 (cs:Cell h sb 0 (AG x 0)) (X:Jm h x s lp nv rm) (g:s.V.Ok) (M:FG h rm l) (o:∀k,Hs l k=s.rest k) (t:Lp l) (u:j<s.V.ns.length) (H:HW h N q n v es) (y:Em Jk n es) (z:N<=h.nx) (C:n<26000000000000):
 Bk S L 8 34 [Vi j,AG e 0,AG f 0,AG rb 0] h λ_ J=>Hr h J N q v es ((s.rest j).map (s.b4 Z j (s.V.enter r j))).toList:=
 Cn f34 c λd D _=>by
  have E:=Cb.bm g r j;refine⟨[.w 6],Kq,_,ld B i,_,ld B cl,_,ld B m,_,c35 c (X.A.ext (AA.ad h)) d G,?_⟩;rintro _ h1 ⟨a,rfl⟩;refine⟨a.ag,?_⟩;have a:=a.aa;have b:=a.trans (AA.ad (h.aa h1));refine⟨_,AEb c (cs.ext b) (X.ext b) g (M.ext b) o t u G (H.ext b) y (Ao z b.nx) C d G,?_⟩;intro w F p;exact⟨p.ok (H.ext a),p.aa a⟩
def c37 (f:Base S L) {m o rb r:Nat} {s:A6} {l:List (Nat×Int)} {es:List IE} {p:IE} (t:Cell h m 0 (.func (.func 30) #[] #[AG sb 0,AG q 0])) (u:Cell h r 0 (AG p.b 0)) (cl:Cell h o 0 (AG lp 0)) (y:Cell h rb 0 (Vi i))
 (cs:Cell h sb 0 (AG x 0)) (X:Jm h x s lp nv rm) (g:s.V.Ok) (M:FG h rm l) (z:∀k,Hs l k=s.rest k) (C:Lp l) (D:j<s.V.ns.length) (E:Ix h p) (F:p.P.ns.length<=1000) (K:p.P.tx.size<=20000) (O:-100000000<=p.P.c/\p.P.c<=100000000) (H:HW h N q n v es) (Q:Em Jk n es) (R:N<=h.nx) (T:n<26000000000000):
 Bk S L 8 37 [Vi j,AG m 0,AG r 0,AG o 0,AG rb 0] h λ_ J=>Hr h J N q v es ((s.rest j).map (s.b4 (I p.P) j (s.V.aW i j))).toList:=
 Cn f37 f λd W _=>by
  have he:=Cb.aR g X.A i j;refine⟨[.w 7],Kq,_,ld B t,_,ld B u,_,ld B cl,_,ld B y,_,c38 f (X.A.ext (AA.ad h)) g d G,?_⟩;rintro _ h1 ⟨a,rfl⟩;refine⟨a.ag,?_⟩;have a:=a.aa;have e:=a.trans (AA.ad (h.aa h1));refine⟨_,AEy f (cs.ext e) (X.ext e) g (M.ext e) z C D G (E.ext e) F K O (H.ext e) Q (Ao R e.nx) T d G,?_⟩;intro w h2 p;exact⟨p.ok (H.ext a),p.aa a⟩
abbrev Ga:=Int×Bd
def kV (k:Ga):Value:=.agg #[.int .i64 k.1,.string k.2]
def kQ (a b:Ga):Bool:=a.1==b.1&&(Gp a.2.data.toList b.2.data.toList&&Ag)
def Ox {a b:Ga}:kQ a b=Ag↔a=b:=by
 unfold kQ;rw[An,Mh,CJ,beq_iff_eq];exact⟨λh=>Prod.ext h.1 h.2,λh=>by rw[h];exact⟨B,B⟩⟩
def eqK (a b:Ga):IZ Ax Op.maxDepth 107 (kV a) (kV b)=I (kQ a b):=by
 have e:IZ Ax Op.maxDepth 107 (kV a) (kV b)=bm (a.1==b.1) (bm (Gp a.2.data.toList b.2.data.toList) (I Ag)):=rfl;rw[e,L1,L1];rfl
def Akw (k:Ga):Cy (kV k) (kV k)=true:=by
 show((Ag&&decide (k.1=k.1))&&(Gp k.2.data.toList k.2.data.toList&&Ag))=Ag;rw[CJ.2 rfl];simp
def N3 (k:Ga):List (Ga×Int)->Option Int
 |[]=>Z
 |p::l=>if kQ k p.1=Ag then I p.2 else N3 k l
def RW (k:Ga) (z:Int):List (Ga×Int)->List (Ga×Int)
 |[]=>[(k,z)]
 |p::l=>if kQ k p.1=Ag then(k,z)::l else p::RW k z l
def Qb (k:Ga) (z:Int) (j:Ga):∀l,N3 j (RW k z l)=if kQ j k=Ag then I z else N3 j l
 |[]=>rfl
 |
  p::l=>by
  rw[RW];split
  .rename_i h1
   rw[N3,N3,Ox.1 h1];split
   .rfl
   .rfl
  .rename_i h1
   rw[N3,N3,Qb k z j l];by_cases h:kQ j p.1=Ag
   .rw[Bi h,Bi h,Bm (λe=>h1 (by rw[←Ox.1 e];exact h))]
   .rw[Bm h,Bm h]
def N6 (h:Y) (r:Nat) (l:List (Ga×Int)):Prop:=r<h.nx/\∃es ck,h.t.get r=I (.map es ck)/\Fc ck 0 es=Ag/\es.map (λe:Ap=>(e.key,e.val))=l.map λp=>(kV p.1,AL .i64 p.2)
def N6.ae {W:Nat->Prop} {h J:Y} {r:Nat} {l:List (Ga×Int)} (m:N6 h r l) (c:B0 W h J) (a:¬W r):N6 J r l:=⟨AC m.1 c.nx,by rw[c.t r m.1 a];exact m.2⟩
def N6.aa {h J:Y} {r:Nat} {l:List (Ga×Int)} (m:N6 J r l):N6 (h.aa J) r l:=by
 unfold N6;rw[CL,DF];exact m
def YX {ck:Nat}:∀{es:List Ap} {lo:Nat} {e:Ap},Fc ck lo es=Ag->e∈es->lo<=e.born
 |
  x::es,lo,e,h,a=>by
  simp only[Fc,An] at h;have h1:=Ac h.1.1;rcases List.mem_cons.1 a with rfl|a
  .exact h1
  .have:=YX h.2 a;omega
def LF {ck:Nat}:∀{es:List Ap} {lo:Nat} {e:Ap} {j:Nat} (i:Nat),Fc ck lo es=Ag->es[j]?=I e->Fx e.born es i=I (i+j)
 |x::es,lo,e,0,i,h,a=>by cases a;rw[Fx,show Am x.born x.born=Ag by simp];rfl
 |
  x::es,lo,e,j+1,i,h,a=>by
  simp only[Fc,An] at h;have a:es[j]?=I e:=a;have:=YX h.2 (AZ a);rw[Fx,show Am x.born e.born=Ah from Bool.eq_false_iff.2 λb=>by have:=Af b;omega];show Fx e.born es (i+1)=_;rw[LF (i+1) h.2 a];congr 1;omega
def Rl (f:Ap->Ap) (x:Ap):∀es:List Ap,Cu (es++[x]) es.length f=es++[f x]
 |[]=>rfl
 |e::es=>by rw[KB,AO,Cu,Rl f x es];rfl
def Tc (f:Ap->Ap):∀(es:List Ap) (j:Nat) (e:Ap),es[j]?=I e->(Cu es j f)[j]?=I (f e)
 |x::es,0,e,h=>by cases h;rfl
 |x::es,j+1,e,h=>Tc f es j e h
def Ado (k:Ga) (z:Int):∀(es:List Ap) (l:List (Ga×Int)) (i:Nat),es.map (λe:Ap=>(e.key,e.val))=l.map (λp=>(kV p.1,Vi p.2))->
 (CE Ax 107 (kV k) es i=I Z/\N3 k l=Z/\∀ck,(es++[({key:=kV k,val:=Vi z,born:=ck}:Ap)]).map (λe:Ap=>(e.key,e.val))=(RW k z l).map λp=>(kV p.1,Vi p.2))\/
 ∃j e y,CE Ax 107 (kV k) es i=I (I (i+j,e))/\es[j]?=I e/\e.val=Vi y/\N3 k l=I y/\Cy e.key (kV k)=Ag/\((Cu (Cu es j λe=>{e with key:=kV k}) j λe=>{e with val:=Vi z}).map λe:Ap=>(e.key,e.val))=(RW k z l).map λp=>(kV p.1,Vi p.2)
 |[],[],i,_=>.inl ⟨B,B,λ_=>rfl⟩
 |[],_::_,_,h=>by cases h
 |_::_,[],_,h=>by cases h
 |
  e::es,p::l,i,h=>by
  simp only[Bp,List.cons.injEq,Prod.mk.injEq] at h;obtain⟨⟨h1,a⟩,b⟩:=h;rw[CE,h1,eqK,RW,N3];cases c:kQ k p.1 with
  |
   true=>
   refine .inr ⟨0,e,p.2,B,B,a,B,?_,?_⟩
   .rw[h1,←Ox.1 c];exact Akw k
   .simp[Cu,b]
  |
   false=>
   rcases Ado k z es l (i+1) b with⟨f1,f0,f2⟩|⟨j,d,y,f1,f6,f2,f3,f4,f5⟩
   .refine .inl ⟨f1,f0,λck=>?_⟩
    simp only[BE,if_false,KB,Bp,h1,a,f2]
   .refine .inr ⟨j+1,d,y,by rw[show i+(j+1)=i+1+j by omega];exact f1,f6,f2,f3,f4,?_⟩
    simp only[BE,if_false,Cu,Bp,h1,a,f5]
def Aoa {h:Y} {r:Nat} {l:List (Ga×Int)} (m:N6 h r l) (k:Ga):BW Ax 103 (.map (I r)) (kV k) Ah h=I (Vi ((N3 k l).getD 0)):=by
 obtain⟨_,es,ck,h1,_,c⟩:=m;have a:Ax.ds.get 103=I (.map 107 3):=by rfl
 have d:CP Ax 3=I (Vi 0):=Kq;have b:Do Ax 5 107 (kV k)=true:=by rfl
 unfold BW;rcases Ado k 0 es l 0 c with⟨f1,f2,_⟩|⟨j,e,y,f1,_,f2,f3,_⟩
 .simp only[a,b,D1,h1,f1,d,f2];rfl
 .simp only[a,b,D1,h1,f1,f2,f3];rfl
def AAb {h:Y} {r:Nat} {l:List (Ga×Int)} (m:N6 h r l) (k:Ga) (z:Int):∃(ev:Aa) (st:Nat) (h1:Y),D6 Ax 103 (.map (I r)) (kV k) h=I (.tuple #[ev,Vi (AQ st)],h1)/\Er r h h1/\
 ∀H:Y,H.t.get r=h1.t.get r->r<H.nx->∃a,DM (.map (I r)) (Vi (AQ st)) (Vi z) H=I a/\N6 a r (RW k z l)/\Er r H a:=by
 obtain⟨p,es,ck,h1,d,a⟩:=m;have i:Ax.ds.get 103=I (.map 107 3):=by rfl
 have o:CP Ax 3=I (Vi 0):=Kq;have n:Do Ax 5 107 (kV k)=true:=by rfl
 have U:∀st:Nat,Fs (Vi (AQ st))=I st:=λ_=>rfl;unfold D6;rcases Ado k z es l 0 a with⟨f1,_,f2⟩|⟨j,e,y,f1,f6,_,_,f4,f5⟩
 .have c:=Kd (kV k) (Vi 0) es ck 0 d (Al _)
  refine⟨Vi 0,ck,h.put r (.map (es++[({key:=kV k,val:=Vi 0,born:=ck}:Ap)]) (ck+1)),by simp only[i,n,D1,h1,f1,o],Er.put _ _ _,λH b g=>?_⟩;rw[BQ,Bi B] at b;have hb:=LF (j:=es.length) (e:=({key:=kV k,val:=Vi 0,born:=ck}:Ap)) 0 c (by rw[Bq (Ae _),Nat.sub_self];rfl);rw[Ba] at hb;refine⟨H.put r (.map (es++[({key:=kV k,val:=Vi z,born:=ck}:Ap)]) (ck+1)),?_,⟨by rw[Cc];exact g,_,_,by rw[BQ,Bi B],Kd _ _ es ck 0 d (Al _),f2 ck⟩,Er.put _ _ _⟩;unfold DM;simp only[U,b,hb,Rl]
 .rw[Ba] at f1
  have c:=Kc (f:=λe:Ap=>{e with key:=kV k}) (λ_=>rfl) es j ck 0 d
  refine⟨e.val,e.born,h.put r (.map (Cu es j λe=>{e with key:=kV k}) ck),by simp only[i,n,D1,h1,f1,f4],Er.put _ _ _,λH b g=>?_⟩
  rw[BQ,Bi B] at b;have hb:=LF 0 c (Tc (λe:Ap=>{e with key:=kV k}) es j e f6);rw[Ba] at hb;have hb:Fx e.born (Cu es j λe=>{e with key:=kV k}) 0=I j:=hb
  refine⟨H.put r (.map (Cu (Cu es j λe=>{e with key:=kV k}) j λe=>{e with val:=Vi z}) ck),?_,⟨by rw[Cc];exact g,_,_,by rw[BQ,Bi B],Kc (f:=λe:Ap=>{e with val:=Vi z}) (λ_=>rfl) _ _ _ _ c,f5⟩,Er.put _ _ _⟩
  unfold DM;simp only[U,b,hb]
namespace A6
def Aja (s:A6) (r:Int) (j:Nat) (m:Int):(s.Axk r j m).lj=j:=rfl
def Z6 {s:A6} {r:Int} {x:Ed}:x∈s.AGu r->∃j∈s.kids s.F,∃m,s.rest j=I m/\x=s.Axk r j m:=λh=>by
 obtain⟨j,b,e⟩:=List.mem_filterMap.1 h;cases a:s.rest j with
 |none=>rw[a] at e;cases e
 |some m=>rw[a] at e;cases e;exact⟨j,b,m,a,B⟩
def start {s:A6} (a:s.V.Ok) (g:0<=s.F/\s.F<s.T/\s.T<=s.V.fs.length) (r:Int):s.Inv 0 (s.AGu r) [] []:=by
 refine⟨λx b=>?_,Jq,List.pairwise_filterMap.2 ((Rr a _).imp λ{i j} k x b y e=>?_),Jg,Jq,Jq,λ_=>?_,?_⟩
 .obtain⟨j,d,m,f,rfl⟩:=Z6 b
  obtain⟨n,o,p,q⟩:=cj a d;have v:=(a.inv.ok _ (mem n)).2;have z:=Cb.bm a r j;refine⟨by simp[Axk],λi U=>by rw[List.mem_singleton.1 U];exact n,by rw[Aja];omega,⟨m,f,B⟩,(λh=>by cases h),?_,?_,?_⟩
  .show(1:Int)<=(s.nN j).t-s.F;omega
  .show(s.nN j).s.size<=256*1;omega
  .show-(70000*(1:Int))<=s.V.enter r j+(s.nN j).c/\s.V.enter r j+(s.nN j).c<=70000*(1:Int)
   omega
 .cases U:s.rest i with
  |none=>rw[U] at b;cases b
  |
   some m=>
   cases d:s.rest j with
   |none=>rw[d] at e;cases e
   |
    some m'=>
    rw[U] at b;rw[d] at e;cases b;cases e;exact⟨λh=>k (P0 (l:=[]) h),λh=>k (P0 (l:=[]) h).symm⟩
 .obtain⟨j,d,m,f⟩:=dm a g.1 g.2.2 (s.T-1-s.F).toNat s.F G Jq
  exact O7 (List.mem_filterMap.2 ⟨j,d,by rw[f];rfl⟩)
 .have h1:(s.AGu r).length<=(s.kids s.F).length:=KH _ _
  have C:(s.kids s.F).length<=(s.V.from_ s.F).length:=D7 _ _;have D:=Cb.aY a s.F;omega
def St (s:A6) (r:Int):Nat->List Ed×List (Int×Bd)×List Ed
 |0=>(s.AGu r,[],[])
 |k+1=>s.next (s.St r k)
def CV {s:A6} (ok:s.V.Ok) {a:Y} (A:EI a b s.V) (c:0<=s.F/\s.F<s.T/\s.T<=s.V.fs.length) (r:Int):∀k,(∀i,i<k->(s.St r i).1≠[])->s.Inv k (s.St r k).1 (s.St r k).2.1 (s.St r k).2.2
 |0,_=>start ok c r
 |
  k+1,h=>by
  obtain⟨p,q,a⟩:=JK (h k G);exact (CV ok A c r k λi U=>h i G).next ok A a
def Aoj (s:A6) (r:Int) (k:Nat):∀d,(s.St r k).2.2<+:(s.St r (k+d)).2.2
 |0=>Eb _
 |
  d+1=>by
  refine(Aoj s r k d).trans ?_;show _<+:(s.next (s.St r (k+d))).2.2
  unfold next
  split
  .exact Eb _
  .split
   .exact Eb _
   .split
    .exact GS _ _
    .split<;>exact Eb _
def Aha (s:A6) (r:Int) (k:Nat):(s.St r (k+1)).2.2.length<=(s.St r k).2.2.length+1:=by
 show(s.next (s.St r k)).2.2.length<=_
 unfold next
 split
 .omega
 .split
  .exact Yr _
  .split
   .simp
   .split<;>exact Yr _
def Ends (s:A6) (r:Int) (n:Int) (k:Nat):Prop:=(∀i,i<k->(s.St r i).1≠[]/\((s.St r i).2.2.length:Int)<n)/\((s.St r k).1=[]\/n<=((s.St r k).2.2.length:Int))
def Zcr (s:A6) (r:Int):∀k,((s.St r k).2.2.map Ed.tx).Nodup/\∀o∈(s.St r k).2.2,((-1:Int),o.tx)∈(s.St r k).2.1
 |0=>⟨Jg,λ_ h=>absurd (show _∈([]:List Ed) from h) KX⟩
 |k+1=>by
  obtain⟨h1,c⟩:=Zcr s r k;show((s.next (s.St r k)).2.2.map Ed.tx).Nodup/\∀o∈(s.next (s.St r k)).2.2,((-1:Int),o.tx)∈(s.next (s.St r k)).2.1
  unfold next
  split
  ·exact⟨h1,c⟩
  ·rename_i p q _;split
   ·exact⟨h1,c⟩
   ·rename_i f;split
    ·rename_i g;have e:Cw p=((-1:Int),p.tx):=by unfold Cw;rw[if_pos g]
     rw[e] at f⊢;refine⟨?_,λo d=>?_⟩
     ·show((_++[p]).map Ed.tx).Nodup;rw[BS,List.nodup_append];refine⟨h1,by simp,λa i b j e=>?_⟩;obtain⟨o,d,rfl⟩:=List.mem_map.1 i;rw[List.mem_singleton.1 j] at e;exact f ((show o.tx=p.tx from e)▸c o d)
     ·rcases List.mem_append.1 d with h|h
      ·exact Az _ (c o h)
      ·rw[List.mem_singleton.1 h];exact Av
    ·split<;>exact⟨h1,λo d=>Az _ (c o d)⟩
def Ends.same {s:A6} {r n n':Int} {k':Nat} (h:s.Ends r n k) (J:s.Ends r n' k') (f:n<=n'):(s.St r k).2.2=(s.St r k').2.2\/n<=((s.St r k).2.2.length:Int):=by
 rcases h.2 with b|b
 ·refine .inl ?_;have a:k<=k':=Aci λc=>by
   obtain⟨h1,g⟩:=h.1 _ c;rcases J.2 with e|e
   ·exact h1 e
   ·omega
  rcases A8 k k' with d|d
  ·exact absurd b (J.1 _ d).1
  ·rw[(Nat.le_antisymm a d:k=k')]
 ·exact .inr b
def Ends.dj {s:A6} {r n n':Int} {k':Nat} (h:s.Ends r n k) (J:s.Ends r n' k') (c:n<=n'):(s.St r k).2.2<+:(s.St r k').2.2:=by
 have:k<=k':=by
  refine Aci λb=>?_;obtain⟨h1,e⟩:=h.1 _ b;rcases J.2 with a|a
  .exact h1 a
  .omega
 obtain⟨d,rfl⟩:=Nat.le.dest this;exact Aoj s r k d
end A6
def Lg (e:IE):AH:=[e.nv,.int .i64 e.P.a,.string e.P.tx]
structure HX (g0 h:Y) (q sm ab n:Nat) (v ov fv:Aa) (es os:List IE) (l:List (Ga×Int)):Prop where
 x:AA g0 h
 Q:HW h g0.nx q n v es
 hp:Em Jk n es
 S:N6 h sm l
 O:AS h g0.nx 50 3 ov os.length (os.flatMap Lg)
 I:∀e∈os,Ix h e
 A:Own h ab 99 [fv]
 ge:g0.nx<=q/\g0.nx<=sm/\g0.nx<=ab
 ne:q≠sm/\ab≠q/\ab≠sm
 vs:¬BY v sm/\¬BY v ab
 bH:∀i,BY ov i->i≠q/\i≠sm/\i≠ab/\¬BY v i
 fz:∀e∈es,∀i,e.am i->i≠sm/\¬BY ov i
 fo:∀e∈os,∀i,e.am i->i≠sm/\¬BY ov i/\i≠q/\¬BY v i
section
variable{g0 h J:Y} {q sm ab n:Nat} {v ov fv:Aa} {es os:List IE} {l:List (Ga×Int)}
def HW.ae (H:HW h N q n v es) (c:B0 W h J) (h1:¬W q) (b:∀i,BY v i->¬W i) (d:∀e∈es,∀i,e.am i->¬W i):HW J N q n v es:=
 ⟨H.c.ae c h1,H.o.ae c b,λe a=>(H.i e a).ae c (d e a),H.ap,H.q⟩
def HX.ext (H:HX g0 h q sm ab n v ov fv es os l) (x:AA h J):HX g0 J q sm ab n v ov fv es os l:=
 ⟨H.x.trans x,H.Q.ext x,H.hp,H.S.ae (x.ae λ_=>False) λh=>h,H.O.ext x,λe a=>(H.I e a).ext x,H.A.ext x,H.ge,H.ne,H.vs,H.bH,H.fz,H.fo⟩
def HX.seen {l':List (Ga×Int)} (H:HX g0 h q sm ab n v ov fv es os l) (u:B0 (·=sm) h J) (m:N6 J sm l'):HX g0 J q sm ab n v ov fv es os l':=
 ⟨H.x.then u λi U=>by rw[show i=sm from U];exact H.ge.2.1,H.Q.ae u H.ne.1 (λi U e=>H.vs.1 (by rw[←show i=sm from e];exact U)) (λe a i U b=>(H.fz e a i U).1 b),H.hp,m,H.O.ae u λi U=>(H.bH i U).2.1,λe a=>(H.I e a).ae u λi U=>(H.fo e a i U).1,H.A.ae u H.ne.2.2,H.ge,H.ne,H.vs,H.bH,H.fz,H.fo⟩
def HX.queue {n':Nat} {g:List IE} (H:HX g0 h q sm ab n v ov fv es os l) (c:B0 (λi=>i=q\/BY v i) h J) (Q:HW J g0.nx q n' v' g) (k:Em Jk n' g) (j:∀i,BY v' i->BY v i\/h.nx<=i)
 (m:∀e∈g,∀i,e.am i->i≠sm/\¬BY ov i):HX g0 J q sm ab n' v' ov fv g os l:=by
 have o:=H.S.1;have p:=H.A.1;refine⟨H.x.then c λi U=>?_,Q,k,H.S.ae c λa=>?_,H.O.ae c λi U a=>?_,λe d=>(H.I e d).ae c λi U a=>?_,H.A.ae c λa=>?_,H.ge,H.ne,⟨λb=>?_,λb=>?_⟩,λi U=>?_,m,λe d i U=>?_⟩
 .rcases U with U|U
  .rw[U];exact H.ge.1
  .exact H.Q.o.ai i U
 .exact a.elim (λe=>H.ne.1 e.symm) H.vs.1
 .have:=H.bH i U
  exact a.elim this.1 this.2.2.2
 .have:=H.fo e d i U
  exact a.elim this.2.2.1 this.2.2.2
 .exact a.elim H.ne.2.1 H.vs.2
 .rcases j sm b with h1|h1
  .exact H.vs.1 h1
  .omega
 .rcases j ab b with h1|h1
  .exact H.vs.2 h1
  .omega
 .have h1:=H.bH i U
  refine⟨h1.1,h1.2.1,h1.2.2.1,λb=>?_⟩;rcases j i b with f|f
  .exact h1.2.2.2 f
  .have:=H.O.aw i U;omega
 .have h1:=H.fo e d i U
  refine⟨h1.1,h1.2.1,h1.2.2.1,λb=>?_⟩;rcases j i b with f|f
  .exact h1.2.2.2 f
  .have:=(H.I e d).a8 i U;omega
def HX.cM {d:List Ed} (H:HX g0 h q sm ab n v ov fv es os l) (p:Hr h J g0.nx q v es d):∃n' v' a,HX g0 J q sm ab n' v' ov fv a os l/\(a.map IE.P).Perm (d++es.map IE.P):=by
 obtain⟨n',v',a,Q,g,j,c,b,f⟩:=p;refine⟨n',v',a,H.queue c Q g b λe k i U=>?_,j⟩;have o:=H.S.1;rcases f e k with h1|h1
 .exact H.fz e h1 i U
 .have r:=h1 i U
  exact⟨G,λm=>by have:=H.O.aw i m;omega⟩
def HX.out {g:Aa} {p:IE} (H:HX g0 h q sm ab n v ov fv es os l) (c:B0 (BY ov) h J) (o:AS J g0.nx 50 3 g (os.length+1) (os.flatMap Lg++Lg p)) (j:∀i,BY g i->BY ov i\/h.nx<=i)
 (m:Ix h p) (r:∀i,p.am i->i≠sm/\¬BY ov i/\i≠q/\¬BY v i):HX g0 J q sm ab n v g fv es (os++[p]) l:=by
 have s:=H.S.1;have t:=H.A.1;have u:=H.Q.c.1;have f:∀e∈os++[p],Ix h e/\∀i,e.am i->i≠sm/\¬BY ov i/\i≠q/\¬BY v i:=λe a=>by
  rcases List.mem_append.1 a with a|a
  .exact⟨H.I e a,H.fo e a⟩
  .rw[List.mem_singleton.1 a];exact⟨m,r⟩
 refine⟨H.x.then c λi U=>H.O.ai i U,H.Q.ae c (λb=>(H.bH q b).1 rfl) (λi U b=>(H.bH i b).2.2.2 U) (λe a i U=>(H.fz e a i U).2),H.hp,H.S.ae c λb=>(H.bH sm b).2.1 rfl,?_,λe a=>(f e a).1.ae c λi U=>((f e a).2 i U).2.1,H.A.ae c λb=>(H.bH ab b).2.2.1 rfl,H.ge,H.ne,H.vs,λi U=>?_,λe a i U=>⟨(H.fz e a i U).1,λd=>?_⟩,λe a i U=>?_⟩
 .rw[Aj,E0]
  simpa using o
 .rcases j i U with h1|h1
  .exact H.bH i h1
  .exact⟨G,G,G,λd=>by have:=H.Q.o.aw i d;omega⟩
 .rcases j i d with h1|h1
  .exact(H.fz e a i U).2 h1
  .have:=(H.Q.i e a).a8 i U;omega
 .have h1:=(f e a).2 i U
  refine⟨h1.1,λd=>?_,h1.2.2⟩;rcases j i d with k|k
  .exact h1.2.1 k
  .have:=(f e a).1.a8 i U;omega
def HX.pop {n':Nat} {a:List IE} {p:IE} (H:HX g0 h q sm ab n v ov fv es os l) (d:es.Perm (p::a)) (g:Em Jk n' a) (Q:HW J g0.nx q n' v' a) (c:B0 (λi=>i=q\/BY v i) h J) (f:∀i,BY v' i->BY v i):
 HX g0 J q sm ab n' v' ov fv a os l/\Ix J p/\∀i,p.am i->i≠sm/\¬BY ov i/\i≠q/\¬BY v' i:=by
 have b:=d.mem_iff.2 Av;have h1:=H.Q.ap p b;exact⟨H.queue c Q g (λi U=>.inl (f i U)) λe j=>H.fz e (d.mem_iff.2 (Az _ j)),(H.Q.i p b).ae c λi U k=>(k.elim (h1 i U).2 (h1 i U).1),λi U=>⟨(H.fz p b i U).1,(H.fz p b i U).2,(h1 i U).2,λm=>(h1 i U).1 (f i m)⟩⟩
def Aia {s:A6} {Q:List Ed} {K:List (Int×Bd)} {h:List Ed} (i:s.Inv k Q K h) {es b:List IE} {p:IE} (a:(es.map IE.P).Perm Q) (c:es.Perm (p::b)) (j:∀y∈es,Jk p y):∃q,Oa Q=I (p.P,q)/\(b.map IE.P).Perm q:=by
 have d:=a.mem_iff.1 (Gn (c.mem_iff.2 Av:p∈es));obtain⟨x,q,f⟩:=JK (O7 d);obtain⟨h1,l⟩:=HN f;have m:∀y∈Q,Tu p.P y:=λy n=>by
  obtain⟨e,o,rfl⟩:=List.mem_map.1 (a.mem_iff.2 n);exact j e o
 have e:=M4 h1 i.ac l d m;subst e;refine⟨q,f,?_⟩;have g:=((c.map IE.P).symm.trans a).trans h1;rw[Bp] at g;exact g.cons_inv
end
def Jn (s:Bd):Nat->Nat
 |0=>0
 |k+1=>Jn s k+(FF (s.data.toList.drop (Jn s k))).2
def Ti (s:Bd) (i:Nat):∀d,Jn s i<=Jn s (i+d)
 |0=>Ae _
 |d+1=>Ao (Ti s i d) (GW _ _)
def Acr (s:Bd) (k:Nat):Nat:=if k<H5 s then Jn s k else s.size
def RV (s:Bd) (f t:Int):Bd×Bool:=if f<0\/t<f\/El s<t then(⟨#[]⟩,Ah) else(EY ((s.data.toList.drop (Acr s f.toNat)).take (Acr s t.toNat-Acr s f.toNat)),Ag)
def Avz {l:Nat} (h1:l<=m) (a:m<=s.size):C7 Ax 9 (Sg s) (I (Vi (l:Int))) (I (Vi (m:Int))) Z=I (Sg (EY ((s.data.toList.drop l).take (m-l)))):=by
 show(bif Ar l m&&Ar m s.size then I (Sg (EY ((s.data.toList.drop l).take (m-l)))) else Z)=_
 rw[Aq h1,Aq a];rfl
def c25 (T:Base5 S L) (ab:Ce h) {f t:Int} (hs:s.size<=100000000):Bk S L 7 25 [Sg s,Vi f,Vi t] h λw J=>AA h J/\w=.tuple #[Sg (RV s f t).1,.bool (RV s f t).2]:=
 Cn f25 T.toBase λd aj hL=>by
  have E:∀{H:Y},AA h H->(f<0\/t<f\/El s<t)->AA h H/\C4 #[Sg ⟨#[]⟩,.bool Ah]=.tuple #[Sg (RV s f t).1,.bool (RV s f t).2]:=λx hb=>⟨x,by unfold RV;rw[Bi hb]⟩;apply Ad<;>intro F
  .exact E (AA.refl h) (.inl (Fp F))
  have F:=KK F;apply Ad<;>intro K
  .exact E (AA.refl h) (.inr (.inl (Fp K)))
  have K:=KK K;refine cl (c58 T ab hs) ?_;rintro _ h1 ⟨l,rfl⟩;apply Ad<;>intro M
  .exact E l (.inr (.inr (Fp M)))
  have M:=KK M;obtain⟨a,rfl⟩:∃a:Nat,f=a:=⟨f.toNat,G⟩;obtain⟨b,rfl⟩:∃b:Nat,t=b:=⟨t.toNat,G⟩;have m:=(Sep.nil h1).add (a:=aB h1.nx (.str s 0)) (AA.new h1 (.str s 0)) ⟨by rw[Ck];omega,by rw[CK,Bi B]⟩ λi U=>A2 U.symm;have hN:H5 s<=s.size:=Kp s.size s.data.toList;have ad:∀{H:Y} (x y:Nat),AA h H->x=Acr s a->y=Acr s b->AA h H/\C4 #[Sg (EY ((s.data.toList.drop x).take (y-x))),.bool Ag]=.tuple #[Sg (RV s a b).1,.bool (RV s a b).2]:=λx y e h1 h2=>⟨e,by
   unfold RV;rw[Bm G,h1,h2];rfl⟩
  refine⟨_,_,(rfl:Gh Ax 9 (Sg s) h1=I (AG h1.nx 0,h1.new (.str s 0))),λV A n=>∃(p c x y:Nat),A=[(0,Sg s),(1,Vi a),(2,Vi b),(8,Vi x),(9,Vi y),(10,Vi c),(30,AG h1.nx 0)]/\V=s.size-p/\p=Jn s c/\c+(CA (s.size-p) (s.data.toList.drop p)).length=H5 s/\(x=if a<c then Jn s a else s.size)/\(y=if b<c then Jn s b else s.size)/\(∀k,k<c->Jn s k<s.size)/\Sep h1 n [aB h1.nx (.str s p)],
   ⟨_,_,Sq,?_,0,0,s.size,s.size,B,B,B,Ba _,by rw[Bm G],by rw[Bm G],(λk h=>Cf h (F5 k)),m⟩,?_⟩
  .omega
  rintro V A n ⟨p,c,x,y,rfl,rfl,N,q,g,j,W,m⟩ ak;rcases NE (m.a7 (i:=0) B) with⟨O,w,z,X,r⟩|⟨O,r⟩
  .have ae:=Rw O
   rw[←X.2.1] at ae;have s2:=m.ah (i:=0) (a':=aB h1.nx (.str s (p+w))) B (Er.put n h1.nx (.str s (p+w))).ae ⟨by rw[Cc];exact(m.2.1 0 _ B).1.1,by rw[BQ,Bi B]⟩ (λx g=>.inl g);obtain⟨P,af⟩:∃P,P=n.put h1.nx (.str s (p+w)):=⟨_,B⟩;rw[←af] at s2 r;have Da:∀(u C:Nat),(u=if a<c+1 then Jn s a else s.size)->(C=if b<c+1 then Jn s b else s.size)->∀{A:As},Sub [(0,Sg s),(1,Vi a),(2,Vi b),(8,Vi u),(9,Vi C),(10,Vi ((c+1:Nat):Int)),(30,AG h1.nx 0)] A->
    ∃m' A0,Sub A0 A/\m'<s.size-p/\∃(p c x y:Nat),A0=[(0,Sg s),(1,Vi a),(2,Vi b),(8,Vi x),(9,Vi y),(10,Vi c),(30,AG h1.nx 0)]/\m'=s.size-p/\p=Jn s c/\c+(CA (s.size-p) (s.data.toList.drop p)).length=H5 s/\(x=if a<c then Jn s a else s.size)/\(y=if b<c then Jn s b else s.size)/\(∀k,k<c->Jn s k<s.size)/\Sep h1 P [aB h1.nx (.str s p)]:=λu C ag ah A ai=>
    ⟨_,_,ai,(show s.size-(p+w)<s.size-p by omega),p+w,c+1,u,C,B,B,by rw[Jn,←N,X.2.1],G,ag,ah,λk Q=>by
     rcases A8 k c with h|h
     .exact W k h
     .rw[show k=c by omega,←N];exact O,s2⟩
   have l:∀(i o:Nat),i=c->p=if i<c+1 then Jn s i else o:=λi o e=>by rw[Bi G,e,←N]
   have D:∀(i o v:Nat),¬i=c->(v=if i<c then Jn s i else o)->v=if i<c+1 then Jn s i else o:=λi o v e h=>by
    rw[h];by_cases U:i<c
    .rw[Bi U,Bi G]
    .rw[Bm U,Bm G]
   refine⟨_,_,r,Bz (λk4=>?_) (λk4=>?_)⟩
   .apply Bz<;>intro k5
    .exact⟨Pq,Da p p (l a _ G) (l b _ G) (Sq)⟩
    .exact⟨Pq,Da p y (l a _ G) (D b _ y G j) (Sq)⟩
   .apply Bz<;>intro k5
    .exact⟨Pq,Da x p (D a _ x G g) (l b _ G) (Sq)⟩
    .exact⟨Pq,Da x y (D a _ x G g) (D b _ y G j) (Sq)⟩
  .rw[show s.size-p=0 by omega,CA] at q
   have q:c=H5 s:=q;rw[q] at g j;have aa:x<=y/\y<=s.size:=by
    have Q:∀i,i<H5 s->Jn s i<=s.size:=λi U=>Bf (W i G);by_cases R:a<H5 s
    .rw[Bi R] at g
     by_cases hb:b<H5 s
     .rw[Bi hb] at j
      obtain⟨e,he⟩:=Nat.le.dest (show a<=b by omega);have:=Ti s a e;rw[he] at this;exact⟨G,by rw[j];exact Q b hb⟩
     .rw[Bm hb] at j
      exact⟨by rw[g,j];exact Q a R,G⟩
    .rw[Bm R] at g
     rw[Bm G] at j;omega
   exact⟨_,_,r,_,_,Cs (CN _) (Avz aa.1 aa.2),ad x y (l.trans m.e) g j⟩
def Acn {a:Type} (p:a->Prop) (l:List a) (z:Int):Prop:=(z=-1/\∀x∈l,¬p x)\/∃(k:Nat) (x:a),z=k/\l[k]?=I x/\p x/\∀y∈l.take k,¬p y
def Tk {b:Type} {p:b->Prop} {l:List b} (c:k<l.length) (h:∀y∈l.take k,¬p y) (h1:¬p l[k]):∀y∈l.take (k+1),¬p y:=λy a=>by
 rw[A5 c] at a;rcases List.mem_append.1 a with a|a
 .exact h y a
 .rw[List.mem_singleton.1 a];exact h1
def c84 (l:Base S L) (r:Rd h v 1 ss.length (AR ss)) (p:ss.length<=1000000000):Bk S L 1 84 [v,.string s] h λw J=>J=h/\∃z:Int,w=Vi z/\Acn (s=·) ss z:=
 Cn f84 l λd t u=>by
  obtain⟨m,n,rfl⟩:∃A c,v=.slice A ss.length c:=by obtain⟨_,A,c,e,_⟩:=r;exact⟨A,c,e⟩
  refine⟨λi A f=>∃k:Nat,A=[(0,.slice m ss.length n),(1,.string s),(7,Vi ss.length),(8,Vi k)]/\k<=ss.length/\i=ss.length-k/\(∀y∈ss.take k,¬s=y)/\f=h,
   ⟨_,_,Sq,G,0,B,Al _,B,(λy o=>by simp at o),B⟩,?_⟩
  rintro i A f ⟨k,rfl,x,rfl,a,rfl⟩ C;apply Bz<;>intro D;rotate_left
  .rw[Bj G] at a
   exact⟨B,-1,B,.inl ⟨B,a⟩⟩
  have g:k<ss.length:=G;obtain⟨j,E,e,_,q⟩:=r.at_ G;cases e;refine⟨G,_,ld B (by rw[BJ];exact q k _ (Dl g):Cell f j.block (j.off+(k:Int).toNat*1) (.string ss[k])),_,B,Ad (λb=>?_) (λb=>?_)⟩
  .exact⟨B,k,B,.inr ⟨k,ss[k],B,Ab g,CJ.1 b,a⟩⟩
  .exact⟨Pq,_,_,Sq,G,k+1,B,G,B,Tk g a (λe=>by rw[CJ.2 e] at b;cases b),B⟩
def c45 (c:Base S L) (r:Rd h v 1 ss.length (AR ss)) (e:ss.length<=1000000000):Bk S L 2 45 [v,.string s] h λw J=>J=h/\∃b:Bool,w=.bool b/\(b=Ag↔s∈ss):=
 Cn f45 c λd g _=>by
  refine⟨_,c84 c r e d G,?_⟩;rintro _ h1 ⟨rfl,z,rfl,a⟩;refine⟨B,_,B,?_⟩;rcases a with⟨rfl,a⟩|⟨k,x,rfl,f,rfl,_⟩
  .exact⟨(λh=>by cases h),λh=>Cf B (a s h)⟩
  .exact⟨λ_=>AZ f,λ_=>decide_eq_true G⟩
abbrev Eu:=Bd×Int
def ME (c:Eu):AH:=[.string c.1,.int .i64 c.2]
def T5 (h:Y) (v:Aa) (l:List Eu):Prop:=Rd h v 2 l.length (l.flatMap ME)
def c40 (f:Base S L) {c:Eu} (cs:Cell h b 0 (.string s)):Bk S L 1 40 [.agg ⟨ME c⟩,AG b 0] h λw J=>AA h J/\w=.bool (Gp c.1.data.toList s.data.toList):=
 Cn f40 f λd j _=>by
  obtain⟨g,y,a⟩:=(Sep.nil h).box Ax 47 (.agg ⟨ME c⟩);exact⟨_,_,y,_,ld B ((a.dD (i:=0) B:Own g h.nx 47 (ME c)).cell B),_,ld B (cs.ext a.e),_,B,a.e,B⟩
def c13 (a:Base S L) {l:List Eu} (r:T5 h v l) (N:l.length<=1000000000):Bk S L 3 13 [v,.string s] h λw J=>AA h J/\∃z:Int,w=Vi z/\Acn (λc:Eu=>c.1=s) l z:=
 Cn f13 a λd u _=>by
  obtain⟨g,y,o⟩:=(Sep.nil h).box Ax 9 (.string s);have C:=Rd.ext r o.e;have Cw:Bk S L 2 39 [v,.func (.func 40) #[] #[AG h.nx 0]] g λw J=>AA g J/\∃z:Int,w=Vi z/\Acn (λc:Eu=>c.1=s) l z:=Co f39 a λd u=>by
   have O:=a.aI;obtain⟨D,E,rfl⟩:∃A c,v=.slice A l.length c:=by obtain⟨_,A,c,e,_⟩:=r;exact⟨A,c,e⟩
   refine⟨Dc B,λq A p=>∃k:Nat,A=[(0,.slice D l.length E),(1,.func (.func 40) #[] #[AG h.nx 0]),(7,Vi l.length),(8,Vi k)]/\k<=l.length/\q=l.length-k/\(∀y∈l.take k,¬y.1=s)/\AA g p,
    ⟨_,_,Sq,G,0,B,Al _,B,(λy F=>by simp at F),AA.refl _⟩,?_⟩
   rintro q A p ⟨k,rfl,P,rfl,b,x⟩ Q;apply Bz<;>intro R;rotate_left
   .rw[Bj G] at b
    exact⟨x,-1,B,.inl ⟨B,b⟩⟩
   have j:k<l.length:=G;obtain⟨a1,T,H,_,t⟩:=(C.ext x).el j;cases H;rw[flatK (f:=ME) (λ_=>rfl) l (Ab j)] at t;refine⟨G,_,EQ Kq (show BK p a1.block (a1.off+(k:Int).toNat*2) (ME l[k]) from t) B,_,c40 a (((o.dD (i:=0) B).cell B:Cell g h.nx 0 (.string s)).ext x) d G,?_⟩;rintro _ K ⟨m,rfl⟩;refine Ad (λn=>?_) (λn=>?_)
   .exact⟨x.trans m,k,B,.inr ⟨k,l[k],B,Ab j,CJ.1 n,b⟩⟩
   .exact⟨Pq,_,_,Sq,G,k+1,B,G,B,Tk j b (λe=>by rw[CJ.2 e] at n;cases n),x.trans m⟩
  refine⟨_,_,y,_,Cw d G,?_⟩;rintro _ K ⟨m,z,rfl,M⟩;exact⟨o.e.trans m,z,B,M⟩
def UV (h:Y) (r:Nat) (a:BZ):Prop:=r<h.nx/\∃es ck,h.t.get r=I (.map es ck)/\es.map (λe:Ap=>(e.key,e.val))=a.map λt=>(Value.string t,CU Ag)
def UV.ae {W:Nat->Prop} {h J:Y} {r:Nat} {a:BZ} (m:UV h r a) (c:B0 W h J) (b:¬W r):UV J r a:=⟨AC m.1 c.nx,by rw[c.t r m.1 b];exact m.2⟩
def Aem (t:Bd):∀(es:List Ap) (a:BZ) (i:Nat),es.map (λe:Ap=>(e.key,e.val))=a.map (λt=>(Sg t,CU Ag))->
 (CE Ax 9 (Sg t) es i=I Z/\t∉a)\/∃j e,CE Ax 9 (Sg t) es i=I (I (j,e))/\e.val=.bool Ag/\t∈a
 |[],[],i,_=>.inl ⟨B,by simp⟩
 |[],_::_,_,h=>by cases h
 |_::_,[],_,h=>by cases h
 |
  e::es,x::a,i,h=>by
  simp only[Bp,List.cons.injEq,Prod.mk.injEq] at h;obtain⟨⟨h1,d⟩,f⟩:=h;have g:IZ Ax Op.maxDepth 9 (Sg t) (Sg x)=I (Gp t.data.toList x.data.toList):=rfl;rw[CE,h1,g];cases b:Gp t.data.toList x.data.toList with
  |true=>exact .inr ⟨i,e,B,d,by rw[CJ.1 b];exact Av⟩
  |
   false=>
   rcases Aem t es a (i+1) f with⟨f1,f2⟩|⟨j,k,f1,f2,f3⟩
   .refine .inl ⟨f1,λc=>?_⟩
    rcases List.mem_cons.1 c with rfl|c
    .rw[CJ.2 rfl] at b;cases b
    .exact f2 c
   .exact .inr ⟨j,k,f1,f2,Az _ f3⟩
def Axy {h:Y} {r:Nat} {a:BZ} (m:UV h r a) (t:Bd):∃b:Bool,BW Ax 72 (.map (I r)) (Sg t) Ah h=I (.bool b)/\(b=Ag↔t∈a):=by
 obtain⟨_,es,ck,h1,f⟩:=m;have c:Ax.ds.get 72=I (.map 9 4):=by rfl
 have g:CP Ax 4=I (.bool Ah):=Kq;have d:Do Ax 5 9 (Sg t)=true:=by rfl
 unfold BW;rcases Aem t es a 0 f with⟨f1,f2⟩|⟨j,e,f1,f2,f3⟩
 .exact⟨Ah,by simp only[c,d,D1,h1,f1,g];rfl,λh=>(by cases h),λh=>Cf h f2⟩
 .exact⟨Ag,by simp only[c,d,D1,h1,f1,f2];rfl,λ_=>f3,λ_=>rfl⟩
def AEw {h:Y} {r:Nat} {a:BZ} (m:UV h r a) (t:Bd) (c:t∉a):∃J,BH Ax 72 (.map (I r)) (Sg t) (.bool Ag) h=I J/\UV J r (a++[t])/\Er r h J:=by
 obtain⟨d,es,ck,h1,b⟩:=m;have f:Ax.ds.get 72=I (.map 9 4):=by rfl
 have g:Do Ax 5 9 (Sg t)=true:=by rfl
 unfold BH;rcases Aem t es a 0 b with⟨f1,_⟩|⟨j,e,f1,_,f3⟩
 .exact⟨h.put r (.map (es++[({key:=.string t,val:=.bool Ag,born:=ck}:Ap)]) (ck+1)),by simp only[f,g,D1,h1,f1],⟨by rw[Cc];exact d,_,_,by rw[BQ,Bi B],by simp[b]⟩,Er.put _ _ _⟩
 .exact Cf f3 c
open Classical in
def Gz (most:Nat) (a:Int) (cs:List Eu) (t:Bd):List Eu:=if cs.length<most/\t∉cs.map Eh then cs++[(t,a)] else cs
structure H7 (h:Y) (N ob kb mb km:Nat) (cv:Aa) (most:Nat) (cs:List Eu):Prop where
 o:Own h ob 41 [cv]
 s:AS h N 47 2 cv cs.length (cs.flatMap ME)
 k:Cell h kb 0 (.map (I km))
 m:Cell h mb 0 (.int .i64 most)
 t:UV h km (cs.map Eh)
 ne:ob≠kb/\ob≠mb/\ob≠km/\kb≠km/\mb≠km
 b:∀i,BY cv i->i≠ob/\i≠kb/\i≠mb/\i≠km
def H7.ext {h J:Y} {N ob a c d most:Nat} {cv:Aa} {cs:List Eu} (O:H7 h N ob a c d cv most cs) (x:AA h J):H7 J N ob a c d cv most cs:=
 ⟨O.o.ext x,O.s.ext x,O.k.ext x,O.m.ext x,O.t.ae (x.ae λ_=>False) λh=>h,O.ne,O.b⟩
def c24 (aa:Base S L) {h:Y} {N ob n o j most:Nat} {cv v:Aa} {cs:List Eu} {g:Int} {a:BZ} (O:H7 h N ob n o j cv most cs) (hN:N<=h.nx) (hm:most<=1000) (r:Rd h v 1 a.length (AR a)) (ad:a.length<=1000000) (hr:∀i,BY v i->i≠ob/\i≠j/\¬BY cv i):
 Bk S L 1 24 [Vi g,v,AG ob 0,AG o 0,AG n 0] h λ_ J=>∃p,H7 J N ob n o j p most (a.foldl (Gz most g) cs)/\B0 (λi=>i=ob\/i=j\/BY cv i) h J/\∀i,BY p i->BY cv i\/h.nx<=i:=
 Cn f24 aa λd ae hL=>by
  have af:=r.aw;obtain⟨H,x,rfl⟩:∃A c,v=.slice A a.length c:=by obtain⟨_,A,c,e,_⟩:=r;exact⟨A,c,e⟩
  refine⟨λK A u=>∃(k:Nat) (p:Aa),A=[(0,Vi g),(2,AG ob 0),(3,AG o 0),(4,AG n 0),(9,.slice H a.length x),(10,Vi a.length),(11,Vi k)]/\k<=a.length/\K=a.length-k/\H7 u N ob n o j p most ((a.take k).foldl (Gz most g) cs)/\B0 (λi=>i=ob\/i=j\/BY cv i) h u/\∀i,BY p i->BY cv i\/h.nx<=i,
   ⟨_,_,Sq,G,0,cv,B,Al _,B,O,(AA.refl h).ae _,λi U=>.inl U⟩,?_⟩
  clear O;rintro K A u ⟨k,p,rfl,hk,rfl,O,c,hb⟩ ag;apply Bz<;>intro k1;rotate_left
  .rw[Bj G] at O
   exact⟨p,O,c,hb⟩
  have M:k<a.length:=G;have r':Rd u (.slice H a.length x) 1 a.length (AR a):=r.ae c λi U f=>by
   have:=hr i U;rcases f with f|f|f
   .exact this.1 f
   .exact this.2.1 f
   .exact this.2.2 f
  obtain⟨y,c',e,_,q⟩:=r'.at_ G;cases e;have q1:Cell u y.block (y.off+(k:Int).toNat*1) (Sg a[k]):=by rw[BJ];exact q k _ (Dl M)
  have st:(a.take (k+1)).foldl (Gz most g) cs=Gz most g ((a.take k).foldl (Gz most g) cs) a[k]:=by
   rw[A5 M,K1];rfl
  generalize(a.take k).foldl (Gz most g) cs=es at O st;obtain⟨A1,c1,rfl⟩:∃A c,p=.slice A es.length c:=by obtain⟨_,A,c,e,_⟩:=O.s.rd;exact⟨A,c,e⟩
  obtain⟨b,lb,P⟩:=Axy O.t a[k];have Q:Gz most g es a[k]=es->∀{A:As},Sub [(0,Vi g),(2,AG ob 0),(3,AG o 0),(4,AG n 0),(9,.slice (I y) a.length x),(10,Vi a.length),(11,Vi ((k+1:Nat):Int))] A->∃m' R,Sub R A/\m'<a.length-k/\∃(k:Nat) (p:Aa),R=[(0,Vi g),(2,AG ob 0),(3,AG o 0),(4,AG n 0),(9,.slice (I y) a.length x),(10,Vi a.length),(11,Vi k)]/\k<=a.length/\m'=a.length-k/\H7 u N ob n o j p most ((a.take k).foldl (Gz most g) cs)/\B0 (λi=>i=ob\/i=j\/BY cv i) h u/\∀i,BY p i->BY cv i\/h.nx<=i:=λe A ab=>
   ⟨_,_,ab,(show a.length-(k+1)<a.length-k by omega),k+1,_,B,G,B,by rw[st,e];exact O,c,hb⟩
  refine⟨G,_,ld B q1,_,ld B (O.o.cell (i:=0) B),_,ld B O.m,Bz (λk2=>?_) (λk2=>?_)⟩;rotate_left
  .exact⟨Pq,Q (by unfold Gz;rw[Bm G]) (Sq)⟩
  refine⟨_,ld B O.k,_,_,Cs (CN _) lb,_,_,B,Ad (λw=>?_) (λw=>?_)⟩;rotate_left
  .have w:b=true:=by simpa using w
   exact⟨Pq,Q (by unfold Gz;rw[Bm (λh=>h.2 (P.1 w))]) (Sq)⟩
  have w:b=false:=by simpa using w
  have T:a[k]∉es.map Eh:=λh=>by have:=P.2 h;rw[w] at this;cases this
  have ea:Gz most g es a[k]=es++[(a[k],g)]:=by unfold Gz;rw[Bi ⟨G,T⟩]
  obtain⟨E,u2,m2,C⟩:=AEw O.t a[k] T;have ah:es.length<most:=G;have V:Own E ob 41 [_]:=O.o.ah C O.ne.2.2.1;have s2:=O.s.ah C λi U=>(O.b i U).2.2.2;have ai:E.nx=u.nx:=C.nx;have aj:N<=u.nx:=Ao hN c.nx;obtain⟨D,h3,t3,W,c3,X⟩:=Tz (τ:=Ax) (st:=41) (t2:=41) (e:=47) (k:=2) Kq s2 (ys:=[Sg a[k],Vi g]) B B G G;have o4:Own h3 ob 41 [_]:=V.ae c3 λf=>(O.b ob f).1 rfl;obtain⟨h5,u5,o5,F⟩:=Own.st (τ:=Ax) (t:=41) B o4 (i:=0) (v:=D) (HL 0) (D5 W);have ak:=O.o.1;have al:=O.k.1;have am:=O.m.1;have an:=O.t.1;have bw:∀i,BY D i->i≠ob/\i≠n/\i≠o/\i≠j:=λi U=>by
   rcases X i U with h1|h1
   .exact O.b i h1
   .exact⟨G,G,G,G⟩
  have c35:B0 (λi=>i=ob\/i=j\/BY (.slice A1 es.length c1) i) u h5:=((C.ae.mono λi U=>.inr (.inl U)).trans (c3.mono λi U=>.inr (.inr U))).trans (F.ae.mono λi U=>.inl U);have O':H7 h5 N ob n o j D most (es++[(a[k],g)]):=by
   refine⟨o5,?_,O.k.ae c35 λf=>?_,O.m.ae c35 λf=>?_,?_,O.ne,bw⟩
   .rw[Aj,E0]
    exact W.ah F λi U=>(bw i U).1
   .rcases f with f|f|f
    .exact O.ne.1 f.symm
    .exact O.ne.2.2.2.1 f
    .exact(O.b n f).2.1 rfl
   .rcases f with f|f|f
    .exact O.ne.2.1 f.symm
    .exact O.ne.2.2.2.2 f
    .exact(O.b o f).2.2.1 rfl
   .rw[BS]
    exact(m2.ae c3 λf=>(O.b j f).2.2.2 rfl).ae F.ae λe=>O.ne.2.2.1 e.symm
  refine⟨_,ld B O.k,_,_,Cs Nb u2,_,ld B (V.cell (i:=0) B),_,_,Iv (τ:=Ax) (t:=41) (e:=47) (k:=2) Kq (.agg #[Sg a[k],Vi g]) B B (by decide) E,_,_,t3,_,u5,Pq,
   _,_,CG (l:=[(0,_),(2,_),(3,_),(4,_),(9,_),(10,_),(11,Vi ((k+1:Nat):Int))]) ⟨B,B,B,B,B,B,Cs (λz=>I (Vi z)) (G),trivial⟩,(show a.length-(k+1)<a.length-k by omega),k+1,D,B,G,B,by rw[st,ea];exact O',c.then c35 λi U=>?_,λi U=>?_⟩
  .rcases U with U|U|U
   .exact .inl (.inl U)
   .exact .inl (.inr (.inl U))
   .exact(hb i U).imp (λh=>.inr (.inr h)) id
  .rcases X i U with h1|h1
   .exact hb i h1
   .have:=c.nx;exact .inr G
section
variable{τ:Bb} {h0 h:Y} {l:List Ct}
def Sep.cT (t:Ai) (v:Aa) (s:Sep h0 h l):∃g,K7 τ t v h.ad=I (AG h.nx 0,g)/\Sep h0 (h.aa g) (aO h.nx t (AJ v)::l):=by
 obtain⟨g,y,a⟩:=(Sep.nil h.ad).box τ t v;have o:=a.dD (i:=0) B;rw[BF] at y o;exact⟨g,y,s.cf a.e o λi U=>A2 U.symm⟩
def Sep.dt {z:Aa} (b:CP Ax t=I z) (s:Sep h0 h l):∃g,(∀A,D9 Ax A h.ad (.alloc t)=I (AG h.nx 0,g))/\Sep h0 (h.aa g) (aO h.nx t (AJ z)::l):=by
 obtain⟨g,y,a⟩:=(Sep.nil h.ad).al b;have o:=a.dD (i:=0) B;rw[BF] at o;exact⟨g,λA=>by rw[y,BF],s.cf a.e o λi U=>A2 U.symm⟩
def Sep.cx {z:Aa} (e:CP Ax t=I z) (s:Sep h0 h l) (a:(match Ax.aj.get t with|some i=>Am (AJ v).length i.size|none=>Ah)=Ag) (f:(AJ v).length=(AJ z).length) (h1:(AJ v).all one=Ag):
 ∃g,(∀A,D9 Ax A h.ad (.alloc t)=I (AG h.nx 0,g))/\∃b,BA Ax t (h.aa g).ad h.nx 0 v=I b/\Sep h0 ((h.aa g).aa b) (aO h.nx t (AJ v)::l):=by
 obtain⟨g,y,c⟩:=s.dt e;obtain⟨J,j,d,k⟩:=((c.dD (i:=0) B).ext (AA.ad _):Own (h.aa g).ad h.nx t (AJ z)).bb (i:=0) G h1;refine⟨g,y,J,?_,?_⟩
 .unfold BA
  split at a
  .rename_i i U
   simp[U,a,D1,j]
  .cases a
 .have:=JB (AJ v) [] (AJ z) f
  simp[IW,Acd] at this;rw[this] at d;exact c.aZ (i:=0) B k.ae d λx m=>.inl m
end
def Akq {e h:Y} {a f:Nat} {g:Aa} {es os:List IE} {l:List (Ga×Int)} (P:HX e h q a f n v g fv es os l) (Cw:Ga):∃(ev:Aa) (st:Nat) (h1 b:Y),
 BW Ax 103 (.map (I a)) (kV Cw) Ah h.ad=I (Vi ((N3 Cw l).getD 0))/\D6 Ax 103 (.map (I a)) (kV Cw) h.ad=I (.tuple #[ev,Vi (AQ st)],h1)/\
 DM (.map (I a)) (Vi (AQ st)) (Vi ((N3 Cw l).getD 0+1)) (h.aa h1).ad=I b/\HX e ((h.aa h1).aa b) q a f n v g fv es os (RW Cw ((N3 Cw l).getD 0+1) l)/\B0 (·=a) h ((h.aa h1).aa b)/\h1.lo=.one a/\
 BW Ax 103 (.map (I a)) (kV Cw) Ah ((h.aa h1).aa b)=I (Vi ((N3 Cw l).getD 0+1)):=by
 have M:=P.S.ae ((AA.ad h).ae λ_=>False) λh=>h;obtain⟨ev,st,h1,j,d,H⟩:=AAb M Cw ((N3 Cw l).getD 0+1);obtain⟨b,k,m,o⟩:=H (h.aa h1).ad (by rw[Ow,DF]) (by rw[BF,CL,d.nx];exact M.1);have c:=d.aa.ae.trans o.aa.ae;have i:N6 ((h.aa h1).aa b) a (RW Cw ((N3 Cw l).getD 0+1) l):=m.aa;refine⟨ev,st,h1,b,Aoa M Cw,j,k,P.seen c i,c,by rw[d.lo,DZ];rfl,?_⟩;rw[Aoa i Cw,Qb,Bi (Ox.2 rfl)];rfl
namespace A6
def Aui {s:A6} {Q q:List Ed} {K:List (Int×Bd)} {o:List Ed} {p:Ed} (a:Oa Q=I (p,q)) (h:Cw p∈K):s.next (Q,K,o)=(q,K,o):=by
 unfold next;simp only[a];rw[Bi h]
def Azk {s:A6} {Q q:List Ed} {K:List (Int×Bd)} {o:List Ed} {p:Ed} (a:Oa Q=I (p,q)) (h:¬Cw p∈K) (b:p.dn=Ag):s.next (Q,K,o)=(q,Cw p::K,o++[p]):=by
 unfold next;simp only[a];rw[Bm h,Bi b]
def Azl {s:A6} {Q q:List Ed} {K:List (Int×Bd)} {o:List Ed} {p:Ed} (b:Oa Q=I (p,q)) (h:¬Cw p∈K) (d:¬p.dn=Ag) (e:(s.nN p.lj).t=s.T):s.next (Q,K,o)=(⟨p.ns,p.c,p.a,p.tx,Ag⟩::q,Cw p::K,o):=by
 unfold next;simp only[b];rw[Bm h,Bm d,Bi e]
def Auj {s:A6} {Q q:List Ed} {K:List (Int×Bd)} {o:List Ed} {p:Ed} (a:Oa Q=I (p,q)) (h:¬Cw p∈K) (b:¬p.dn=Ag) (c:¬(s.nN p.lj).t=s.T):s.next (Q,K,o)=(s.Aou p++q,Cw p::K,o):=by
 unfold next;simp only[a];rw[Bm h,Bm b,Bm c]
end A6
def Rnd (s:A6) (r n:Int) (a:Y) (q b c:Nat) (fv:Aa) (k:Nat) (d:Aa) (h:Y):Prop:=k<=25000000000000/\(∀i,i<k->(s.St r i).1≠[]/\((s.St r i).2.2.length:Int)<n)/\
 ∃(m:Nat) (v:Aa) (es os:List IE) (l:List (Ga×Int)),HX a h q b c m v d fv es os l/\(es.map IE.P).Perm (s.St r k).1/\(∀j,(N3 j l).isSome=Ag↔j∈(s.St r k).2.1)/\(∀j z,N3 j l=I z->1<=z/\z<=k)/\os.map IE.P=(s.St r k).2.2
def Rnd.next {s:A6} {r n:Int} {d J:Y} {q f g k m':Nat} {fv m v':Aa} {b c:List IE} {l:List (Ga×Int)} {Cw:Ga} {X:List Ed×List (Int×Bd)×List Ed} (p:k<25000000000000) (t:∀i,i<k->(s.St r i).1≠[]/\((s.St r i).2.2.length:Int)<n) (u:(s.St r k).1≠[]) (v:((s.St r k).2.2.length:Int)<n)
 (w:∀j,(N3 j l).isSome=Ag↔j∈(s.St r k).2.1) (o:∀j z,N3 j l=I z->1<=z/\z<=k) (e:s.next (s.St r k)=X) (P:HX d J q f g m' v' m fv b c (RW Cw ((N3 Cw l).getD 0+1) l)) (x:(b.map IE.P).Perm X.1) (A:∀j,j∈X.2.1↔j=Cw\/j∈(s.St r k).2.1) (C:c.map IE.P=X.2.2):Rnd s r n d q f g fv (k+1) m J:=by
 subst e;refine⟨p,λi U=>?_,m',v',b,c,_,P,x,λj=>?_,λj z a=>?_,C⟩
 .by_cases h1:i=k
  .subst h1;exact⟨u,v⟩
  .exact t i G
 .show _↔j∈(s.next (s.St r k)).2.1
  rw[A,Qb];by_cases h1:kQ j Cw=Ag
  .rw[Bi h1];exact⟨λ_=>.inl (Ox.1 h1),λ_=>rfl⟩
  .rw[Bm h1,w];exact⟨.inr,λh=>h.elim (λe=>Cf (Ox.2 e) h1) id⟩
 .rw[Qb] at a
  by_cases h1:kQ j Cw=Ag
  .rw[Bi h1] at a
   cases a;cases D:N3 Cw l with
   |none=>exact⟨by decide,by show(0:Int)+1<=_;omega⟩
   |some y=>have:=o Cw y D;show 1<=y+1/\y+1<=_;omega
  .rw[Bm h1] at a
   have:=o j z a;omega
def Sep.cast {h0 h:Y} {l l':List Ct} (s:Sep h0 h l) (e:l=l'):Sep h0 h l':=e▸s
def HW.dr {h J:Y} {N q n:Nat} {v:Aa} {es:List IE} (H:HW h N q n v es) (c:B0 (λi=>i=q\/BY v i) h.ad J):N5 h J.lo:=by
 refine c.de λi U=>.inl ?_;rcases U with rfl|U
 .obtain⟨_,a,x,h1,_⟩:=H.c
  exact⟨_,h1,B⟩
 .exact H.o.live U
def ACk (ab:Base S L) {a h:Y} {u O sb x w o lp rm q n:Nat} {s:A6} {nv v:Aa} {l:List (Nat×Int)} {es:List IE} {p:IE} (E:AA a h) (X:Jm a x s lp nv rm) (y:s.V.Ok) (M:FG a rm l) (hl:∀k,Hs l k=s.rest k) (sm:Lp l) (cs:Cell a sb 0 (AG x 0)) (cl:Cell a O 0 (AG lp 0))
 (ca:Own h u 99 [.func (.func 30) #[] #[AG sb 0,AG q 0]]) (ad:u≠q/\¬BY v u) (ci:Cell h w 0 (AG p.b 0)) (ae:w≠q/\¬BY v w) (cb:Cell h o 0 (.int .i64 p.P.lj)) (af:o≠q/\¬BY v o) (ip:Ix h p) (fp:∀i,p.am i->i≠q/\¬BY v i) (A:s.ADf p.P)
 (hF:0<=s.F/\s.T-s.F<=64) (H:HW h a.nx q n v es) (hq:a.nx<=q) (hh:Em Jk n es) (hn:n<=25000000000001):
 Bk S L 11 33 [AG x 0,.int .i64 (s.nN p.P.lj).t,.func (.func 37) #[] #[AG u 0,AG w 0,AG O 0,AG o 0]] h λ_ J=>Hr h J a.nx q v es (s.Aou p.P):=by
 have au:=H.c.1;have ag:=H.o.aw;have ah:=H.o.ai;have av:=A.j;have aw:=A.len;have ax:=A.tx;have ay:=A.c;have ext:∀{d:Y},B0 (λi=>i=q\/BY v i) h d->AA a d:=λc=>E.then c λi U=>U.elim (λe=>by rw[e];exact hq) (ah i)
 refine(c33 (e:=8) (p:=(s.nN p.P.lj).t) ab (X.ext E) y (λD N d=>(h.nx<=N/\N<=d.nx)/\∃(n':Nat) (v':Aa) (g:List IE),HW d a.nx q n' v' g/\Em Jk n' g/\(g.map IE.P).Perm ((D.filterMap λj=>(s.rest j).map (s.AGz p.P j))++es.map IE.P)/\B0 (λi=>i=q\/BY v i) h d/\(∀i,BY v' i->BY v i\/N<=i)/\∀e∈g,e∈es\/∀i,e.am i->h.nx<=i)
  (λD N d j=>X.ext (ext j.2.choose_spec.choose_spec.choose_spec.2.2.2.1)) (λd x=>⟨⟨x.nx,Ae _⟩,n,v,es,H.ext x,hh,List.Perm.refl _,x.ae _,λi U=>.inl U,λe Q=>.inl Q⟩) ⟨37,#[],#[AG u 0,AG w 0,AG O 0,AG o 0],B,?_⟩).mono ?_
 .rintro D N d j ⟨⟨R,n2⟩,n',v',g,Q',W,C,c,b,f⟩ hj ai
  obtain⟨k1,k2,k3,k4⟩:=A6.cj y hj;have z:=ext c;have aj:=ai.length_le;have h1:(s.kids (s.nN p.P.lj).t).length<=(s.V.from_ (s.nN p.P.lj).t).length:=D7 _ _;have h2:=Cb.aY y (s.nN p.P.lj).t;have h3:=y.len;have h4:(D.filterMap λj=>(s.rest j).map (s.AGz p.P j)).length<=D.length:=KH _ _;have l1:=C.length_eq;rw[Aj,A4,A4,Q'.len,H.len] at l1;rw[Aj,Br] at aj;have K:∀{i:Nat},i≠q/\¬BY v i->¬(i=q\/BY v i):=λh hw=>hw.elim h.1 h.2;refine(c37 (x:=x) (sb:=sb) (rb:=o) (i:=p.P.lj) (p:=p) ab ((ca.ae c (K ad)).cell (i:=0) B) (ci.ae c (K ae)) (cl.ext z) (cb.ae c (K af)) (cs.ext z) (X.ext z) y (M.ext z) hl sm k1 (ip.ae c λi U=>K (fp i U)) G G G Q' W (by have:=z.nx;omega) G).mono ?_;rintro _ J ⟨ak,al,am,an,ao,ap,aa,aq,ar⟩;refine⟨⟨⟨R,Ao n2 aa.nx⟩,ak,al,am,an,ao,?_,c.then aa λi U=>?_,λi U=>?_,λe Q=>?_⟩,aa.mono λi U=>?_⟩
  .refine ap.trans ?_
   rw[ZD];have e1:((s.rest j).map (s.b4 (I p.P) j (s.V.aW p.P.lj j))).toList=[j].filterMap λj=>(s.rest j).map (s.AGz p.P j):=by
    cases hr:s.rest j with
    |none=>rw[WZ (by rw[hr];rfl)];rfl
    |some m=>rw[W2 (by rw[hr];rfl)];rfl
   rw[e1];refine(C.append_left _).trans ?_;rw[←KA];exact List.perm_append_comm.append_right _
  .rcases U with U|U
   .exact .inl (.inl U)
   .exact(b i U).imp .inr λh=>G
  .rcases aq i U with r|r
   .exact b i r
   .exact .inr G
  .rcases ar e Q with r|r
   .exact f e r
   .exact .inr λi U=>by have:=r i U;omega
  .rcases U with U|U
   .exact .inl G
   .exact(b i U).imp (λh=>ag i h) id
 .rintro _ J ⟨N,⟨R,n2⟩,n',v',g,Q',W,C,c,b,f⟩
  exact⟨n',v',g,Q',W,C,c,λi U=>(b i U).imp id λh=>Ao R h,f⟩
def Ael (h0 h:Y) (V:Cb) (F T r a n:Int) (w:Aa):Prop:=
 ((F<0\/T<=F\/(V.fs.length:Int)<T)/\w=.slice Z 0 0)\/((0<=F/\F<T/\T<=V.fs.length)/\∃(k:Nat) (os:List IE),A6.Ends ⟨V,F,T,a⟩ r (min n 200) k/\os.map IE.P=(A6.St ⟨V,F,T,a⟩ r k).2.2/\AS h h0.nx 50 3 w os.length (os.flatMap Lg)/\∀e∈os,one e.nv=Ag)
def J12 (h:Y) (lp:Nat) (V:Cb) (F T r d n:Int) (A:As) (a:Y):Prop:=∃(b c rb xs x rm:Nat) (nv:Aa) (e:Y),A=[(4,.int .i64 n),(5,AG b 0),(6,AG c 0),(7,AG rb 0),(11,AG xs 0)]/\AA h a/\SrB e ⟨V,F,T,d⟩ lp nv rm/\AA e a/\x≠rm/\
 (∀(i:Nat) v,(P5 ⟨V,F,T,d⟩ lp nv rm)[i]?=I v->Cell a x i v)/\FG a rm []/\(Cell a b 0 (AG lp 0)/\b≠rm)/\(BK a c 0 [.int .i64 F,.int .i64 T]/\c≠rm)/\(Cell a rb 0 (.int .i64 r)/\rb≠rm)/\Cell a xs 0 (AG x 0)/\xs≠rm/\h.nx<=rm
def c12 (ab:Base S L) {V:Cb} (A:EI h lp V) (ok:V.Ok) {F T r g n:Int} (hn:n<=60):Bk S L 13 12 [AG lp 0,.agg #[Vi F,Vi T],Vi r,Vi g,Vi n] h λw J=>AA h J/\Ael h J V F T r g n w:=
 Nu (fn:=f12) ab Kq B 3 (J12 h lp V F T r g n) λd dn=>by
  have hL:=ab.aI;obtain⟨g1,y1,s1⟩:=(Sep.nil h).box Ax 37 (AG lp 0);obtain⟨g2,y2,s2⟩:=s1.box Ax 32 (.agg #[Vi F,Vi T]);obtain⟨u,y3,s3⟩:=s2.box Ax 3 (Vi r);obtain⟨lb,bi⟩:∃lb,lb=h.nx:=⟨_,B⟩;obtain⟨K,ay⟩:∃K,K=g1.nx:=⟨_,B⟩;obtain⟨rb,bj⟩:∃rb,rb=g2.nx:=⟨_,B⟩;have cl:Cell u lb 0 (AG lp 0):=by rw[bi];exact(s3.dD (i:=2) B).cell B
  have cF:Cell u K 0 (Vi F):=by rw[ay];exact(s3.dD (i:=1) B).cell B
  have cT:Cell u K 1 (Vi T):=by rw[ay];exact(s3.dD (i:=1) B).cell B
  have cr:Cell u rb 0 (Vi r):=by rw[bj];exact(s3.dD (i:=0) B).cell B
  rw[←bi] at y1;rw[←ay] at y2;rw[←bj] at y3;have ah:AA h u:=s3.e;have a9:∀{H:Y},AA h H->(F<0\/T<=F\/(V.fs.length:Int)<T)->AA h H/\Ael h H V F T r g n (sN):=λx hb=>⟨x,.inl ⟨hb,B⟩⟩;have bk:=A.ext ah;refine⟨Dc B,?_,?_⟩;rotate_left
  .rintro A0 dp ⟨lb,K,rb,xs,x,rm,nv,g0,rfl,X,b,E,hx,cx,M,⟨cl,b8⟩,⟨cp,b9⟩,⟨cr,ca⟩,cs,cb,bl⟩
   refine⟨_,ld B cs,_,c29 ab b E hx cx M d G,?_⟩;rintro _ gc ⟨cc,l,bm,hl⟩;have ae:Jm gc x ⟨V,F,T,g⟩ lp nv rm:=b.at_ E cc (λi U=>by rw[show i=rm from U];exact b.rm) hx cx;obtain⟨az,cn,rfl⟩:=ae.lit;have hF:=b.F;have hN:=b.ok.N;have sm:Lp l:=λk z hz=>by
    rw[hl] at hz;have:=A6.a9 b.ok ae.A _ _ _ hz;have h1:0<=F/\F<T/\T<=(V.fs.length:Int):=hF;have h2:((A6.mk V F T g).T-(A6.mk V F T g).F).toNat<=64:=by show(T-F).toNat<=64;have:V.fs.length<=64:=hN.2;omega
    omega
   have cl:=cl.ae cc b8;have cp:=cp.ae cc b9;have cr:=cr.ae cc ca;have cs:=cs.ae cc cb;obtain⟨ga,ya,sa⟩:=(Sep.nil gc).al (z:=sN) Kq;obtain⟨gb,yb,gd,yd,sd⟩:=sa.var (t:=99) (z:=.nilFunc) Kq (v:=.func (.func 30) #[] #[AG xs 0,AG gc.nx 0]) B B B;obtain⟨q,hq⟩:∃q,q=gc.nx:=⟨_,B⟩;obtain⟨R,bn⟩:∃R,R=ga.nx:=⟨_,B⟩;rw[←bn] at yb yd;rw[←hq] at ya yd;have oq:Own gd q 89 [sN]:=by rw[hq];exact sd.dD (i:=1) B
   have oa:Own gd R 99 [.func (.func 30) #[] #[AG xs 0,AG q 0]]:=by rw[bn,hq];exact sd.dD (i:=0) B
   have bo:R≠q:=by have:=(sa.dD (i:=0) B).1;omega
   have xd:AA gc gd:=sd.e;have cd:Cell gd K 0 (Vi F):=by
    have:=(cp.ext xd).at (i:=0) (v:=Vi F) B;exact this
   have dq:q<gd.nx:=oq.1;have dr:R<gd.nx:=oa.1;refine⟨_,_,ya _,_,_,yb _,_,yd,_,ld B (cs.ext xd),_,ld B cd,_,c33 (e:=8) (s:=⟨V,F,T,g⟩) ab (ae.ext xd) b.ok (λD N H=>(gd.nx<=N/\N<=H.nx)/\AA gc H/\Own H R 99 [.func (.func 30) #[] #[AG xs 0,AG q 0]]/\∃(n':Nat) (v':Aa) (af:List IE),HW H gc.nx q n' v' af/\Em Jk n' af/\(af.map IE.P).Perm (D.filterMap λj=>(A6.rest ⟨V,F,T,g⟩ j).map (A6.Axk ⟨V,F,T,g⟩ r j))/\(∀i,BY v' i->N<=i)/\n'<=D.length)
    (λD N H j=>ae.ext j.2.1) (λH x=>⟨⟨x.nx,Ae _⟩,xd.trans x,oa.ext x,0,sN,[],⟨oq.ext x,AS.nil _ _ _ _,(λ_ h=>by cases h),(λ_ h=>by cases h),λh=>h⟩,(λk _ _ _ h=>Cf h (F5 k)),List.Perm.refl _,(λi h=>h.elim),Ae _⟩)
    ⟨34,#[],#[AG R 0,AG lb 0,AG rb 0],B,?_⟩ d G,?_⟩
   .rintro D N H j ⟨⟨n1,n2⟩,xH,oH,n',v',af,Q',aq,pm,hv,ce⟩ hj cf
    obtain⟨k1,_⟩:=A6.cj b.ok hj;have bp:=cf.length_le;have h1:(A6.kids ⟨V,F,T,g⟩ F).length<=(V.from_ F).length:=D7 _ _;have h2:=Cb.aY b.ok F;have h3:=b.ok.len;rw[Aj,Br] at bp;have h4:D.length+1<=10000:=by
     have e1:(A6.mk V F T g).V.ns.length=V.ns.length:=rfl;have e2:((A6.mk V F T g).V.from_ F).length=(V.from_ F).length:=rfl;omega
    refine(c34 (x:=x) (sb:=xs) ab (oH.cell (i:=0) B) (cl.ext xH) (cr.ext xH) (cs.ext xH) (ae.ext xH) b.ok (bm.ext xH) hl sm k1 Q' aq (by have:=xH.nx;omega) G).mono ?_;rintro _ J ⟨cg,ch,ci,bq,cj,br,a0,ck,_⟩;have l1:=br.length_eq;rw[Aj,A4,A4,bq.len,Q'.len] at l1;have l2:((A6.rest ⟨V,F,T,g⟩ j).map (A6.b4 ⟨V,F,T,g⟩ Z j ((A6.mk V F T g).V.enter r j))).toList.length<=1:=by cases A6.rest ⟨V,F,T,g⟩ j<;>simp
    refine⟨⟨⟨n1,Ao n2 a0.nx⟩,xH.then a0 λi U=>?_,oH.ae a0 λhw=>?_,cg,ch,ci,bq,cj,?_,λi U=>?_,by rw[Aj,Br];omega⟩,a0.mono λi U=>?_⟩
    .rcases U with U|U
     .rw[U,hq];exact Ae _
     .have:=hv i U;have:=xd.nx;omega
    .rcases hw with hw|hw
     .exact bo hw
     .have:=hv R hw;omega
    .refine br.trans ?_
     rw[ZD];refine(ZC).trans ?_;refine pm.append ?_;cases hr:A6.rest ⟨V,F,T,g⟩ j with
     |none=>rw[WZ (by rw[hr];rfl)];exact List.Perm.refl _
     |some m=>rw[W2 (by rw[hr];rfl)];exact List.Perm.refl _
    .rcases ck i U with h5|h5
     .exact hv i h5
     .omega
    .rcases U with U|U
     .exact .inl G
     .exact .inr (hv i U)
   rintro _ h7 ⟨N,⟨n1,n2⟩,xH,oH,n',v',af,Q',aq,pm,hv,ce⟩;obtain⟨m8,bs⟩:∃m8,m8=h7.nx:=⟨_,B⟩;have ba:=AA.new h7 (.map [] 0);have bt:HX gc (h7.new (.map [] 0)) q m8 R n' v' (sN) (.func (.func 30) #[] #[AG xs 0,AG q 0]) af [] []:=by
    refine⟨xH.trans ba,Q'.ext ba,aq,⟨by rw[Ck];omega,[],0,by rw[CK,Bi bs],B,B⟩,AS.nil _ _ _ _,(λ_ h=>by cases h),oH.ext ba,⟨G,by have:=xH.nx;omega,by have:=sa.e.nx;omega⟩,⟨G,bo,G⟩,⟨λh=>?_,λh=>?_⟩,(λi h=>h.elim),λe he i U=>⟨?_,λh=>h.elim⟩,(λ_ h=>by cases h)⟩
    .have:=Q'.o.aw m8 h;omega
    .have:=hv R h;omega
    .have:=(Q'.i e he).a8 i U;omega
   obtain⟨fv,bu⟩:∃fv:Aa,fv=.func (.func 30) #[] #[AG xs 0,AG q 0]:=⟨_,B⟩;rw[←bu] at bt;refine⟨λμ A hh=>∃(k:Nat) (ov:Aa),A=[(4,Vi n),(5,AG lb 0),(6,AG K 0),(11,AG xs 0),(12,AG q 0),(13,AG R 0),(14,.map (I m8)),(15,ov)]/\μ=25000000000000-k/\Rnd ⟨V,F,T,g⟩ r (min n 200) gc q m8 R fv k ov hh,
    ⟨_,_,CG (l:=[(4,_),(5,_),(6,_),(11,_),(12,_),(13,_),(14,.map (I m8)),(15,sN)]) ⟨B,B,B,B,B,B,Cs (λz=>I (Value.map (I z))) bs.symm,B,trivial⟩,G,0,sN,B,B,Al _,(λi U=>Cf U (F5 i)),n',v',af,[],[],bt,pm,(λCw=>⟨(λh=>by cases h),(λh=>by cases h)⟩),(λCw z h=>by cases h),B⟩,?_⟩
   rintro μ A hh ⟨k,ov,rfl,rfl,hk,ai,m,v,es,os,l',P,hp,aj,ak,al⟩ ds;obtain⟨A1,c1,rfl⟩:∃A c,v=.slice A m c:=by obtain⟨_,A,c,e,_⟩:=P.Q.o.rd;exact⟨A,c,e⟩
   obtain⟨bv,c2,rfl⟩:∃A c,ov=.slice A os.length c:=by obtain⟨_,A,c,e,_⟩:=P.O.rd;exact⟨A,c,e⟩
   have cm:=P.Q.len;have dt:os.length=(A6.St ⟨V,F,T,g⟩ r k).2.2.length:=by rw[←al,A4]
   have Da:((A6.St ⟨V,F,T,g⟩ r k).1=[]\/min n 200<=((A6.St ⟨V,F,T,g⟩ r k).2.2.length:Int))->AA h hh/\Ael h hh V F T r g n (.slice bv os.length c2):=λhe=>
    ⟨((X.then (cc.mono λi U=>U) λi U=>by rw[show i=rm from U];exact bl).trans P.x:AA h hh),.inr ⟨hF,k,os,⟨ai,he⟩,al,P.O.mono (by have:=X.nx;have:=cc.nx;omega),λe he=>(P.I e he).n.one⟩⟩
   refine⟨_,ld B (P.Q.c.cell (i:=0) B),Bz (λk1=>?_) (λk1=>?_)⟩;rotate_left
   .have cq:es=[]:=BO G
    rw[cq] at hp;exact Da (.inl hp.symm.eq_nil)
   intro z hz;apply Bz<;>intro k2;rotate_left
   .exact Da (.inr G)
   have bb:=A6.CV b.ok ae.A hF r k λi U=>(ai i U).1;have du:=bb.sum b.ok (by show T-F<=64;have h1:0<=F/\F<T/\T<=(V.fs.length:Int):=hF;have:V.fs.length<=64:=hN.2;omega) G;have bw:(A6.St ⟨V,F,T,g⟩ r k).1.length=m:=by rw[←hp.length_eq,A4,cm]
   obtain⟨m',rfl⟩:∃m',m=m'+1:=⟨m-1,G⟩;refine⟨_,c36 ab P.Q P.hp G d G,?_⟩;rintro w am ⟨p,v1,dv,rfl,pm,ct,cu,cv,c11,b1⟩;obtain⟨P1,ip,fp⟩:=P.pop pm cu cv c11 b1;obtain⟨q1,ar,a1⟩:=Aia bb hp pm ct;obtain⟨dw,cw,bc,cy,bd⟩:=(Sep.nil am).var (t:=90) (z:=.pointer Z) Kq (v:=AG p.b 0) B B B;refine⟨_,_,B,_,_,cw _,_,cy,?_⟩;have a2:=bb.ok p.P ((HN ar).1.mem_iff.2 Av);have au:=ip.ext bd.e;have PT:Cell bc am.nx 0 (AG p.b 0):=(bd.dD (i:=0) B).cell (i:=0) B;obtain⟨be,cz,f⟩:=p;obtain⟨dx,an,rfl⟩:∃A c,cz=.slice A f.ns.length c:=by obtain⟨_,A,c,e,_⟩:=au.n;exact⟨A,c,e⟩
   have bp:0<f.ns.length:=List.length_pos_iff.2 a2.ne;obtain⟨ag,rfl,ql⟩:=au.n.int (k:=f.ns.length-1) G;have dy:f.ns.length<=1000000:=au.l;have c0:f.ns[f.ns.length-1]'G=f.lj:=by
    unfold Ed.lj;rw[List.getLastD_eq_getLast?,List.getLast?_eq_getElem?,Ab G];rfl
   rw[c0] at ql;obtain⟨c3,c5,c6,c7,av⟩:=bd.cx (t:=3) (z:=Vi 0) Kq (v:=Vi f.lj) B B B;refine⟨[],Kq,_,ld B PT,_,ld B (au.c 0 _ B),_,ld B PT,_,ld B (au.c 0 _ B),Pq,G,_,Dz (ld B ql) (by show ag.off+(((f.ns.length:Nat):Int)-1).toNat*1=ag.off+(f.ns.length-1)*1;omega),_,_,c5 _,_,c7,?_⟩;have Xc:=(av.dD (i:=0) B).cell (i:=0) B;have PT:=(av.dD (i:=1) B).cell (i:=0) B;obtain⟨dz,c8,ea,c9,a3⟩:=av.cx (t:=107) (z:=.agg #[Vi 0,Sg ⟨#[]⟩]) Kq (v:=.agg #[Vi f.lj,Sg f.tx]) B B B;have PT:=(a3.dD (i:=2) B).cell (i:=0) B;obtain⟨Cw,ao⟩:∃Cw,Cw=A6.Cw f:=⟨_,B⟩;have a4:k<25000000000000:=G;have a5:(A6.St ⟨V,F,T,g⟩ r k).1≠[]:=λe=>by rw[e] at bw;cases bw
   have a6:((A6.St ⟨V,F,T,g⟩ r k).2.2.length:Int)<min n 200:=G;have Sm:0<=(N3 Cw l').getD 0/\(N3 Cw l').getD 0<=k:=by
    cases h2:N3 Cw l' with
    |none=>exact⟨Int.le_refl _,by show(0:Int)<=_;omega⟩
    |some y=>have:=ak Cw y h2;show 0<=y/\y<=_;omega
   have eb:m8<am.nx:=P1.S.1;have da:f.tx=Cw.2:=by rw[ao];rfl
   refine⟨[],Kq,_,ld B Xc,_,ld B ((av.dD (i:=1) B).cell (i:=0) B),_,ld B ((ip.ext av.e).c 3 _ B),_,_,c8 _,_,c9,_,ld B PT,_,ld B ((ip.ext a3.e).c 4 _ B),Ad (λkd=>?_) (λkd=>?_)⟩;obtain⟨ec,db,aa⟩:=a3.st (t:=3) B (i:=0) B (j:=0) (by show 0<2;decide) (v:=Vi (-1)) B;have bx:Cw.1=-1:=by rw[ao];exact Bi kd
   refine⟨_,db,?_⟩;rotate_left;have aa:=a3;have bx:Cw.1=f.lj:=by rw[ao];exact Bm (by rw[kd];simp)
   all_goals
    have aa:=aa.cast (l':=[aO ((bc.aa c3).aa c6).nx 107 [Vi Cw.1,Sg Cw.2],aO bc.nx 3 [Vi f.lj],aO am.nx 90 [AG be 0]]) (by rw[bx,←da];rfl);have dc:=P1.ext aa.e;obtain⟨ev,st,ed,ee,e1,e2,e3,C,Sn,dd,e4⟩:=Akq dc Cw;have W:=(ip.ext aa.e).ae Sn λi U=>(fp i U).1;have kc:=(aa.dD (i:=0) B).cells;have kn:∀{i:Nat},am.nx<=i->¬i=m8:=λh=>G;have b1:=aa.ge (i:=1) B _ B;have k2:=kc.ae Sn (kn (aa.ge (i:=0) B _ B));have PT:=((aa.dD (i:=2) B).cell (i:=0) B).ae Sn (kn (Ae _));have Xc:=((aa.dD (i:=1) B).cell (i:=0) B).ae Sn (kn b1);have aw:=C.x;have bz:=ae.ext aw;obtain⟨_,b0,rfl,q2⟩:=bz.nd (j:=f.lj) a2.j.1;have de:Cell _ K 1 (Vi T):=(cp.ext aw).at (i:=1) B;have ef:=P1.Q.c.1;have bf:=cs.ext aw;have b2:=bz.c 1 _ B;have eg:f.lj<(A6.mk V F T g).V.ns.length:=a2.j.1;have bg:=P1.Q.o.aw;refine⟨[.x 4 2],Kq,_,EQ (k:=2) Kq kc B,_,_,Cs (CN _) e1,Pq,_,_,e2,⟨dd,B⟩,_,_,Cs Nb e3,_,EQ (k:=2) Kq k2 B,_,_,Cs (CN _) e4,Bz (λk3=>?_) (λk3=>?_)⟩
    .have b3:Cw∈(A6.St ⟨V,F,T,g⟩ r k).2.1:=by
      rw[←aj];cases h2:N3 Cw l' with
      |none=>rw[h2] at k3;exact Cf k3 (by decide)
      |some y=>rfl
     exact⟨_,_,Sq,(by show 25000000000000-(k+1)<_;omega),k+1,_,B,B,Rnd.next a4 ai a5 a6 aj ak (A6.Aui ar (ao▸b3)) C a1 (λj=>⟨.inr,λh=>h.elim (λe=>by rw[e];exact b3) id⟩) al⟩
    have bh:¬A6.Cw f∈(A6.St ⟨V,F,T,g⟩ r k).2.1:=λh=>by
     rw[←ao,←aj] at h;cases h2:N3 Cw l' with
     |none=>rw[h2] at h;cases h
     |
      some y=>
      have:=ak Cw y h2;rw[h2] at k3;have h3:¬(1:Int)<y+1:=k3;omega
    have hK:∀j,j∈A6.Cw f::(A6.St ⟨V,F,T,g⟩ r k).2.1↔j=Cw\/j∈(A6.St ⟨V,F,T,g⟩ r k).2.1:=λj=>by rw[ao];exact List.mem_cons
    refine⟨_,ld B PT,_,ld B (W.c 4 _ B),Ad (λk4=>?_) (λk4=>?_)⟩
    .obtain⟨gx,z1,xx,v',J,z3,z4,z5,z6⟩:=Aef (τ:=Ax) (st:=44) (t2:=44) (e:=50) (k:=3) Kq C.O (ys:=Lg ⟨be,.slice (I ag) f.ns.length an,f⟩) B B aw.nx G
     subst z1;exact⟨[],Kq,_,ld B PT,_,ld B (W.c 0 _ B),_,ld B PT,_,ld B (W.c 2 _ B),_,ld B PT,_,ld B (W.c 3 _ B),_,_,Iv (τ:=Ax) (t:=44) (e:=50) (k:=3) Kq (.agg #[.slice (I ag) f.ns.length an,Vi f.a,Sg f.tx]) B B (by decide) _,_,_,z3,_,_,Sq,(by show 25000000000000-(k+1)<_;omega),k+1,_,B,B,Rnd.next a4 ai a5 a6 aj ak (A6.Azk ar bh k4) ((C.ext xx).out z5.aa z4.aa z6 (W.ext xx) fp) a1 hK (by rw[BS,al];rfl)⟩
    refine⟨[],Kq,_,ld B bf,_,ld B b2,_,ld B Xc,G,_,Dz (ld B (q2 1 _ B)) (by show b0.off+((f.lj:Nat):Int).toNat*7+1=_;omega),_,ld B de,Bz (λk5=>?_) (λk5=>?_)⟩
    .obtain⟨eh,df,a7⟩:=(Sep.nil _).cT (τ:=Ax) 96 (.agg #[.slice (I ag) f.ns.length an,Vi f.c,Vi f.a,Sg f.tx,.bool Ag])
     have ap:=C.ext a7.e;have ei:=a7.e.nx;have dg:=aa.e.nx;have dh:=Sn.nx;have di:Ix _ ⟨_,.slice (I ag) f.ns.length an,⟨f.ns,f.c,f.a,f.tx,Ag⟩⟩:=⟨λi v U=>(a7.dD (i:=0) B).cell U,(W.ext a7.e).n,W.l⟩;have ft:∀i,i=_\/BY (.slice (I ag) f.ns.length an) i->i≠m8/\¬BY (.slice bv os.length c2) i/\i≠q/\¬BY v1 i:=λi U=>U.elim (λe=>by
      have h1:am.nx<=i:=by rw[e];exact Ao dg dh
      exact⟨G,λh=>by have:=C.O.aw i h;omega,G,λh=>by have:=bg i h;omega⟩) λh=>fp i (.inr h)
     refine⟨[.w 20],Kq,_,ld B PT,_,ld B (W.c 0 _ B),_,ld B PT,_,ld B (W.c 1 _ B),_,ld B PT,_,ld B (W.c 2 _ B),_,ld B PT,_,ld B (W.c 3 _ B),_,_,df,_,c32 ab (ap.Q.ext (AA.ad _)) ap.hp (di.ext (AA.ad _)) (λi U=>⟨(ft i U).2.2.2,(ft i U).2.2.1⟩) ap.x.nx G d G,?_⟩;rintro _ ej ⟨v',af,Q',b4,aq,c',b'⟩;refine⟨ap.Q.dr c',_,_,Sq,(by show 25000000000000-(k+1)<_;omega),k+1,_,B,B,Rnd.next a4 ai a5 a6 aj ak (A6.Azl ar bh (by rw[k4];simp) k5) (ap.queue c'.aa Q'.aa aq (λi U=>(b' i U).imp id λh=>h) λe he i U=>?_) ((b4.map IE.P).trans (a1.cons _)) hK al⟩
     rcases List.mem_cons.1 (b4.mem_iff.1 he) with h1|h1
     .subst h1;exact⟨(ft i U).1,(ft i U).2.1⟩
     .exact ap.fz e h1 i U
    refine⟨[.w 10],Kq,_,ld B bf,_,ld B bf,_,ld B b2,_,ld B Xc,G,_,Dz (ld B (q2 1 _ B)) (by show b0.off+((f.lj:Nat):Int).toNat*7+1=_;omega),_,ACk (p:=⟨be,.slice (I ag) f.ns.length an,f⟩) ab (aw.trans (AA.ad _)) ae b.ok bm hl sm cs cl (by rw[←bu];exact C.A.ext (AA.ad _)) ⟨C.ne.2.1,C.vs.2⟩ (PT.ext (AA.ad _)) ⟨G,λh=>by have:=bg _ h;omega⟩ (Xc.ext (AA.ad _)) ⟨G,λh=>by have:=bg _ h;omega⟩ (W.ext (AA.ad _)) (λi U=>⟨(fp i U).2.2.1,(fp i U).2.2.2⟩) a2 ⟨hF.1,G⟩ (C.Q.ext (AA.ad _)) C.ge.1 C.hp G d G,?_⟩;rintro _ ek b5;obtain⟨n4,v4,en,dj,dk⟩:=C.cM (b5.aa (AA.refl _));exact⟨b5.ok C.Q,_,_,Sq,(by show 25000000000000-(k+1)<_;omega),k+1,_,B,B,Rnd.next a4 ai a5 a6 aj ak (A6.Auj ar bh (by rw[k4];simp) k5) dj (dk.trans (a1.append_left _)) hK al⟩
  refine⟨_,_,y1,_,_,y2,_,_,y3,[],Kq,_,ld B cl,_,B,_,ld B cF,Ad (λk1=>?_) (λk1=>?_)⟩
  .exact a9 ah (.inl (Fp k1))
  have k1:=KK k1;refine⟨_,ld B cF,_,ld B cT,Ad (λk2=>?_) (λk2=>?_)⟩
  .exact a9 ah (.inr (.inl (Fp k2)))
  have k2:=KK k2;refine⟨_,ld B cT,_,ld B cl,_,c11 (h:=u.ad) ab (bk.ext (AA.ad u)) d G,?_⟩;rintro _ _ ⟨rfl,rfl⟩;refine⟨B,?_⟩;have ad:AA u (nb u):=AT (AA.refl u);apply Ad<;>intro k3
  .exact a9 (ah.trans ad) (.inr (.inr (Fp k3)))
  have k3:=KK k3;have b6:=bk.ext ad;have a8:=cl.ext ad;have c4:=(by rw[ay];exact(s3.dD (i:=1) B).cells:BK u K 0 [Vi F,Vi T]).ext ad;refine⟨[],Kq,_,ld B a8,_,ld B a8,_,c28 (h:=(nb u).ad) ab (b6.ext (AA.ad _)) ok d G,?_⟩;rintro nv h5 ⟨x5,o5⟩;refine⟨x5.ag,?_⟩;have ax:AA (nb u) ((nb u).aa h5):=x5.aa;obtain⟨az,cn,rfl⟩:∃A c,nv=.slice A V.ns.length c:=by obtain⟨_,A,c,e,_⟩:=o5.rd;exact⟨A,c,e⟩
  obtain⟨o,b7⟩:∃o,o=(nb u).aa h5:=⟨_,B⟩;rw[←b7] at ax⊢;have dl:=c4.ext ax;have s6:=(Sep.nil o).cf (a:=aB o.ad.nx (.map [] 0)) (J:=o.ad.new (.map [] 0)) (AA.new _ _) ⟨by rw[Ck];omega,by rw[CK,Bi B]⟩ λi U=>by rw[show i=o.ad.nx from U,BF];exact Ae _
  obtain⟨g7,y7,s7⟩:=s6.cT (τ:=Ax) 87 (.agg #[AG lp 0,.slice az V.ns.length cn,Vi F,Vi T,Vi g,.map (I o.ad.nx)]);obtain⟨g8,y8,g9,y9,s9⟩:=s7.cx (t:=83) (z:=.pointer Z) Kq (v:=AG (o.aa (o.ad.new (.map [] 0))).nx 0) B B B;have hx:(o.aa (o.ad.new (.map [] 0))).nx=o.nx+1:=by rw[CL,Ck,BF]
  have bl:o.ad.nx=o.nx:=BF _;have n0:=ah.nx;have n4:=ad.nx;have n5:=ax.nx;have l1:=a8.1;have l2:=(cF.ext ad).1;have l3:=(cr.ext ad).1;have E:=ax.trans s9.e;have eo:o.nx+1<=((o.aa (o.ad.new (.map [] 0))).aa g7).nx:=by
   have:=(s7.dD (i:=0) B).1;omega
  have dm:Rd o (.slice az V.ns.length cn) 7 V.ns.length (V.ns.flatMap Bt):=by rw[b7];exact o5.rd.aa
  exact⟨_,EQ (k:=2) Kq (show BK o K 0 [Vi F,Vi T] from dl) B,_,_,y7,_,_,y8 _,_,y9,[(4,Vi n),(5,AG lb 0),(6,AG K 0),(7,AG rb 0),(11,_)],Sq,lb,K,rb,_,_,o.ad.nx,.slice az V.ns.length cn,o,B,(ah.trans ad).trans E,⟨ok,b6.ext ax,dm,G,by show 0<=F/\F<T/\T<=(V.fs.length:Int);omega⟩,s9.e,(by rw[hx];omega),(λi v U=>(s9.dD (i:=1) B).cell U),⟨(s9.2.1 2 _ B).1.1,[],0,s9.a7 (i:=2) B,B⟩,⟨a8.ext E,G⟩,⟨c4.ext E,G⟩,⟨(cr.ext ad).ext E,G⟩,(s9.dD (i:=0) B).cell (i:=0) B,G,G⟩
end
section
variable{S:A9} {L:Nat}
section
variable {h J h0 h1 H:Y} {v fv nv pv cv ev lv u v':Aa} {xs args vs ys:AH} {n b N i k e r j x m c q d a p t2 sb mo ck lp rm b0 sz off:Nat} {t:Ai} {f:Au} {fn:BC} {s:Bd} {bs:Bl} {ws:Bo} {W:Nat->Prop} {Q:Aa->Y->Prop} {A:Option BD} {z df day:Int} {ss:BZ} {τ:Bb}
def I5 (h:Y) (b:Nat) (e:Ai) (xs:AH):Prop:=b<h.nx/\∃c,h.t.get b=I (.cells c xs.length e 0 0 Ag)/\∀(i:Nat) v,xs[i]?=I v->c.get i=I v
def I5.dD {h:Y} {b:Nat} (o:I5 h b e xs):Own h b e xs:=by
 obtain⟨h1,c,a,d⟩:=o;exact⟨h1,c,Ag,a,d⟩
def I5.ae {h J:Y} {b:Nat} (o:I5 h b e xs) (x:B0 W h J) (a:¬W b):I5 J b e xs:=by
 obtain⟨hb,c,h1,d⟩:=o;exact⟨AC hb x.nx,c,by rw[x.t b hb a];exact h1,d⟩
def I5.aa {h J:Y} {b:Nat} (o:I5 J b e xs):I5 (h.aa J) b e xs:=by
 unfold I5;rw[CL,DF];exact o
def I5.row (h:Y) (e:Ai) (xs:AH):I5 (BN h e xs) h.nx e xs:=
 ⟨by show _<(h.new _).nx;rw[Ck];omega,_,by show(h.new _).t.get _=_;rw[CK,Bi B],λ_ _ U=>NP xs U⟩
def I5.st (a:Gv τ t=Ag) {h:Y} {b:Nat} (o:I5 h b e xs) (j:i<xs.length) {v:Aa} (h1:one v=Ag):
 ∃J,BA τ t h b i v=I J/\I5 J b e (xs.set i v)/\Er b h J:=by
 obtain⟨hb,c,d,f⟩:=o;have g:AJ v=[v]:=by cases v<;>first|rfl|cases h1
 refine⟨h.put b (.cells (T.laid [v] i c) xs.length e 0 0 Ag),?_,⟨by rw[Cc];exact hb,_,by rw[BQ,Bi B,B4],OF [v] xs i c f (by simp;omega)⟩,Er.put _ _ _⟩;unfold Gv at a;split at a
 .rename_i k U
  unfold BA Gi;simp[U,g,d];have:RP xs.length 0 0 i 1=true:=by unfold RP;simp;omega
  simp[Af a,this,h1]
 .cases a
def NA (a:Base S L) {e:KS} {h J:Y} {v:Aa} (b:Ax.fn.get f=I fn) (hb:fn.body=Z) (c:Ax.ex.get f=I e) (d:Nf.contains f=Ah) (i:R6 Ax e args h=I (v,J)):Bk S L 1 f args h λw g=>w=v/\g=J:=by
 intro n l;obtain⟨m,rfl⟩:∃m,n=m+1:=⟨n-1,G⟩;obtain⟨h1,j,_⟩:=a.plain f d;refine⟨v,J,⟨B,B⟩,λk kp=>?_⟩;rw[Kl h1 j];unfold DY;simp[b,hb,c,i]
def Gc (h:Y) (N:Nat) (v:Aa) (bs:Bl):Prop:=
 (v=.slice Z 0 0/\bs=[])\/∃b c a x,v=.slice (I ⟨b,0,Z⟩) bs.length c/\N<=b/\bs.length<=c/\c≠0/\b<h.nx/\h.t.get b=I (.cells a c 5 0 0 x)/\∀(i:Nat) u,(Ay bs)[i]?=I u->a.get i=I u
section
variable{h J:Y} {N b:Nat} {v:Aa} {bs:Bl}
def Gc.ae (o:Gc h N v bs) (x:B0 W h J) (d:∀i,BY v i->¬W i):Gc J N v bs:=by
 rcases o with o|⟨b,c,e,y,rfl,f,g,j,a,k,l⟩
 .exact .inl o
 .exact .inr ⟨b,c,e,y,B,f,g,j,AC a x.nx,by rw[x.t b a (d b B)];exact k,l⟩
def Gc.ext (o:Gc h N v bs) (x:AA h J):Gc J N v bs:=o.ae (x.ae λ_=>False) λ_ _ h=>h
def Gc.aa (o:Gc J N v bs):Gc (h.aa J) N v bs:=by
 unfold Gc;rw[CL,DF];exact o
def Gc.lt (o:Gc h N v bs):∀i,BY v i->i<h.nx:=by
 rcases o with⟨rfl,_⟩|⟨b,c,d,y,rfl,_,_,_,a,_⟩
 .exact λi U=>U.elim
 .exact λi U=>(show i=b from U)▸a
def Gc.ge (o:Gc h N v bs):∀i,BY v i->N<=i:=by
 rcases o with⟨rfl,_⟩|⟨b,c,d,y,rfl,a,_⟩
 .exact λi U=>U.elim
 .exact λi U=>(show i=b from U)▸a
def Gc.one (o:Gc h N v bs):one v=true:=by
 rcases o with⟨rfl,_⟩|⟨b,c,a,y,rfl,_⟩<;>rfl
def Gc.lit (o:Gc h N v bs):∃A c,v=.slice A bs.length c:=by
 rcases o with⟨rfl,rfl⟩|⟨b,c,a,y,rfl,_⟩
 .exact⟨_,_,B⟩
 .exact⟨_,_,B⟩
def Aqk (p:G1 Ax 62 t2 5 1=Ag) (o:Gc h N v bs) {x:Aa} {cs:Bl} (q:MM x=I cs.length) (r:MN 1 h x cs.length=I (Ay cs)) (f:N<=h.nx) (hb:bs.length+cs.length<=1000000000):
 ∃v' J,Bx Ax .append [62,t2] [v,x] h=I (v',J)/\Gc J N v' (bs++cs)/\B0 (BY v) h J/\(∀i,BY v' i->BY v i\/h.nx<=i):=by
 obtain⟨t1,s,i,z,t3,t4,t5,t6,t7,t8,t9⟩:=In p;have w:E3 (cs.length*i.bytes)=true:=Ha (by
  have:cs.length*i.bytes<=1000000000*1024:=Cj G t9;omega)
 have A:E3 cs.length=true:=Ha G
 suffices H:∃v' J,Gj Ax [62,t2] [v,x] h=I (v',J)/\Gc J N v' (bs++cs)/\B0 (BY v) h J/\(∀i,BY v' i->BY v i\/h.nx<=i) by
  obtain⟨v',J,C,D⟩:=H;exact⟨v',J,by simp[Bx,C],D⟩
 unfold Gj;simp only[List.head?_cons,s,I0,t1,t3,q,t4,t5,r,t7,t8,(by rw[Fa];rfl:(AD 0 1&&(Ay cs).all one&&Am 1 1&&Ag)=Ag),D1];have UN:∀{c:T Aa},(∀(i:Nat) u,(Ay bs)[i]?=I u->c.get i=I u)->∀(i:Nat) u,(Ay (bs++cs))[i]?=I u->(T.laid (Ay cs) bs.length c).get i=I u:=λE i u U=>by
  rw[T.an,A7];rw[Ee,Amz,A7] at U;split at U
  .rw[Bm G];exact E i u U
  .have:=(List.getElem?_eq_some_iff.1 U).1
   rw[A7] at this;rw[Bi G];exact U
 rcases o with⟨rfl,rfl⟩|⟨b,c,g,y,rfl,j,F,k,l,a,d⟩
 .cases cs with
  |nil=>exact⟨_,_,B,.inl ⟨B,B⟩,(AA.refl h).ae _,λi U=>U.elim⟩
  |
   cons m cs=>
   simp only[w,A];exact⟨sL h.nx (cs.length+1) (cs.length+1),Go.Ev.HY h 5 (Ay (m::cs)),B,.inr ⟨h.nx,_,_,Ah,B,f,Ae _,Nat.succ_ne_zero _,by show _<(h.new _).nx;rw[Ck];omega,by show(h.new _).t.get _=_;rw[CK,Bi B,A7];rfl,λ_ _ U=>NP _ U⟩,(AA.a4 h 5 _).ae _,λi U=>.inr (A2 U.symm)⟩
 .simp only[]
  cases e:Ar (bs.length+cs.length) c with
  |
   true=>
   have K:=Ac e;have st:Gi h b (0+bs.length*1) (Ay cs)=I (h.put b (.cells (T.laid (Ay cs) bs.length g) c 5 0 0 y)):=by
    unfold Gi;have:RP c 0 0 (0+bs.length*1) (Ay cs).length=true:=by unfold RP;rw[A7];simp;omega
    simp only[a,this,Fa];rw[Ba,BJ];rfl
   simp only[D1,st];cases cs with
   |nil=>exact⟨_,_,B,.inr ⟨b,c,g,y,by simp,j,by simpa using F,k,l,a,by simpa using d⟩,(AA.refl h).ae _,λi U=>.inl U⟩
   |cons m cs=>exact⟨_,_,B,.inr ⟨b,c,_,y,by rw[Aj],j,by rw[Aj];exact K,k,by rw[Cc];exact l,by rw[BQ,Bi B],UN d⟩,(Er.put h b _).ae,λi U=>.inl U⟩
  |
   false=>
   have L:c<bs.length+cs.length:=by
    rcases A8 c (bs.length+cs.length) with h|h
    .exact h
    .rw[Aq h] at e;cases e
   have n:=HQ λi u U=>by rw[Ba];exact d i u U
   rw[A7] at n;simp only[I0,(M2 hb t9:Tx (bs.length+cs.length) i.bytes=Ag),Bool.and_self,D1,a,(rfl:Am 5 5=Ag),BJ,n,(rfl:Ar 0 0=Ag),Bool.true_or,Mh];refine⟨sL h.nx (bs.length+cs.length) (bs.length+cs.length),(h.put b .dead).new (.cells (T.laid (Ay bs++Ay cs) 0 .nil) (Ay bs++Ay cs).length 5 0 0 Ah),by rw[show Am (0+c) c=Ag by simp];rfl,.inr ⟨h.nx,_,_,Ah,by rw[Aj],f,by rw[Aj];exact Ae _,G,by rw[Ck,Cc];omega,?_,λi u U=>NP _ U⟩,?_,λi U=>.inr (A2 U.symm)⟩
   .rw[CK,Bi (Cc _ _ _).symm,←Ee,A7,Aj]
   .exact((Er.put h b .dead).ae).trans ((AA.new _ _).ae _)
def Axh {a:T Aa} {x:Bool} (hb:h.t.get b=I (.cells a c 5 0 0 x)) (f:∀(i:Nat) u,(Ay bs)[i]?=I u->a.get i=I u) (g:bs.length<=c) (h0:0<bs.length) (m:bs.length<=1000000000):∃J,Bx Ax .unsafeString [264,3] [AG b 0,Vi bs.length] h=I (.string ⟨⟨bs⟩⟩,J)/\Er b h J:=by
 have d:=HQ λi u U=>by rw[Ba];exact f i u U
 rw[A7] at d;have j:Ax.ds.get 264=I (.pointer 5):=by rfl
 have k:Ax.ds.get 5=I (.int .u8):=by rfl
 obtain⟨i,U,l⟩:∃i,Ax.aj.get 5=I i/\i.size=1:=⟨_,B,B⟩;refine⟨_,?_,Er.put h b (.cells a c 5 0 bs.length x)⟩
 .simp[Bx]
  unfold EP;simp[(rfl:(AL IntKind.i64 (bs.length:Int))=Vi (.ofNat bs.length)),AG,(Bool.eq_false_iff.2 λe=>by have:=Af e;omega:Am bs.length 0=Ah),I0,Ha (show bs.length<=1099511627776 by omega),D1,j,hb,Ba,Aq g,k,U,l,d,EM];rfl
structure Ey (h:Y) (N b:Nat) (v:Aa) (bs:Bl):Prop where
 c:I5 h b 179 [.pointer Z,v]\/I5 h b 179 [AG b 0,v]
 o:Gc h N v bs
 ne:¬BY v b
def Gu (h J:Y) (N b:Nat) (v:Aa) (bs:Bl):Prop:=∃v',Ey J N b v' bs/\B0 (λi=>i=b\/BY v i) h J/\∀i,BY v' i->BY v i\/h.nx<=i
def Ey.ae (H:Ey h N b v bs) (c:B0 W h J) (a:∀i,i=b\/BY v i->¬W i):Ey J N b v bs:=
 ⟨H.c.imp (λo=>o.ae c (a _ (.inl B))) λo=>o.ae c (a _ (.inl B)),H.o.ae c λi U=>a i (.inr U),H.ne⟩
def Ey.ext (H:Ey h N b v bs) (x:AA h J):Ey J N b v bs:=H.ae (x.ae λ_=>False) λ_ _ h=>h
def Ey.lt (H:Ey h N b v bs):b<h.nx:=H.c.elim (λo=>o.1) λo=>o.1
def Ey.cell (H:Ey h N b v bs):Cell h b 1 v:=H.c.elim (λo=>o.dD.cell B) λo=>o.dD.cell rfl
def RK (N b:Nat) (v:Aa) (bs:Bl):Ct:={
 am:=λi=>i=b\/BY v i
 holds:=λh=>Ey h N b v bs
 aH:=λc a o=>o.ae c a
 lt:=λo i U=>U.elim (λe=>by rw[e];exact o.lt) λh=>o.o.lt i h
 bk:=λo=>⟨o.c.imp I5.aa I5.aa,o.o.aa,o.ne⟩}
def Sep.bf {l:List Ct} (s:Sep h0 h l) {d:Bl} (U:l[i]?=I (RK N b v bs)) (p:Gu h J N b v d):∃v',Sep h0 J (l.set i (RK N b v' d)):=by
 obtain⟨v',H,c,q⟩:=p;refine⟨v',s.ah U c H λx a=>?_⟩;rcases a with a|a
 .exact .inl (.inl a)
 .exact(q x a).imp .inr id
def Sep.bl {l:List Ct} (s:Sep h0 h l) (U:l[i]?=I (RK N b v bs)):Ey h N b v bs:=(s.2.1 i _ U).1
def Sep.a3 {l:List Ct} (s:Sep h0 h l):∃g,(∀A,D9 Ax A h (.alloc 179)=I (AG h.nx 0,g))/\Sep h0 g (RK h0.nx h.nx (.slice Z 0 0) []::l):=by
 refine⟨BN h 179 [.pointer Z,.slice Z 0 0],λA=>by kernel_rfl,s.add (AA.row _ _ _) ⟨.inl (I5.row _ _ _),.inl ⟨B,B⟩,λh=>h⟩ λi U=>?_⟩;rcases U with U|U
 .exact A2 U.symm
 .exact U.elim
def Ey.put (H:Ey h N b v bs) (c:B0 (BY v) h h1) {d:Bl} (o:Gc h1 N v' d) (hb:∀i,BY v' i->BY v i\/h.nx<=i):∃J,BA Ax 62 h1 b 1 v'=I J/\Ey J N b v' d/\B0 (λi=>i=b\/BY v i) h J/\∀i,BY v' i->BY v i\/h.nx<=i:=by
 have l:=H.lt;have g:¬BY v' b:=λj=>(hb b j).elim H.ne λh=>G;have Da:∀{a:Aa} {J},I5 J b 179 [a,v']->(a=.pointer Z\/a=AG b 0)->Er b h1 J->Ey J N b v' d/\B0 (λi=>i=b\/BY v i) h J/\∀i,BY v' i->BY v i\/h.nx<=i:=λo' k u=>
  ⟨⟨k.elim (λe=>.inl (e▸o')) λe=>.inr (e▸o'),o.ae u.ae λi U e=>g (e▸U),g⟩,(c.mono λi=>.inr).trans (u.ae.mono λi=>.inl),hb⟩
 rcases H.c with o'|o'
 .obtain⟨J,e,f,u⟩:=(o'.ae c H.ne).st Kq (by show 1<2;decide) o.one
  exact⟨J,e,Da f (.inl B) u⟩
 .obtain⟨J,e,f,u⟩:=(o'.ae c H.ne).st Kq (by show 1<2;decide) o.one
  exact⟨J,e,Da f (.inr B) u⟩
def Afi {c:T Aa} (a:h.t.get b=I (.cells c 2 179 0 0 Ag)):Ea Ax 177 351 (AG b 0) h=I (AG b 0,h)/\Ea Ax 351 177 (AG b 0) h=I (AG b 0,h):=by
 have d1:Ax.ds.get 177=I (.pointer 179):=by rfl
 have d2:Ax.ds.get 351=I .unsafePointer:=by rfl
 obtain⟨i,U,d⟩:∃i,Ax.aj.get 179=I i/\i.size=2:=⟨_,B,B⟩;unfold Ea;constructor
 .simp[d1,d2,AG,U,a,d];rfl
 .simp[d1,d2,AG,U,a,d];rfl
def Ari {ox oy:BU}:Jo Ax .neq 177 ox oy (AG b 0) (AG b 0)=I (.bool Ah):=by
 obtain⟨i,U,a⟩:∃i,Ax.aj.get 179=I i/\i.size=2:=⟨_,B,B⟩;unfold Jo;simp[(by rfl:Ax.ds.get 177=I (.pointer 179)),AG,U,a,Mi];rfl
def Akc (f:Base S L) (H:Ey h N b v bs):Bk S L 2 163 [AG b 0] h λ_ J=>Ey J N b v bs/\B0 (·=b) h J:=
 Cn f163 f λd l _=>by
  rcases H.c with o|o
  .refine⟨_,ld B (o.dD.cell B),_,B,?_⟩
   obtain⟨h1,c,a,j⟩:=o;obtain⟨g,e,k,u⟩:=I5.st (τ:=Ax) (t:=177) Kq ⟨h1,c,a,j⟩ (by show 0<2;decide) (v:=AG b 0) B;refine⟨_,(Afi a).1,_,NA (e:=.aU) (fn:=f233) f Kq B Kq B B d G,?_⟩;rintro _ _ ⟨rfl,rfl⟩;exact⟨_,(Afi a).2,_,e,⟨.inr k,H.o.ae u.ae λi U e=>H.ne (e▸U),H.ne⟩,u.ae⟩
  .refine⟨_,ld B (o.dD.cell B),_,B,_,ld B (o.dD.cell B),_,Ari,H,(AA.refl h).ae _⟩
def Gu.pre (c:B0 (·=b) h h1) (w:Gu h1 J N b v bs):Gu h J N b v bs:=by
 obtain⟨v',H,a,q⟩:=w;exact⟨v',H,(c.mono λi=>.inl).trans a,λi U=>(q i U).imp id λh=>Ao c.nx h⟩
def c79 (c:Base S L) (H:Ey h N b v bs) (e:N<=h.nx) (f:bs.length+s.size<=1000000000):Bk S L 3 79 [AG b 0,.string s] h λ_ J=>Gu h J N b v (bs++s.data.toList):=
 Cn f79 c λd l _=>by
  refine⟨_,Akc c H d G,?_⟩;rintro _ h1 ⟨a,c1⟩;obtain⟨m,n,t1,g,i,j⟩:=Aqk Kq a.o B (Zp s) (Ao e c1.nx) f;obtain⟨o,k,w⟩:=a.put i g j;exact⟨_,ld B a.cell,_,_,t1,_,k,Gu.pre c1 ⟨_,w⟩⟩
def AEi (e:Base S L) (H:Ey h N b v bs) {x:UInt8} (f:N<=h.nx) (g:bs.length+1<=1000000000):Bk S L 3 232 [AG b 0,.int .u8 (x.toNat:Int)] h λ_ J=>Gu h J N b v (bs++[x]):=
 Cn f232 e λd n _=>by
  refine⟨_,Akc e H d G,?_⟩;rintro _ h1 ⟨c,c1⟩;have a:=AA.row h1 5 (Ay [x]);obtain⟨o,p,t1,j,k,l⟩:=Aqk Kq (c.o.ext a) (x:=sL h1.nx 1 1) (cs:=[x]) B (by rw[Il (Own.row h1 5 (Ay [x])) (Ae 1)];rfl) (Ao f (Ao c1.nx a.nx)) g;obtain⟨q,m,w⟩:=c.put ((a.ae _).trans k) j λi U=>(l i U).imp id λh=>Ao a.nx h;exact⟨_,ld B c.cell,_,_,bsB x h1,_,_,t1,_,m,Gu.pre c1 ⟨_,w⟩⟩
def c81 (i:Base S L) (H:Ey h N b v bs) (j:bs.length<=1000000000):Bk S L 1 81 [AG b 0] h λw J=>w=.string ⟨⟨bs⟩⟩/\B0 (BY v) h J:=
 Cn f81 i λd p _=>by
  have a:=H.cell;rcases H.o with⟨rfl,rfl⟩|⟨f,c,q,x,rfl,r,k,l,s,m,n⟩
  .exact⟨[],Kq,_,ld B a,_,_,B,_,ld B a,_,_,B,B,(AA.refl h).ae _⟩
  .have eu:∀g:Y,Bx Ax .unsafeSliceData [62] [sL f bs.length c] g=I (AG f 0,g):=λg=>by
    simp[Bx];unfold Fg;simp[show Am c 0=Ah from Bool.eq_false_iff.2 λe=>l (Af e)];rfl
   by_cases h0:bs.length=0
   .have:bs=[]:=BO h0
    subst this;exact⟨[],Kq,_,ld B a,_,_,eu _,_,ld B a,_,_,B,B,(AA.refl h).ae _⟩
   .obtain⟨J,o,u⟩:=Axh (by rw[Ow];exact m) n k G j
    exact⟨[],Kq,_,ld B a,_,_,eu _,_,ld B a,_,_,o,B,u.aa.ae⟩
end
end
end
section
variable {h J h0 h1 H:Y} {v fv nv pv cv ev lv u v':Aa} {xs args vs ys:AH} {n b N i k e r j x m c q d a p t2 st sb mo ck lp rm b0 sz off:Nat} {t:Ai} {f:Au} {fn:BC} {s:Bd} {bs:Bl} {ws:Bo} {W:Nat->Prop} {Q:Aa->Y->Prop} {A:Option BD} {z df day:Int} {ss:BZ} {τ:Bb}
variable{S:A9} {L:Nat}
def AEa (a b:Int) (h:Y):Bs Ax 62 2 [(0,.int .u8 a),(1,.int .u8 b)] h=I (sL h.nx 2 2,BN h 5 [.int .u8 a,.int .u8 b]):=Kq
def Ave (a b c:Int) (h:Y):Bs Ax 62 3 [(0,.int .u8 a),(1,.int .u8 b),(2,.int .u8 c)] h=I (sL h.nx 3 3,BN h 5 [.int .u8 a,.int .u8 b,.int .u8 c]):=Kq
def AEh (a b c d:Int) (h:Y):Bs Ax 62 4 [(0,.int .u8 a),(1,.int .u8 b),(2,.int .u8 c),(3,.int .u8 d)] h=I (sL h.nx 4 4,BN h 5 [.int .u8 a,.int .u8 b,.int .u8 c,.int .u8 d]):=Kq
def orB (p:Int×Int):UInt8:=UInt8.ofNat (JP .u8 p.1 p.2).toNat
def AAw (ps:List (Int×Int)):ps.map (λp=>AL .u8 (JP .u8 p.1 p.2))=Ay (ps.map orB):=by
 unfold Ay;rw[O5];refine List.map_congr_left λp _=>?_;obtain⟨y,a⟩:=Anq p.1 p.2;simp[orB,a]
def Apd (h J:Y) (N:Nat) (v w:Aa) (bs:Bl):Prop:=Gc J N w bs/\B0 (BY v) h J/\∀i,BY w i->BY v i\/h.nx<=i
section
variable{h J:Y} {N b:Nat} {v w:Aa} {bs:Bl}
def Aqt (o:Gc h N v bs) {ys:AH} {cs:Bl} (b:ys=Ay cs) (c:N<=h.nx) (hb:bs.length+cs.length<=1000000000):
 ∃w J,Bx Ax .append [62,62] [v,sL h.nx cs.length cs.length] (BN h 5 ys)=I (w,J)/\Apd h J N v w (bs++cs):=by
 subst b;have a:=AA.row h 5 (Ay cs);obtain⟨d,e,t1,f,g,j⟩:=Aqk (t2:=62) Kq (o.ext a) (x:=sL h.nx cs.length cs.length) (cs:=cs) B (by rw[Il (Own.row h 5 (Ay cs)) (by rw[A7];omega)];rw[Ajb,BJ,Bj (by rw[A7];exact Ae _)]) (Ao c a.nx) hb;exact⟨d,e,t1,f,(a.ae _).trans g,λi U=>(j i U).imp id λh=>Ao a.nx h⟩
def Aqr (o:Gc h N v bs) (ps:List (Int×Int)) (b:N<=h.nx) (hb:bs.length+ps.length<=1000000000):
 ∃w J,Bx Ax .append [62,62] [v,sL h.nx ps.length ps.length] (BN h 5 (ps.map λp=>.int .u8 (JP .u8 p.1 p.2)))=I (w,J)/\Apd h J N v w (bs++ps.map orB):=by
 obtain⟨w,J,a,c⟩:=Aqt o (AAw ps) b (by rw[A4];exact hb);rw[A4] at a;exact⟨w,J,a,c⟩
def lo6 (r k:Int):Int:=D8 .u8 (IntKind.u8.wrap (DN .i32 r k)) 63
def VH (r:Int):Bl:=if IntKind.u32.wrap r<=2047 then [(192,IntKind.u8.wrap (DN .i32 r 6)),(128,D8 .u8 (IntKind.u8.wrap r) 63)].map orB else if IntKind.u32.wrap r<55296\/(57343<IntKind.u32.wrap r/\IntKind.u32.wrap r<=65535) then [(224,IntKind.u8.wrap (DN .i32 r 12)),(128,lo6 r 6),(128,D8 .u8 (IntKind.u8.wrap r) 63)].map orB else if 65535<IntKind.u32.wrap r/\IntKind.u32.wrap r<=1114111 then [(240,IntKind.u8.wrap (DN .i32 r 18)),(128,lo6 r 12),(128,lo6 r 6),(128,D8 .u8 (IntKind.u8.wrap r) 63)].map orB else [239,191,189]
def Wq (r:Int):Bl:=if IntKind.u32.wrap r<=127 then [UInt8.ofNat (IntKind.u8.wrap r).toNat] else VH r
def ACj (B:Base S L) (o:Gc h N v bs) {r:Int} (a:N<=h.nx) (n:bs.length+4<=1000000000):Bk S L 1 234 [v,.int .i32 r] h λw J=>∃cs,(1<=cs.length/\cs.length<=4)/\cs=VH r/\Apd h J N v w (bs++cs):=
 Cn f234 B λd c _=>by
  refine⟨_,.inr rfl,Bz (λb=>?_) (λb=>?_)⟩
  ·obtain⟨w,J,e,f⟩:=Aqr o [(192,IntKind.u8.wrap (DN .i32 r 6)),(128,D8 .u8 (IntKind.u8.wrap r) 63)] a (by show _+2<=_;omega);exact⟨by decide,_,.inr rfl,_,.inr rfl,_,_,AEa _ _ _,_,_,e,_,⟨by show 1<=2;decide,by show 2<=4;decide⟩,by unfold VH;rw[if_pos b],f⟩
  obtain⟨p,q,g,i⟩:=Aqr o [(224,IntKind.u8.wrap (DN .i32 r 12)),(128,lo6 r 6),(128,D8 .u8 (IntKind.u8.wrap r) 63)] a (by show _+3<=_;omega);obtain⟨s,t,j,k⟩:=Aqr o [(240,IntKind.u8.wrap (DN .i32 r 18)),(128,lo6 r 12),(128,lo6 r 6),(128,D8 .u8 (IntKind.u8.wrap r) 63)] a (by show _+4<=_;omega);obtain⟨u,h0,l,m⟩:=Aqt o (ys:=[.int .u8 239,.int .u8 191,.int .u8 189]) (cs:=[239,191,189]) rfl a (by show _+3<=_;omega)
  repeat' (refine Bz (λ_=>?_) (λ_=>?_))
  all_goals first
   |exact⟨by decide,_,.inr rfl,by decide,_,.inr rfl,_,.inr rfl,_,_,Ave _ _ _ _,_,_,g,_,⟨by show 1<=3;decide,by show 3<=4;decide⟩,by unfold VH;(repeat' split)<;>first|rfl|omega,i⟩
   |exact⟨by decide,_,.inr rfl,by decide,_,.inr rfl,by decide,_,.inr rfl,_,.inr rfl,_,_,AEh _ _ _ _ _,_,_,j,_,⟨by show 1<=4;decide,by show 4<=4;decide⟩,by unfold VH;(repeat' split)<;>first|rfl|omega,k⟩
   |exact⟨_,_,Ave _ _ _ _,_,_,l,_,by decide,by unfold VH;(repeat' split)<;>first|rfl|omega,m⟩
def ADu (B:Base S L) (o:Gc h N v bs) {r:Int} (f:N<=h.nx) (i:bs.length+4<=1000000000):Bk S L 2 164 [v,.int .i32 r] h λw J=>∃a:Bl,(1<=a.length/\a.length<=4)/\(0<=r->r<=127->∃x:UInt8,a=[x]/\(x.toNat:Int)=r)/\a=Wq r/\Apd h J N v w (bs++a):=
 Cn f164 B λd j _=>by
  refine⟨_,.inr rfl,Bz (λb=>?_) (λb=>?_)⟩
  ·obtain⟨x,c⟩:=DH r;obtain⟨w,J,l,m⟩:=Aqt o (ys:=Ay [x]) rfl f (by show _+1<=_;omega);refine⟨_,.inr c.symm,_,_,bsB x _,_,_,l,[x],⟨Ae 1,by show 1<=4;decide⟩,λh1 g=>⟨x,rfl,?_⟩,by unfold Wq;rw[if_pos b,c];simp,m⟩;rw[←c];exact FC ⟨h1,G⟩
  ·refine cl (ACj B o f i) ?_;rintro w J ⟨a,h1,g,e⟩;refine⟨a,h1,λe n=>absurd ?_ b,by unfold Wq;rw[if_neg b];exact g,e⟩;rw[FC (k:=.u32) ⟨e,G⟩];exact n
def c80 (B:Base S L) (H:Ey h N b v bs) {r:Int} (f:N<=h.nx) (g:bs.length+4<=1000000000):Bk S L 3 80 [AG b 0,.int .i32 r] h λ_ J=>∃a:Bl,(1<=a.length/\a.length<=4)/\(0<=r->r<=127->∃x:UInt8,a=[x]/\(x.toNat:Int)=r)/\a=Wq r/\Gu h J N b v (bs++a):=
 Cn f80 B λd i _=>by
  refine cl (Akc B H) ?_;rintro _ h1 ⟨H1,e⟩;obtain⟨p,q,rfl⟩:=H1.o.lit;refine⟨_,ld rfl H1.cell,_,ld rfl H1.cell,_,ADu B H1.o (Ao f e.nx) g d G,?_⟩;rintro w s ⟨a,j,k,l,c⟩;obtain⟨t,u,rfl⟩:=c.1.lit;obtain⟨y,m,H3,c3,n⟩:=H1.put c.2.1 c.1 c.2.2;have z:(bs++a).length=bs.length+a.length:=Aj;exact⟨_,m,_,ld rfl H3.cell,Pq,a,j,k,l,Gu.pre e ⟨_,H3,c3,n⟩⟩
def AGh (a:Base S L) (H:Ey h N b (sN) []) {n:Nat} (g:N<=h.nx) (l:0<n/\n<=1000000000):Bk S L 2 288 [AG b 0,Vi n] h λ_ J=>Gu h J N b (sN) []:=
 Cn f288 a λd m _=>by
  have c:AA h.ad (h.ad.new (.cells .nil n 5 0 0 Ah)):=AA.new _ _;have j:R6 Ax (.makeNoZero 5) [Vi (2*0+(n:Int))] h.ad=I (sL h.ad.nx n n,h.ad.new (.cells .nil n 5 0 0 Ah)):=by
   rw[show(2*0+(n:Int))=AQ n from by simp];show(bif E3 n then _ else Z)=_
   rw[Ha G];rfl
  have X:=c.aa;have f:=H.ext X;have o:Gc (h.aa (h.ad.new (.cells .nil n 5 0 0 Ah))) N (sL h.ad.nx 0 n) []:=.inr ⟨h.ad.nx,n,.nil,Ah,B,by rw[BF];exact g,Al _,G,by rw[CL,Ck];omega,by rw[DF,CK,Bi B],λi u U=>by cases U⟩;obtain⟨p,k,w⟩:=H.put (X.ae _) o λi U=>.inr (by rw[show i=h.ad.nx from U,BF];exact Ae _);refine⟨[],Kq,_,ld B H.cell,_,_,B,⟨by decide,by decide⟩,⟨by show _<=2*(0:Int)+n;omega,by show 2*(0:Int)+n<=_;omega⟩,_,NA (e:=.makeNoZero 5) (fn:=f329) (v:=sL h.ad.nx n n) (J:=h.ad.new (.cells .nil n 5 0 0 Ah)) a Kq B Kq B j d G,?_⟩;rintro _ _ ⟨rfl,rfl⟩;exact⟨c.ag,_,ld B f.cell,_,_,B,_,ld B f.cell,_,_,B,_,k,_,w⟩
def Aut (c:Base S L) (H:Ey h N b (sN) []) {n:Int} (g:N<=h.nx) (j:0<=n/\n<=1000000000):Bk S L 4 222 [AG b 0,Vi n] h λ_ J=>Gu h J N b (sN) []:=
 Cn f222 c λd k _=>by
  refine cl (Akc c H) ?_;rintro _ h1 ⟨a,c1⟩;refine Ad (λf=>Cf (Fp f) G) (λf=>?_);refine⟨[],Kq,_,ld B a.cell,_,_,B,_,ld B a.cell,⟨by decide,by decide⟩,Ad (λe=>?_) (λe=>?_)⟩
  .obtain⟨m,rfl⟩:∃m:Nat,n=m:=⟨n.toNat,G⟩
   have e:(0:Int)-0<m:=Fp e;exact⟨_,AGh c a (Ao g c1.nx) G d G,λ_ J w=>Gu.pre c1 w⟩
  .exact Gu.pre c1 ⟨_,a,(AA.refl h1).ae _,λi=>.inl⟩
end
def Rd.str (r:Rd h (.slice A n c) 1 ss.length (AR ss)) (b:k<ss.length):∃a,A=I a/\Cell h a.block (a.off+k*1) (.string ss[k]):=by
 obtain⟨d,f,e,_,q⟩:=r.at_ G;cases e;exact⟨d,B,by rw[BJ];exact q k _ (Dl b)⟩
def Avc (m:Base S L) {g:Bd} (r:Rd h v 1 ss.length (AR ss)) (hl:ss.length<=100) (u:∀s∈ss,s.size<=10000) (hp:g.size<=10):Bk S L 5 152 [v,.string g] h λw J=>AA h J/\∃t,w=.string t:=
 Cn f152 m λd ae hL=>by
  obtain⟨A0,F,rfl⟩:∃A c,v=.slice A ss.length c:=by obtain⟨_,A,c,e,_⟩:=r;exact⟨A,c,e⟩
  refine Ad (λy=>⟨AA.refl h,_,B⟩) (λy=>Ad (λn=>?_) (λn=>?_))
  .have n:=Fp n
   obtain⟨a,rfl,q⟩:=r.str (k:=0) G;exact⟨⟨by decide,G⟩,_,ld B q,AA.refl h,_,B⟩
  have y:=KK y;have n:=KK n;obtain⟨a,rfl,O⟩:=r.str (k:=0) G;obtain⟨P,Q,C,b1⟩:=r.slice Kq (lo:=I (Vi 1)) (U:=Z) (l:=1) B B G Jq;obtain⟨f,H⟩:∃f,f=ss.drop 1:=⟨_,B⟩;have R:((AR ss).drop (1*1)).take ((ss.length-1)*1)=AR f:=by
   rw[H,AR,←List.map_drop,Bj (by simp)];rfl
  have T:ss.length-1=f.length:=Gq;rw[R,T] at C;have K:∀x:Int,0<=x/\x<=11->0<=x*((ss.length:Int)-1)/\x*((ss.length:Int)-1)<=11*99:=λx M=>⟨Int.mul_nonneg M.1 G,Int.mul_le_mul M.2 G G G⟩;have m1:=K (g.size:Int) G;refine Ad (λV=>?_) (λV=>?_);refine⟨Pq,⟨by decide,G,by decide,by decide⟩,Bz (λW=>?_) (λW=>?_)⟩
  .have m2:=K ((g.size:Int)+1) G
   have:=Int.le_ediv_of_mul_le (a:=(g.size:Int)+1) (b:=9223372036854775807) (c:=(ss.length:Int)-1) G G;omega
  refine⟨Pq,Pq,Pq,?_⟩
  all_goals
   refine⟨λo A j=>∃(k:Nat) (z:Int),A=[(0,.slice (I a) ss.length F),(1,.string g),(5,Vi z),(39,.slice (I a) ss.length F),(40,Vi ss.length),(41,Vi k)]/\k<=ss.length/\(0<=z/\z<=2000+10000*k)/\o=ss.length-k/\j=h,
    ⟨_,_,Sq,G,0,_,B,Al _,G,B,B⟩,?_⟩
   rintro o A j ⟨k,z,rfl,X,hz,rfl,rfl⟩ aa;apply Bz<;>intro k5
   .obtain⟨a',e,q⟩:=r.str (k:=k) G
    cases e;have ab:=u _ (Bu (show k<ss.length by omega));exact⟨G,_,ld B q,Pq,Ad (λk6=>Cf (Fp k6) G) (λk6=>(⟨Pq,Pq,_,_,Sq,G,k+1,_,B,G,G,B,B⟩))⟩
   obtain⟨g1,y1,D⟩:=(Sep.nil j).a3;refine⟨_,_,y1 _,_,Aut m (D.bl (i:=0) B) D.e.nx G d G,?_⟩;rintro _ g2 w2;obtain⟨v2,p⟩:=D.bf (i:=0) B w2;have af:=u _ (Bu (show 0<ss.length by omega));refine⟨Jq,_,ld B (O.ext p.e),_,c79 m (p.bl (i:=0) B) p.e.nx (by simp;omega) d G,?_⟩;rintro _ g3 w3;obtain⟨v3,s3⟩:=p.bf (i:=0) B w3;obtain⟨A1,c1,rfl⟩:∃A c,P=.slice A f.length c:=by obtain⟨_,A,c,e,_⟩:=C;exact⟨A,c,e⟩
   refine⟨_,_,Cs (CN _) Q,λo A N=>∃(k:Nat) (v:Aa) (bs:Bl),A=[(1,.string g),(8,AG j.nx 0),(63,.slice A1 f.length c1),(64,Vi f.length),(65,Vi k)]/\k<=f.length/\o=f.length-k/\bs.length<=10000+10010*k/\Sep j N [RK j.nx j.nx v bs],
    ⟨_,_,Sq,G,0,_,_,B,Al _,B,by simp;omega,s3⟩,?_⟩
   rintro o A N ⟨k,v,bs,rfl,X,rfl,hb,s⟩ aa;apply Bz<;>intro k7
   .obtain⟨a',rfl,q⟩:=(C.ext s.e).str (k:=k) G
    have ab:f[k].size<=10000:=(λs h=>u s (List.drop_subset 1 ss (H▸h)):∀s∈f,s.size<=10000) _ (Bu (G:k<f.length));refine⟨G,_,ld B q,_,c79 m (s.bl (i:=0) B) s.e.nx G d G,?_⟩;rintro _ ad w4;obtain⟨v4,E⟩:=s.bf (i:=0) B w4;refine⟨_,c79 m (E.bl (i:=0) B) E.e.nx (by simp;omega) d G,?_⟩;rintro _ ag w5;obtain⟨v5,s5⟩:=E.bf (i:=0) B w5;exact⟨Pq,_,_,Sq,G,k+1,_,_,B,G,B,by simp;omega,s5⟩
   refine⟨_,c81 m (s.bl (i:=0) B) G d G,?_⟩;rintro _ ad ⟨rfl,c6⟩;exact⟨s.e.then c6 λi U=>(s.bl (i:=0) B).o.ge i U,_,B⟩
def dig (x:UInt8):Prop:=48<=x.toNat/\x.toNat<=57
def Ml (ds:Bl):Prop:=∀x∈ds,dig x
def Acu (n:Nat) (s:Bd):Bool:=Ar n s.size&&(BG n).all λi=>Ar 48 (Cv s i).toNat&&Ar (Cv s i).toNat 57
def HR (a:Acu n s=Ag) {x:Int} (h0:0<=x) (b:x<n):0<=x/\x<(s.size:Int):=by
 have:=Ac (An ..▸a:_/\_).1;omega
def G9 (a:Acu n s=Ag) (b:x<n):dig (Cv s x):=by
 have:=List.all_eq_true.1 ((An ..▸a:_/\_).2:(BG n).all (λi=>Ar 48 (Cv s i).toNat&&Ar (Cv s i).toNat 57)=Ag) x (List.mem_range.2 b);rw[An] at this;exact⟨Ac this.1,Ac this.2⟩
def Sep.ct (a:Gv Ax t=Ag) {l:List Ct} (s:Sep h0 h l) (U:l[i]?=I (aO b e xs)) (c:j<xs.length) (h1:one v=Ag) {K:Y->Prop}
 (H:∀J,Sep h0 (h.aa J) (l.set i (aO b e (xs.set j v)))->K J):∃J,BA Ax t h.ad b j v=I J/\K J:=by
 obtain⟨J,d,f⟩:=s.stM a U c h1;exact⟨J,d,H J f⟩
def Jx (h:Y):Prop:=∀i:Nat,i<5->Cell h 7 i (.int .u64 ((10^i:Nat):Int))
def US (x:Nat):Nat:=bitLen x*78913/262144
def Ahl (h1:100<=x) (f:x<=9999):US x<5/\US x+(if 10^US x<=x then 1 else 0)=if x<1000 then 3 else 4:=by
 have:=List.all_eq_true.1 (Kq:(BG 10000).all (λx=>AD x 100||(AD (US x) 5&&Am (US x+(bif Ar (10^US x) x then 1 else 0)) (bif AD x 1000 then 3 else 4)))=Ag) x (List.mem_range.2 G)
 rw[Dm,An] at this;rcases this with h|⟨b,a⟩
 .rw[AK] at h;omega
 .refine⟨by rwa [AK] at b,?_⟩
  have a:=Af a;have c:(bif Ar (10^US x) x then 1 else 0)=if 10^US x<=x then 1 else 0:=by
   by_cases h:10^US x<=x
   .rw[Bi h,Aq h];rfl
   .rw[Bm h,show Ar (10^US x) x=Ah from Bool.eq_false_iff.2 λe=>h (Ac e)];rfl
  have d:(bif AD x 1000 then 3 else 4)=if x<1000 then 3 else 4:=by
   by_cases h:x<1000
   .rw[Bi h,show AD x 1000=Ag by rw[AK];exact h];rfl
   .rw[Bm h,show AD x 1000=Ah from Bool.eq_false_iff.2 λe=>h (by rwa [AK] at e)];rfl
  rw[c,d] at a;exact a
def Avu (a:Base S L) (q:Jx h) (h1:100<=x) (f:x<=9999):Bk S L 2 331 [.int .u64 x] h λw J=>w=Vi (if x<1000 then 3 else 4:Nat)/\J=h:=
 Cn f331 a λd k _=>by
  have c:=Ahl h1 f;refine⟨_,Awc a G d G,?_⟩;rintro _ h ⟨rfl,hb,rfl⟩;have g:DN .i64 ((bitLen x:Int)*78913) 18=((bitLen x*78913/262144:Nat):Int):=by
   show((bitLen x:Int)*78913).fdiv (2^min 18 64)=_;rw[Int.fdiv_eq_ediv_of_nonneg _ (by decide)];have:(2:Int)^min 18 64=262144:=by decide
   rw[this];omega
  have e:Bk S L 1 353 [Vi (bitLen x)] h λw J=>w=Vi (US x)/\J=h:=Cn f353 a λd _ _=>⟨⟨by omega,by omega⟩,by decide,Cs (AL .i64) g,B⟩;refine⟨_,e d G,?_⟩;rintro _ h ⟨rfl,rfl⟩;have i:∀b:Bool,Bk S L 1 354 [.bool b] h λw J=>w=Vi (if b=Ag then 1 else 0:Nat)/\J=h:=λb=>Cn f354 a λd _ _=>by
   cases b<;>exact⟨B,B⟩
  refine⟨⟨G,by have:=c.1;show(US x:Int)<20;omega⟩,_,Dz (ld B (q (US x) c.1)) (by show 0+((US x:Nat):Int).toNat*1=_;omega),_,i _ d G,?_⟩;rintro _ h ⟨rfl,rfl⟩;have j:(if decide (((10^US x:Nat):Int)<=(x:Int))=Ag then 1 else 0:Nat)=if 10^US x<=x then 1 else 0:=by
   simp only[decide_eq_true_iff,Int.ofNat_le]
  rw[j];have e:(if 10^US x<=x then 1 else 0)<=1:=by split<;>omega
  refine⟨⟨by omega,by omega⟩,?_,B⟩;rw[←c.2];rfl
def zs (n:Nat):AH:=AE n (.int .u8 0)
def Sep.dh (a:Gv Ax t=Ag) {l:List Ct} (s:Sep h0 h l) (U:l[i]?=I (aO b e xs)) (c:j<xs.length) (h1:one v=Ag) {K:Y->Prop}
 (H:∀J,Sep h0 J (l.set i (aO b e (xs.set j v)))->K J):∃J,BA Ax t h b j v=I J/\K J:=by
 obtain⟨J,d,f⟩:=s.st a U c h1;exact⟨J,d,H J f⟩
def dig.cons {x:UInt8} {l:Bl} (h:dig x) (d:Ml l):Ml (x::l):=λy a=>(List.mem_cons.1 a).elim (λe=>e▸h) (d y)
def Ml.nil:Ml []:=λ_ h=>by cases h
def Ayb (c:Base S L) (s:Sep h0 h [aO b 426 (zs 24)]) (l:x<1000):Bk S L 1 332 [.slice (I ⟨b,1,I 0⟩) 3 23,.int .u64 x] h λ_ J=>∃ds:Bl,Sep h0 J [aO b 426 (zs 1++Ay ds++zs 20)]/\ds.length=3/\Ml ds:=
 Cn f332 c λd m o=>by
  refine⟨λe A a=>A=[(0,.slice (I ⟨b,1,I 0⟩) 3 23),(1,.int .u64 x),(4,Vi 3)]/\a=h,⟨0,_,Sq,G,B,B⟩,?_⟩;rintro e A a ⟨rfl,rfl⟩ p;obtain⟨y,f,dy⟩:∃y:UInt8,(y.toNat:Int)=48+(x:Int)/100/\dig y:=⟨UInt8.ofNat (48+x/100),by rw[UInt8.toNat_ofNat'];omega,by constructor<;>rw[UInt8.toNat_ofNat']<;>omega⟩;refine⟨_,.inl ⟨⟨by omega,by omega⟩,B⟩,⟨G,by decide⟩,⟨by omega,by omega⟩,⟨G,by decide,G,G⟩,[],Kq,⟨by decide,by decide⟩,⟨by decide,by decide⟩,⟨by omega,by omega⟩,HR (n:=200) Kq G G,HR (n:=200) Kq G G,⟨by decide,by decide⟩,Sep.ct Kq s (i:=0) B (by show 3<24;decide) B λq g=>⟨⟨by decide,by decide⟩,Sep.ct Kq g (i:=0) B (by show 2<24;decide) B λr j=>⟨⟨by decide,by decide⟩,⟨by omega,by omega⟩,_,.inl ⟨⟨by omega,by omega⟩,f⟩,⟨by decide,by decide⟩,Sep.dh Kq j (i:=0) B (by show 1<24;decide) B λt k=>⟨[y,_,_],k,B,dy.cons ((G9 (n:=200) Kq G).cons ((G9 (n:=200) Kq G).cons .nil))⟩⟩⟩⟩
def Axi (c:Base S L) (s:Sep h0 h [aO b 426 (zs 24)]) (l:x<10000):Bk S L 1 332 [.slice (I ⟨b,1,I 0⟩) 4 23,.int .u64 x] h λ_ J=>∃ds:Bl,Sep h0 J [aO b 426 (zs 1++Ay ds++zs 19)]/\ds.length=4/\Ml ds:=
 Cn f332 c λd m o=>by
  refine⟨λe A a=>A=[(0,.slice (I ⟨b,1,I 0⟩) 4 23),(1,.int .u64 x),(4,Vi 4)]/\a=h,⟨0,_,Sq,G,B,B⟩,?_⟩;rintro e A a ⟨rfl,rfl⟩ p;refine⟨_,.inl Pq,Jq,⟨G,by decide,G,G⟩,⟨G,by decide,G,G⟩,Pq,Jq,Pq,[],Kq,Jq,Jq,Pq,HR (n:=200) Kq G G,HR (n:=200) Kq G G,Jq,Sep.ct Kq s (i:=0) B (by show 4<24;decide) B λq f=>⟨Jq,Sep.ct Kq f (i:=0) B (by show 3<24;decide) B λr g=>
   ⟨[],Kq,⟨by decide,by decide⟩,⟨by decide,by decide⟩,Pq,HR (n:=200) Kq G G,HR (n:=200) Kq G G,⟨by decide,by decide⟩,Sep.ct Kq g (i:=0) B (by show 2<24;decide) B λt j=>⟨⟨by decide,by decide⟩,Sep.ct Kq j (i:=0) B (by show 1<24;decide) B λu k=>⟨⟨by decide,by decide⟩,[_,_,_,_],k,B,(G9 (n:=200) Kq G).cons ((G9 (n:=200) Kq G).cons ((G9 (n:=200) Kq G).cons ((G9 (n:=200) Kq G).cons .nil)))⟩⟩⟩⟩⟩
def slG {a b:Int} (h0:0<=a) (h1:a<=b) (c:b<=s.size):C7 Ax 9 (.string s) (I (Vi a)) (I (Vi b)) Z=I (.string (EY ((s.data.toList.drop a.toNat).take (b.toNat-a.toNat)))):=by
 obtain⟨l,rfl⟩:=B9 h0;obtain⟨m,rfl⟩:=B9 (show 0<=b by omega);exact Avz G G
def Y9 (a:Acu n s=Ag) {l:Nat} (h:l+m<=n) (d:1<=m/\m<=4):Ml ((s.data.toList.drop l).take m)/\1<=((s.data.toList.drop l).take m).length/\((s.data.toList.drop l).take m).length<=4:=by
 have e:n<=s.data.toList.length:=Ac (An ..▸a:_/\_).1;refine⟨λx b=>?_,by rw[Cg,AV];omega,Jq⟩;obtain⟨i,U,rfl⟩:=N2 b;have c:=U;rw[Cg,AV] at c;rw[List.getElem_take,List.getElem_drop];have:=G9 a (x:=l+i) G;unfold Cv at this
 rwa [Ak,Ab G] at this
def Akg (w:Aa):Prop:=∃ds:Bl,w=.string (EY ds)/\Ml ds/\1<=ds.length/\ds.length<=4
def AGi (a:Base S L) (c:x<100):Bk S L 1 330 [Vi x] h λw J=>Akg w/\J=h:=
 Cn f330 a λd e _=>by
  refine Bz (λb=>?_) (λb=>?_)
  .exact⟨Pq,_,_,Cs (CN _) (slG G G (by show _<=((36:Nat):Int);omega)),⟨_,B,Y9 (n:=10) Kq G G⟩,B⟩
  .exact⟨Pq,Pq,Pq,_,_,Cs (CN _) (slG G G (by show _<=((200:Nat):Int);omega)),⟨_,B,Y9 (n:=200) Kq G G⟩,B⟩
def Own.cV {sp:Option Nat} {pre post:AH} (o:Own h b e (pre++ys++post)) (d:ys.length=n*k) (f:n<=c):Rd h (.slice (I ⟨b,pre.length,sp⟩) n c) k n ys:=by
 obtain⟨h1,g,x,j,l⟩:=o;refine⟨d,_,_,B,f,Jq,λa m=>?_⟩;cases m;refine⟨h1,g,_,e,0,0,x,j,λi u U=>l _ u ?_⟩;show(pre++ys++post)[pre.length+i]?=_;rw[KA,Bq G,Ds,AB (List.getElem?_eq_some_iff.1 U).1];exact U
def Jx.ext (q:Jx h) (x:AA h J):Jx J:=λi U=>(q i U).ext x
def ADe (c:Base S L) (q:Jx h) (t:x<=9999):Bk S L 3 289 [Vi x,Vi 10] h λw J=>AA h J/\Akg w:=
 Cn f289 c λd u _=>by
  refine Bz (λp=>?_) (λp=>?_)
  .refine⟨_,AGi c G d G,?_⟩
   rintro _ _ ⟨h1,rfl⟩;exact⟨AA.refl _,h1⟩
  obtain⟨g,y,s⟩:=(Sep.nil h).al (z:=.agg ⟨zs 24⟩) Kq;refine⟨_,_,y _,_,.inl Pq,?_⟩;have Da:∀{f:Y} {ds:Bl} {n m:Nat},Sep h f [aO h.nx 426 (zs 1++Ay ds++zs m)]->ds.length=n->n<=23->Ea Ax 62 9 (.slice (I ⟨h.nx,1,I 0⟩) n 23) f=I (.string (EY ds),f):=λs k r=>FB Kq (Own.cV (s.dD (i:=0) B) (by rw[A7];omega) r);rcases A8 x 1000 with l|l
  .refine⟨_,((Avu c (q.ext s.e) G G).mono (Q':=λw J=>w=Vi 3/\J=g) λ_ _ ⟨a,b⟩=>⟨by rw[a,Bi l];rfl,b⟩) d G,?_⟩
   rintro _ g ⟨rfl,rfl⟩;refine⟨Jq,_,_,B,_,Ayb c s l d G,?_⟩;rintro _ f ⟨ds,j,k,o⟩;exact⟨⟨by decide,by decide⟩,_,_,B,_,Da j k (by decide),j.e,ds,B,o,G,G⟩
  .refine⟨_,((Avu c (q.ext s.e) G G).mono (Q':=λw J=>w=Vi 4/\J=g) λ_ _ ⟨a,b⟩=>⟨by rw[a,Bm G];rfl,b⟩) d G,?_⟩
   rintro _ g ⟨rfl,rfl⟩;refine⟨Jq,_,_,B,_,Axi c s G d G,?_⟩;rintro _ f ⟨ds,j,k,o⟩;exact⟨⟨by decide,by decide⟩,_,_,B,_,Da j k (by decide),j.e,ds,B,o,G,G⟩
def Aps (a:Base S L) (q:Jx h) (b:x<=9999):Bk S L 5 154 [Vi x] h λw J=>AA h J/\Akg w:=
 Cn f154 a λd c _=>by
  exact⟨_,(Cn f223 a λd c _=>⟨_,ADe a q b d G,λ_ _ h=>h⟩:Bk S L 4 223 [Vi x] h λw J=>AA h J/\Akg w) d G,λ_ _ h=>h⟩
def OL:∀l:List Bool,(CW l).all one=Ag
 |[]=>rfl
 |_::l=>OL l
def Aac (l:List Bool) (i:Nat) (b:Bool):(CW l).set i (.bool b)=CW (l.set i b):=by
 unfold CW;rw[Cp]
def sLo {s:Bd} {a:Int} (h0:0<=a) (b:a<=s.size):C7 Ax 9 (Sg s) (I (Vi a)) Z Z=I (Sg (EY ((s.data.toList.drop a.toNat).take (s.size-a.toNat)))):=by
 obtain⟨l,rfl⟩:=B9 h0;show(bif Ar l s.size&&Ar s.size s.size then I (Sg (EY ((s.data.toList.drop l).take (s.size-l)))) else Z)=_
 rw[Aq (show l<=s.size by omega),Aq (Ae _)];rfl
def sHi {s:Bd} {b:Int} (h0:0<=b) (a:b<=s.size):C7 Ax 9 (Sg s) Z (I (Vi b)) Z=I (Sg (EY ((s.data.toList.drop 0).take (b.toNat-0)))):=by
 obtain⟨l,rfl⟩:=B9 h0;exact slS G
def Anu {s:Bd} {a:Nat} (h:a<=s.size):(EY ((s.data.toList.drop a).take (s.size-a))).size=s.size-a:=by
 have:s.data.toList.length=s.size:=rfl;rw[VM,Cg,AV];omega
def Ani {s:Bd} {a:Nat} (h:a<=s.size):(EY ((s.data.toList.drop 0).take (a-0))).size=a:=by
 have:s.data.toList.length=s.size:=rfl;rw[VM,Cg,AV];omega
def YE (h:Y) (b:Nat):Prop:=∃l:List Bool,l.length=256/\Own h b 392 (CW l)
def Agy {l:List Bool} {i:Nat} (h:i<l.length):(CW l)[i]?=I (.bool l[i]):=by
 unfold CW;rw[AX,Ab h];rfl
def Avt (a:Base S L) {h:Y} {b:Nat} {x:UInt8} (o:YE h b):Bk S L 1 326 [AG b 0,.int .u8 (x.toNat:Int)] h λw J=>(∃t:Bool,w=.bool t)/\J=h:=
 Cn f326 a λd c _=>by
  obtain⟨l,e,o⟩:=o;have f:=Pd x;exact⟨⟨G,by show(x.toNat:Int)<((256:Nat):Int);omega⟩,_,Dz (ld B (o.cell (Agy (i:=x.toNat) G))) (by show 0+((x.toNat:Nat):Int).toNat*1=_;omega),⟨_,B⟩,B⟩
def AAc (f:Base S L) {h:Y} {b:Nat} {s:Bd} (o:YE h b) (j:s.size<=1000):Bk S L 2 284 [Sg s,AG b 0] h λw J=>(∃t,w=.string t)/\J=h:=
 Cn f284 f λd m n=>by
  refine⟨λg A k=>∃t:Bd,A=[(0,Sg t),(1,AG b 0)]/\k=h/\t.size<=1000/\g=t.size,⟨_,_,Sq,G,s,B,B,j,B⟩,?_⟩;rintro g A h ⟨t,rfl,rfl,p,rfl⟩ q;refine Ad (λe=>?_) (λe=>⟨⟨_,B⟩,B⟩);have e:=Fp e;refine⟨G,_,Avt f o d G,?_⟩;rintro _ h ⟨⟨c,rfl⟩,rfl⟩;refine⟨_,_,B,?_⟩;refine Ad (λl=>⟨⟨_,B⟩,B⟩) (λl=>?_);have i:=Anu (s:=t) (a:=Int.toNat 1) (by show 1<=_;omega);have h1:Int.toNat 1=1:=rfl;exact⟨_,_,Cs (CN _) (sLo (by decide) G),_,_,Sq,by rw[i];omega,_,B,B,by rw[i];omega,B⟩
def ACu (f:Base S L) {h:Y} {b:Nat} {s:Bd} (o:YE h b) (k:s.size<=1000):Bk S L 2 285 [Sg s,AG b 0] h λw J=>(∃t:Bd,w=.string t/\t.size<=1000)/\J=h:=
 Cn f285 f λd n p=>by
  refine⟨λg A l=>∃t:Bd,A=[(0,Sg t),(1,AG b 0)]/\l=h/\t.size<=1000/\g=t.size,⟨_,_,Sq,G,s,B,B,k,B⟩,?_⟩;rintro g A h ⟨t,rfl,rfl,i,rfl⟩ q;refine Ad (λe=>?_) (λe=>⟨⟨_,B,i⟩,B⟩);have e:=Fp e;refine⟨Pq,G,_,Avt f o d G,?_⟩;rintro _ h ⟨⟨c,rfl⟩,rfl⟩;refine⟨_,_,B,?_⟩;refine Ad (λm=>⟨⟨_,B,i⟩,B⟩) (λm=>?_);have j:=Ani (s:=t) (a:=((t.size:Int)-1).toNat) G;exact⟨Pq,_,_,Cs (CN _) (sHi G G),_,_,Sq,by rw[j];omega,_,B,B,by rw[j];omega,B⟩
def AEm (p:Base S L) {h:Y} {s:Bd} (q:Acu s.size s=Ag) (F:s.size<=1000):Bk S L 1 283 [Sg s] h λw J=>AA h J/\∃l:List Bool,l.length=256/\w=.tuple #[.agg ⟨CW l⟩,.bool Ag]:=
 Cn f283 p λd H K=>by
  obtain⟨g,y,r⟩:=(Sep.nil h).al (t:=392) (z:=.agg ⟨CW (AE 256 Ah)⟩) Kq;refine⟨_,_,y _,λf A j=>∃(k:Nat) (l:List Bool),A=[(0,Sg s),(2,AG h.nx 0),(4,Vi k)]/\k<=s.size/\f=s.size-k/\l.length=256/\Sep h j [aO h.nx 392 (CW l)],⟨_,_,Sq,G,0,_,B,Al _,B,B,r⟩,?_⟩;rintro f A j ⟨k,l,rfl,M,rfl,a,b⟩ N;apply Bz<;>intro O
  .have u:=G9 q (x:=k) G
   have P:=u.2;refine⟨G,Ad (λm=>Cf (Fp m) (by rw[show((k:Nat):Int).toNat=k from B];omega)) (λm=>?_)⟩;refine⟨⟨G,by rw[show((k:Nat):Int).toNat=k from B];show _<((256:Nat):Int);omega⟩,Sep.dh (t:=4) Kq b (i:=0) B (by rw[show(CW l).length=l.length by simp[CW],a,show((k:Nat):Int).toNat=k from B];show 0+((Cv s k).toNat:Int).toNat*1<256;omega) B λv C=>⟨Pq,_,_,Sq,G,k+1,l.set (0+((Cv s ((k:Nat):Int).toNat).toNat:Int).toNat*1) Ag,B,G,B,by rw[B4,a],by rw[←Aac];exact C⟩⟩
  .have o:=b.dD (i:=0) B
   have c:(CW l).length=256:=by simp[CW,a]
   obtain⟨v,D,n,E⟩:=o.bD (τ:=Ax) (t:=392) (k:=256) Kq (i:=0) c G (OL l);have:=JB (CW l) [] (CW l) B;simp only[IW,Acd] at this;rw[this] at n;exact⟨_,EQ (k:=256) Kq o.cells c,_,D,_,EQ (k:=256) Kq n.cells c,b.e.ah E (Ae _),l,a,B⟩
def ABn (a:Base S L) {h:Y} {s c:Bd} (k:Acu c.size c=Ag) (m:c=⟨#[48,49,50,51,52,53,54,55,56,57]⟩) (n:s.size<=1000):Bk S L 3 216 [Sg s,Sg c] h λw J=>AA h J/\∃t,w=.string t:=
 Cn f216 a λd y _=>by
  subst m;refine⟨_,B,Ad (λo=>⟨AA.refl h,_,B⟩) (λo=>?_)⟩;refine⟨_,B,_,AEm a k (by decide) d G,?_⟩;rintro _ h1 ⟨p,l,b,rfl⟩;have f:(CW l).length=256:=by simp[CW,b]
  obtain⟨A,q,r,u,j⟩:=(Sep.nil h1).var (t:=392) (z:=.agg ⟨CW (AE 256 Ah)⟩) Kq (v:=.agg ⟨CW l⟩) (by show Am (CW l).length 256=Ag;rw[f];rfl) (by show(CW l).length=_;rw[f];rfl) (OL l);have st:YE r h1.nx:=⟨l,b,j.dD (i:=0) B⟩;refine⟨_,_,q _,_,u,_,ACu a st n d G,?_⟩;rintro _ g ⟨⟨t,rfl,x⟩,rfl⟩;refine cl (AAc a st x) ?_;rintro _ g ⟨⟨t,rfl⟩,rfl⟩;exact⟨p.trans j.e,t,B⟩
def Ajx (c:Base S L) {h:Y} {s:Bd}:Bk S L 4 141 [Sg s] h λw J=>AA h J/\∃b:Bool,w=.bool b/\(b=Ag->1<=s.size/\s.size<=20):=
 Cn f141 c λd j _=>by
  obtain⟨⟨l⟩⟩:=s;cases l with
  |nil=>exact⟨_,B,AA.refl h,Ah,B,λh=>by cases h⟩
  |
   cons x l=>
   have e:1<=(ByteArray.mk ⟨x::l⟩).size:=Nat.succ_le_succ (Al _);refine⟨_,B,Bz (λf=>?_) (λf=>?_)⟩
   .refine cl (ABn c Kq B G) ?_
    rintro _ h1 ⟨a,t,rfl⟩;refine⟨_,B,Ad (λg=>?_) (λg=>?_)⟩
    .refine⟨G,Ad (λi=>?_) (λi=>?_)⟩
     .exact⟨a,_,B,λ_=>⟨e,G⟩⟩
     .exact⟨_,B,a,_,B,λ_=>⟨e,G⟩⟩
    .exact⟨a,_,B,λh=>by cases h⟩
   .exact⟨AA.refl h,_,B,λh=>by cases h⟩
end
end
end Go.Ev
