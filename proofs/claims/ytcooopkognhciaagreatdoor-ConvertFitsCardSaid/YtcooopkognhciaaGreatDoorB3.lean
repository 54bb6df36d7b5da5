/-
  Part of the proof.
-/
import Derived.Test.YtcooopkognhciaaGreatDoorB2
import Derived.Test.YtcooopkognhciaaGreatDoorRows
set_option maxRecDepth 100000
set_option maxHeartbeats 40000000
set_option linter.all false
open Bool renaming false->Ah,true->Ag
open Go renaming Code->DC,DataW->JO,Func->BC,FuncId->Au,MapEntry->Ap,MemPlace->IY,Oper->C0,Operand->BU,Program->AN,TypeId->Ai,Value->Aa,World->AM,Addr->BD,Deferred->Hh,TypeInfo->KR
open Option renaming none->Z,some->I
open Array renaming toList->aI
open Nat renaming beq->Am,ble->Ar,blt->AD,succ->A3,lt_succ_iff_lt_or_eq->qB,pos_of_ne_zero->d_,eq_or_lt_of_le->gF,sub_self->qY
open List renaming range->BG,replicate->AE,cons->eV,all_append->Yqe,length->LB,length->HD,getElem!_toArray->ZE,map_singleton->kO,mergeSort_perm->mq,drop_of_length_le->qD,map_id->mn,mem_iff_getElem->ra,take_nil->qX,pairwise_iff_getElem->F8,pairwise_singleton->g_,map_take->g',mem_of_mem_drop->qk,take_set_of_le->q_,flatMap->jL,getD->j_,take->kU,drop->k_
open Go.World renaming cell?->WX,shape?->Jd
open Int renaming ofNat->AQ,toNat->bH,ofNat_lt->iX,sub_mul_emod_self_left->qC,emod_nonneg->mj,emod_lt_of_pos->qZ,le_of_eq->dK
open ByteArray renaming size->aL
open Go.Value renaming slice->PA,int->AL,bool->CU,tuple->C4,okWide->gR,func->l_,agg->n_
open Classical renaming choose->iW
open Prod renaming fst->Eh,snd->fS
namespace Go.Ev
open Go Go.Proofs Tryz
noncomputable section
section
variable {h J h0 h1 H:Y} {v fv nv pv cv ev lv u v':Aa} {xs args vs ys:AH} {n b N i k e r j x m c q d a p t2 st sb mo ck lp rm b0 sz off:Nat} {t:Ai} {f:Au} {fn:BC} {s:Bd} {bs:Bl} {ws:Bo} {W:Nat->Prop} {Q:Aa->Y->Prop} {A:Option BD} {z df day:Int} {ss:BZ} {τ:Bb}
variable{S:A9} {L:Nat} {l:AH} {g ob:Nat} {α:Type} [aF S L]
def xp [B:d9 S L] (U:Ce h) {v:Value} (qq:G3 h) (r:Rd h v 1 n (Ay bs)) (hn:n<=100000000):
 iB S L 32 34 [v] h λw J=>∃(o:Value) (z:Int),w=.tuple #[o,Vi z]/\(z=0->∃(b:Nat) (D:Dt),o=AG b 0/\DT J b D/\D.fits/\Sw D.ps/\D.c=LB D.ps/\EJ (LB D.ps) D.b/\(0<=D.a/\D.a<=30000)/\∀i:Nat,i<D.p5.n->(D.C (i:Int)).ok (LB D.ps)):=
 Nu (fn:=f34) Kq rfl 9 (Aov h v) λd hd'=>by
  have hL:=B.a;have I:∀{H:Y},AA h H->AA h H/\∃(o:Value) (z:Int),C4 #[.pointer none,Vi 5]=.tuple #[o,Vi z]/\(z=0->∃(b:Nat) (D:Dt),o=AG b 0/\DT H b D/\D.fits/\Sw D.ps/\D.c=LB D.ps/\EJ (LB D.ps) D.b/\(0<=D.a/\D.a<=30000)/\∀i:Nat,i<D.p5.n->(D.C (i:Int)).ok (LB D.ps)):=λx=>⟨x,_,5,rfl,λh=>by cases h⟩;refine⟨Dc rfl,?_,?_⟩
  ·refine cl (wU r hn qq) ?_;rintro _ Z ⟨x1,pv,z,rfl,hz⟩;apply Ad<;>intro e1
   ·exact I x1
   obtain⟨ps,l,P⟩:=hz (by simpa using e1);obtain⟨PA,pc,rfl⟩:∃A c,pv=.slice A (LB ps) c:=by
    obtain⟨⟨_,A,c,e,_⟩,_⟩:=P;exact⟨A,c,e⟩
   obtain⟨g1,y1,s1⟩:=(aH.nil Z).box Ax 132 (.agg #[.slice PA (LB ps) pc,.bool false]);obtain⟨g2,y2,s2⟩:=s1.box Ax 136 (.agg ⟨D2⟩);have o2:dS Z Z.a g1.a (.slice PA (LB ps) pc) D2 false (λ_=>True) g2:=⟨s2,λ_ _ _ h=>h,λ_=>trivial⟩;have hN:Z.a<g1.a:=(s1.dD 0 rfl).1;refine⟨_,_,y1,_,_,y2,?_⟩;generalize g1.a=g at hN o2⊢;generalize Z.a=f at hN o2⊢;refine cl (jC o2.1 P l (i:=1) rfl) ?_;rintro w3 h3 ⟨b3,s3,m3,n3,c3,nn3,bs3,hn3,r3⟩;have o3:=o2.go (P:=λ_=>True) s3 (c3.mono λi h=>.inl h) (λ_ _ _ h=>h) λe=>⟨rfl,trivial⟩;refine cl (wS r3 G) ?_;rintro _ h4 ⟨x4,o4,z4,rfl,one4,hz4⟩;obtain⟨h5,u5,o5⟩:=(o3.go (P:=λh=>z4=0->∃m,Gt h o4 m/\(∀i,BY o4 i->i≠f/\i≠g)/\1<=LB m/\LB m<=64/\∀q∈m,q.1.size<=16/\0<=q.2/\q.2<=2) (o3.1.C x4) (x4.O _) (λ_ _ c k z=>by
    obtain⟨m,a,n,k⟩:=k z;exact⟨m,Rd.O a c λi hi hh=>hh.elim (n i hi).1 (n i hi).2,n,k⟩) λe=>⟨e,λz=>by
    obtain⟨m,a,k⟩:=hz4 z;exact⟨m,a.rd,λi hi=>by have:=a.ai i hi;have:=o3.lt;omega,k⟩⟩).wr (t:=22) rfl (j:=0) (Ac rfl) one4
   refine⟨_,u5,?_⟩;have q5:=o5.1.q 1 1 rfl (v:=.bool b3) rfl;cases b3
   all_goals
    refine⟨_,ld rfl q5,?_⟩;obtain⟨h6,u6,k6⟩:=o5.set _;refine⟨_,u6,?_⟩;have o6:=k6 (C:=z4=0) wl;refine⟨_,jC o6.1 P l (i:=1) rfl d G,?_⟩;rintro w7 h7 ⟨b7,s7,m7,n7,c7,nn7,bs7,hn7,r7⟩;have o7:=o6.go (P:=λ_=>True) s7 (c7.mono λi h=>.inl h) (λ_ _ _ h=>h) λe=>⟨MK.2 λk=>(by rw[m7 k] at e;cases e),trivial⟩;refine cl (wR r7 G) ?_;rintro _ h8 ⟨x8,o8,z8,rfl,one8,hz8⟩;obtain⟨h9,u9,o9⟩:=(o7.go (P:=λh=>z8=0->∃(K F Q:Nat) (X:Int) (T:GX),o8=AG K 0/\F6 h K F X Q T/\(K≠f/\K≠g)/\(Q≠f/\Q≠g)/\EJ F T/\LB T<=5000/\(1<=F/\F<=64)/\(0<=X/\X<=30000)) (o7.1.C x8) (x8.O _) (λ_ _ c k z=>by
     obtain⟨K,F,Q,X,T,e,a,n,n',k⟩:=k z;exact⟨K,F,Q,X,T,e,a.O c (λhh=>hh.elim n.1 n.2) (λhh=>hh.elim n'.1 n'.2),n,n',k⟩) λe=>⟨e,λz=>by
     obtain⟨K,F,Q,X,T,n,n',e,a,k⟩:=hz8 z;have:=o7.lt;exact⟨K,F,Q,X,T,e,a,G,G,k⟩⟩).wr (t:=125) rfl (j:=1) (Ac rfl) one8
    refine⟨_,u9,?_⟩;have q9:=o9.1.q 1 1 rfl (v:=.bool b7) rfl;cases b7
    all_goals
     refine⟨_,ld rfl q9,?_⟩;obtain⟨h10,u10,lh⟩:=o9.set _;exact⟨_,u10,_,Sq,Z,f,g,PA,pc,ps,_,o4,o8,_,rfl,x1,P,l,lh (C:=z8=0) wl,λh k=>⟨k.1.1.1.1.2 k.1.1.1.2,k.1.2 k.2⟩⟩
  rintro _ h10 ⟨Z,f,g,PA,pc,ps,b10,o4,o8,R,rfl,x1,P,l,o10,hR⟩;refine cl (o10.tr B.todG P l) ?_;rintro w11 _ ⟨e11,b11,o11⟩;refine cl (o11.C B.todG P l) ?_;rintro w12 _ ⟨e12,b12,o12⟩;obtain⟨_,u13,o13⟩:=o12.wr (t:=133) rfl (j:=2) (Ac rfl) e11;refine⟨_,u13,?_⟩;obtain⟨_,u14,o14⟩:=o13.wr (t:=134) rfl (j:=4) (Ac rfl) e12;refine⟨_,u14,?_⟩;refine cl (o14.tr B.todG P l) ?_;rintro w15 _ ⟨e15,b15,o15⟩;refine cl (o15.C B.todG P l) ?_;rintro w16 _ ⟨e16,b16,o16⟩;obtain⟨_,u17,o17⟩:=o16.wr (t:=133) rfl (j:=3) (Ac rfl) e15;refine⟨_,u17,?_⟩;obtain⟨_,u18,o18⟩:=o17.wr (t:=134) rfl (j:=5) (Ac rfl) e16;refine⟨_,u18,?_⟩;refine cl (o18.C B.todG P l) ?_;rintro w19 _ ⟨e19,b19,o19⟩;refine cl (o19.C B.todG P l) ?_;rintro w20 _ ⟨e20,b20,o20⟩;refine cl (o20.C B.todG P l) ?_;rintro w21 _ ⟨e21,b21,o21⟩;obtain⟨_,u22,o22⟩:=o21.wr (t:=134) rfl (j:=6) (Ac rfl) e19;refine⟨_,u22,?_⟩;obtain⟨_,u23,o23⟩:=o22.wr (t:=134) rfl (j:=7) (Ac rfl) e20;refine⟨_,u23,?_⟩;obtain⟨_,u24,o24⟩:=o23.wr (t:=134) rfl (j:=8) (Ac rfl) e21;refine⟨_,u24,?_⟩;refine cl (o24.C B.todG P l) ?_;rintro w25 _ ⟨e25,b25,o25⟩;refine cl (o25.C B.todG P l) ?_;rintro w26 _ ⟨e26,b26,o26⟩;obtain⟨_,u27,o27⟩:=o26.wr (t:=134) rfl (j:=9) (Ac rfl) e25;refine⟨_,u27,?_⟩;obtain⟨h28,u28,E⟩:=o27.wr (t:=134) rfl (j:=10) (Ac rfl) e26;refine⟨_,u28,?_⟩;have qL:=E.1.q 1 1 rfl (v:=.bool b26) rfl;cases b26 with
  |true=>exact⟨_,ld rfl qL,I (x1.trans E.1.e)⟩
  |
   false=>
   obtain⟨⟨⟨⟨⟨⟨⟨⟨⟨r9,_,_,q11,t11,rfl,T11⟩,_,_,q12,n12,d12,s12,rfl,T12⟩,_,_,q15,t15,rfl,T15⟩,_,_,q16,n16,d16,s16,rfl,T16⟩,_,_,q19,n19,d19,s19,rfl,T19⟩,_,_,q20,n20,d20,s20,rfl,T20⟩,_,_,q21,n21,d21,s21,rfl,T21⟩,_,_,q25,n25,d25,s25,rfl,T25⟩,_,_,q26,n26,d26,s26,rfl,T26⟩:=E.2.2 rfl;obtain⟨⟨m,O4,_,hp1,hp2,hp3⟩,K,F,Q,X,T,rfl,M8,_,_,mo8,hml,hm64,hdf⟩:=hR _ r9;obtain⟨D,hD⟩:∃D:Dt,D=⟨o4,m,K,F,Q,X,T,q11,t11,q15,t15,⟨q12,n12,d12,s12⟩,⟨q16,n16,d16,s16⟩,⟨q19,n19,d19,s19⟩,⟨q20,n20,d20,s20⟩,⟨q21,n21,d21,s21⟩,⟨q25,n25,d25,s25⟩,⟨q26,n26,d26,s26⟩⟩:=⟨_,rfl⟩;have A:DT h28 g D:=by
    subst hD;exact⟨λi v e=>E.1.q 0 _ rfl e,O4,M8,T11.1,T15.1,T12.1,T16.1,T19.1,T20.1,T21.1,T25.1,T26.1⟩
   have W:EJ D.c D.b/\D.c<=64/\LB D.b<=5000/\LB D.ps<=64/\(0<=D.a/\D.a<=30000):=by
    subst hD;exact⟨mo8,by show F<=64;omega,hml,hp2,hdf⟩
   clear hD;refine⟨_,ld rfl qL,_,wP A d G,?_⟩;rintro _ u ⟨xA,rr,rfl,p⟩;have XA:=x1.trans (E.1.e.trans xA);refine⟨_,_,rfl,Ad (λeA=>?_) (λeA=>?_)⟩
   ·exact I XA
   have p:=p (by cases rr<;>first|rfl|cases eA)
   have A2:=A.C xA;have k0:=A2.c 0 _ rfl;have k1:=A2.c 1 _ rfl;refine⟨[],Kq,_,ld rfl k0,_,ld rfl k1,_,wO (h:=u.ad) A2.ad d G,?_⟩;rintro _ y ⟨xB,rfl,qB0,qB1⟩;have A3:=A2.C xB.M;refine⟨xB.C,_,pB (h:=(u.M y).ad) (a:=0) A3.ad p (show aC (u.M y) _ _ _ from qB0.M) (show aC (u.M y) _ _ _ from qB1.M) G p.1 d G,?_⟩;rintro wC N ⟨xC,es,EC,hel,hes,hmap⟩;have x44:=xB.M.trans xC.M;have A4:=A2.C x44;have X44:=XA.trans x44;have EC':Dq ((u.M y).M N) wC es:=Rd.M EC;refine⟨xC.C,_,pC (h:=((u.M y).M N).ad) (show Ce ((u.M y).M N) from U.C X44) (show G3 ((u.M y).M N) from qq.C X44) (show Gt ((u.M y).M N) _ _ from A4.pos) G (show Dq ((u.M y).M N) _ _ from EC') (by have:=p.1;omega) (λe he=>by have:=(hes e he).1;exact Pq) (.inr ⟨D.e,D.mr,D.a,D.b,rfl,D.c,show F6 ((u.M y).M N) _ _ _ _ _ from A4.a,W.1,W.2.1,G⟩) d G,?_⟩;rintro _ hE ⟨xE,oE,zE,rfl,hzE⟩;have XE:=X44.trans xE.M;refine⟨xE.C,?_⟩;apply Ad<;>intro eE
   ·exact I XE
   obtain⟨⟨hpo,heo⟩,V,bsE,hbE,rE⟩:=hzE (by simpa using eE);have V:=V D.e D.c rfl (show aC ((u.M y).M N) _ _ _ from A4.a.2.1);have R1:Rd (((u.M y).M N).M hE) oE 1 (LB bsE) (Ay bsE):=rE.rd.M;have R2:Rd (((u.M y).M N).M hE) v 1 n (Ay bs):=r.C XE;have cv1:=FB (τ:=Ax) (s:=98) (d:=9) Kq R1;have cv2:=FB (τ:=Ax) (s:=98) (d:=9) Kq R2;have A5:=A4.C xE.M;obtain⟨_,V1,vk1,rfl,_⟩:=R1;obtain⟨_,V2,vk2,rfl,_⟩:=R2;refine⟨_,cv1,_,cv2,_,rfl,Ad (λeF=>?_) (λeF=>?_)⟩
   ·exact I XE
   ·exact⟨XE,_,0,rfl,λ_=>⟨g,D,rfl,A5,p,hpo,V,(by rw[←V];exact W.1),W.2.2.2.2,λi hi=>heo _ (by rw[hmap];exact dP.2 ⟨i,dX.2 G,by rw[Ba]⟩)⟩⟩
def lQ (h:Y) (b:Nat) (D:Dt):Prop:=DT h b D/\D.fits/\LB D.ps<=64/\(∀i:Nat,i<D.p5.n->(D.C i).ok (LB D.ps))/\(0<=D.a/\D.a<=30000)/\EJ (LB D.ps) D.b
def c8 [j:Sy S L] (A:Ce h) (M:G3 h) {s:Lf} (a:Lt L h s) (l:s.C):PE S L 33 19 [.agg ⟨s.cells⟩] h λw J=>AA h J/\∃(o p:Aa) (z:Int),w=.tuple #[o,p,.int .i64 z]/\(z=0->∃(lp:Nat) (V:Cb),p=AG lp 0/\EI J lp V/\V.O/\∃D:Dt,o=AG V.a 0/\lQ J V.a D):=
 GU (fn:=f19) Kq B λd ag=>by
  have hL:=j.a;obtain⟨⟨pv,df,cv,Z,ps,cs,es⟩,m,lv,n,ls,rs⟩:=s;obtain⟨g,W,q⟩:=(aH.nil h).box Ax 30 (.agg ⟨[pv,.int .i64 df,cv,Z,.string m,lv,n]⟩);have o:aQ g h.a 30 [pv,.int .i64 df,cv,Z,.string m,lv,n]:=q.dD 0 B;have N:∀{H:Y} {o p:Aa} {z:Int},AA h H->z≠0->AA h H/\∃(o' O:Aa) (P:Int),C4 #[o,p,.int .i64 z]=.tuple #[o',O,.int .i64 P]/\(P=0->∃(lp:Nat) (V:Cb),O=AG lp 0/\EI H lp V/\V.O/\∃D:Dt,o'=AG V.a 0/\lQ H V.a D):=λx C=>⟨x,_,_,_,B,λh=>Cf h C⟩;have X:BK g h.a 0 [pv,.int .i64 df,cv,Z]:=⟨o.1,by
   obtain⟨_,c,x,Q,E⟩:=o;exact⟨c,_,_,_,_,x,Q,λi u U=>by rw[Ba];exact E i u (by rw[show[pv,.int .i64 df,cv,Z,.string m,lv,n]=[pv,.int .i64 df,cv,Z]++[.string m,lv,n] from B,AB (cG.1 U).1];exact U)⟩⟩
  refine⟨Dc B,_,_,W,_,EQ (k:=4) Kq X B,_,(Xc (A.C q.e) (M.C q.e) (s:=⟨pv,df,cv,Z,ps,cs,es⟩) (a.1.C q.e) l.1 d G).any,?_⟩;rintro _ Q ⟨R,v,z,rfl,C⟩;have y:=q.e.trans R;refine Ad (λF=>N y (by simpa using F)) (λF=>?_);obtain⟨bs,hb,r⟩:=C (by simpa using F);refine⟨_,(xp (A.C y) (M.C y) r G d G).any,?_⟩;rintro _ E ⟨T,v3,z3,rfl,aa⟩;have t:=y.trans T;refine Ad (λK=>N t (by simpa using K)) (λK=>?_);obtain⟨b,D,rfl,ab,f,pO,ah,hm,ad,ae⟩:=aa (by simpa using K);have c:∀(i:Nat) v,[pv,.int .i64 df,cv,Z,.string m,lv,n][i]?=I v->aC E h.a i v:=λi v U=>(o.cell U).C (R.trans T);refine⟨_,ld B (c 4 _ B),_,ld B (c 5 _ B),_,ld B (c 6 _ B),_,Sn (A.C t) ab f pO.2.1 ae l.2.2.2.1 ad hm (Rd.C a.2.1.1 t) l.2.2.2.2.1 l.2.1 (Rd.C a.2.1.2 t) l.2.2.2.2.2 d G,?_⟩;rintro _ h4 ⟨x4,o4,z4,rfl,af⟩;exact⟨t.trans x4,_,_,_,B,λh=>by obtain⟨p,V,a1,a2,a3,a4,_⟩:=af h;subst a4;exact⟨p,V,a1,a2,a3,D,B,ab.C x4,f,pO.2.1,ae,ad,hm⟩⟩
end
section
variable{S:A9} {L:Nat} {sz d:Nat} {c:DC} {h:Y} {f:Au} {fn:BC} {Q Qp:Aa->Y->Prop} [aF S L]
def i9 (S:A9) (L:Nat) (d:Nat) (f:Au) (a:AH) (h:Y) (Q b:Aa->Y->Prop):Prop:=∀n,d<=n->
 (∃v J,Q v J/\∀k kp,B8 Ax S L n (.func f) a h k kp=k v J)\/∃v J,b v J/\∀k kp,B8 Ax S L n (.func f) a h k kp=kp v J
abbrev KE (fn:BC) (Q Qp:Aa->Y->Prop):KG Unit:=KG.mk (λA _ h=>Ex Ax A h (aI fn.results) (λvs=>Q (Ff vs) h)) (λ_ _ _ _=>False) (λA _ h=>Ex Ax A h (aI fn.results) (λvs=>Q (Ff vs) h)) λv _ _ h=>Qp v h
def vS (b:Be) (L:Nat) (fn:BC) (a:AH) (h:Y) (Q d:Aa->Y->Prop):Prop:=
 match fn.body with
 |I c=>(LB a<=fn.ntmps)/\IH Ah Ax b (iA Ag) L fn.ntmps c (KE fn Q d) (PJ a 0) () h
 |Z=>False
def Rn (a:Be) (L sz:Nat) (ds:List Hh) (K:KG Unit) (c:DC) (fr:Fr) (h:Y):Prop:=∀(X:Type) P (Kt:X->Kt),jV P sz (λ_=>ds) K Kt->P λy=>B7 Ax a L Z c (Kt y) fr h
def QA {a:Be} {ds:List Hh} {K:KG Unit} {fr:Fr} {A:As} (H:IH Ah Ax a (iA Ag) L sz c K A () h) (r:Gx A fr) (b:fr.sz=sz) (d:fr.ds=ds):Rn a L sz ds K c fr h:=λ_ _ _ k=>La W0 R3 L sz c K _ A () fr h H r b d k
def Vz [b:aF S L] {a:AH} (i:Ax.fn.get f=I fn) (j:Nf.contains f=Ah) (l:fn.body=I c) (o:LB a<=fn.ntmps)
 (H:∀n,d<=n->Rn (B8 Ax S L n) L fn.ntmps [] (KE fn Q Qp) c ⟨T.laid a 0 .nil,fn.ntmps,[]⟩ h):i9 S L (d+1) f a h Q Qp:=by
 intro n t;obtain⟨m,rfl⟩:∃m,n=m+1:=⟨n-1,G⟩;obtain⟨p,r,s⟩:=b.plain f j;have e:∀k kp,B8 Ax S L (m+1) (.func f) a h k kp=_:=λk kp=>(Kl p r _ _ _ _).trans (QM i s l o h k kp);have:=H m G _ (λg=>(∃v J,Q v J/\∀k kp,g (k,kp)=k v J)\/∃v J,Qp v J/\∀k kp,g (k,kp)=kp v J) _ (rN (S:=S) (kk:=Eh) (kp:=fS) (λv J q=>.inl ⟨v,J,q,λ_ _=>B⟩) λv J q=>.inr ⟨v,J,q,λ_ _=>B⟩);exact this.imp (λ⟨v,J,q,z⟩=>⟨v,J,q,λk kp=>(e k kp).trans (z k kp)⟩) λ⟨v,J,q,z⟩=>⟨v,J,q,λk kp=>(e k kp).trans (z k kp)⟩
def Ama {e:AH} (i:Ax.fn.get f=I fn) (j:Nf.contains f=Ah)
 (H:∀n,d<=n->vS (B8 Ax S L n) L fn e h Q Qp):i9 S L (d+1) f e h Q Qp:=by
 have a:=H d (Ae _);unfold vS at H a;cases b:fn.body with
 |none=>rw[b] at a;cases a
 |some c=>
  simp only[b] at H a;exact Vz i j b a.1 λn k=>QA (H n k).2 (TB a.1) B B
def Xq {a:Be} {ds:List Hh} {c1:DC} {AU lo rest:List C0} {i:Option Tmp} {f:BU} {ax:Array BU} {j:Array Ai} {ty:Ai} {l:String} {m:Array Edge} {kn:Kt->Fr->Y->RR} (o:lo=⟨i,.call ⟨.value f,ax,j⟩,ty,l,m,Z⟩::rest)
 (q:∀K fr h,B7 Ax a L Z c K fr h=B7 Ax a L Z c1 {n:=λfr h=>EX Ax a Z AU K.p (kn K) lo fr h,x:=K.x,r:=K.r,p:=K.p} fr h)
 {K:KG Unit} {A:As} {fr:Fr} (H:IH Ah Ax a (iA Ag) L sz c1 {n:=λA _ h=>∃g d cap vs v J,Dn Ax A f=I (.func (.func g) d cap)/\RY Ax A (aI ax)=I vs/\(∀k kp,a (.func g) (aI d++vs++aI cap) h k kp=kp v J)/\K.p v A () J,x:=K.x,r:=K.r,p:=K.p} A () h)
 (r:Gx A fr) (s:fr.sz=sz) (t:fr.ds=ds):Rn a L sz ds K c fr h:=λX P Kt b=>by
 subst o;rw[funext λy=>q (Kt y) fr h];refine QA H r s t _ _ _ ⟨λu J _ w z C e ⟨g,d,cap,vs,v,D,E,F,M,N⟩=>?_,b.x,b.r,b.p⟩;simp only[EX,IB,F9,Ju,FX e F,Bg e E,Vn,M];exact b.p v u D () w z C e N
def VC [aa:aF S L] {args:AH} (hf:Ax.fn.get f=I fn) (hp:Nf.contains f=Ah) {N s:DC} {O:Nat} {t:Tmp} {b:Au} {u:Array BU} {z C:Ai} {D E:String} {F H:Array Edge} {M:Array Ai}
 (hc:fn.body=I (.seq N (.seq (.region O #[⟨I t,.makeFunc (.func b) #[] u,z,D,F,Z⟩,⟨Z,.defer ⟨.value (.tmp t),#[],M⟩,C,E,H,Z⟩] Ah) s))) (ht:AD t fn.ntmps=Ag)
 (ab:S.b b=I (λ_ h=>I h)) {g:AH->Aa->Y->Option Y} (ad:S.c b=I g) (P:As->AH->Y->Prop) (X:LB args<=fn.ntmps)
 (ae:∀n,d<=n->J2 Ax (B8 Ax S L n) L fn.ntmps N (kp (λA h=>∃w a,Sub w A/\P w a h) (λ_ _ _=>False) λ_ _=>False) (PJ args 0) h)
 (af:∀A a h,P A a h->RY Ax A (aI u)=I a)
 (ag:∀n,d<=n->∀A a h,P A a h->∀(fr:Fr) ds,Gx ((t,.func (.func b) #[] ⟨a⟩)::A) fr->fr.sz=fn.ntmps->fr.ds=ds->Rn (B8 Ax S L n) L fn.ntmps ds (KG.mk (λA _ h=>Ex Ax A h (aI fn.results) (λvs=>Q (Ff vs) h)) (λ_ _ _ _=>False) (λA _ h=>Ex Ax A h (aI fn.results) (λvs=>Q (Ff vs) h))
  λv A _ J=>∃R,g a v J=I R/\Ex Ax A R (aI fn.results) (λvs=>Q (Ff vs) R)) s fr h):Bk S L (d+1) f args h Q:=by
 intro n hn;obtain⟨m,rfl⟩:∃m,n=m+1:=⟨n-1,G⟩;obtain⟨p1,p2,p3⟩:=aa.plain f hp;refine P1.C p1 p2 ?_;simp only[QM hf p3 hc X];refine La W0 R3 L fn.ntmps N _ (λy:(Aa->Y->RR)×(Aa->Y->RR)=>{n:=λfr h=>B7 Ax (B8 Ax S L m) L Z (.seq _ s) (Qt Ax S fn y.1 y.2) fr h,x:=(Qt Ax S fn y.1 y.2).x,r:=(Qt Ax S fn y.1 y.2).r,p:=(Qt Ax S fn y.1 y.2).p}) _ () _ h (ae m G) (TB X) B B ⟨λfr1 o _ A' z1 z2 r' ⟨w,a,ah,j⟩=>?_,λ_ _ _ _ _ _ _ _ c=>c.elim,λ_ _ _ _ _ _ _ c=>c.elim,λ_ _ _ _ _ _ _ _ c=>c.elim⟩;obtain⟨l,sz,ds⟩:=fr1;simp only at z1 z2;subst z1 z2;have r0:Gx w ⟨l,fn.ntmps,[]⟩:=λt v q=>r' t v (ah t v q);have r2:Gx ((t,.func (.func b) #[] ⟨a⟩)::w) ⟨l.ins t (.func (.func b) #[] ⟨a⟩),fn.ntmps,[{target:=.fn (.func b) ⟨a⟩,args:=⟨[]⟩}]⟩:=λi v q=>by
  rw[GC] at q;rw[T.M];by_cases U:t=i
  .rw[Bi U] at q;rw[Bi U.symm];exact q
  .rw[Bm U] at q;rw[Bm λe=>U e.symm];exact r0 i v q
 have e:∀K,B7 Ax (B8 Ax S L m) L Z (.seq (.region O #[⟨I t,.makeFunc (.func b) #[] u,z,D,F,Z⟩,⟨Z,.defer ⟨.value (.tmp t),#[],M⟩,C,E,H,Z⟩] Ah) s) K ⟨l,fn.ntmps,[]⟩ o=B7 Ax (B8 Ax S L m) L Z s K ⟨l.ins t (.func (.func b) #[] ⟨a⟩),fn.ntmps,[{target:=.fn (.func b) ⟨a⟩,args:=⟨[]⟩}]⟩ o:=λK=>by
  show EX Ax (B8 Ax S L m) Z [⟨I t,.makeFunc (.func b) #[] u,z,D,F,Z⟩,⟨Z,.defer ⟨.value (.tmp t),#[],M⟩,C,E,H,Z⟩] _ _ [⟨I t,.makeFunc (.func b) #[] u,z,D,F,Z⟩,⟨Z,.defer ⟨.value (.tmp t),#[],M⟩,C,E,H,Z⟩] _ o=_;have e3:O8 Ax ⟨l,fn.ntmps,[]⟩ (#[]:Array BU).toList=I []:=B;have e5:O8 Ax ⟨l.ins t (.func (.func b) #[] ⟨a⟩),fn.ntmps,[]⟩ (#[]:Array BU).toList=I []:=B;have e6:Ch Ax ⟨l,fn.ntmps,[]⟩ o (.makeFunc (.func b) #[] u)=I (.func (.func b) #[] ⟨a⟩,o):=by simp[Ch,iH,FX r0 (af _ _ _ j),e3]
  simp[EX,E5,IB,F9,e6,Fr.set,ht,D1,Xv,e5,(by show(l.ins t _).get t=_;rw[T.M,Bi B]:ev Ax ⟨l.ins t (.func (.func b) #[] ⟨a⟩),fn.ntmps,[]⟩ (.tmp t)=I (.func (.func b) #[] ⟨a⟩))]
 show P1 Q λy=>B7 Ax (B8 Ax S L m) L Z (.seq (.region O _ Ah) s) (Qt Ax S fn y.1 y.2) _ o;rw[funext λy:(Aa->Y->RR)×(Aa->Y->RR)=>e (Qt Ax S fn y.1 y.2)];have Da:∀(fr:Fr) (h:Y) (_:Unit) (A:As),fr.sz=fn.ntmps->fr.ds=[{target:=.fn (.func b) ⟨a⟩,args:=⟨[]⟩}]->Gx A fr->Ex Ax A h (aI fn.results) (λvs=>Q (Ff vs) h)->P1 Q λy=>Iw Ax S.b (aI fn.results) fr y.1 fr.ds h:=λfr h _ A _ d r c=>by
  obtain⟨vs,V,W⟩:=Hf r _ c;exact⟨Ff vs,h,W,λk _=>by rw[d];simp[Iw,ab,V]⟩
 refine ag m G w a o j _ _ r2 B B _ _ _ ⟨Da,λ_ _ _ _ _ _ _ _ c=>c.elim,Da,λv fr h _ A _ hd r ⟨V,W,c'⟩=>?_⟩;let⟨vs,h5,h6⟩:=Hf r _ c';refine⟨Ff vs,V,h6,λk kp=>?_⟩;show TC Ax S.c (aI fn.results) k kp v fr h=_;unfold TC;rw[hd];simp[ad,W,h5]
end
section
variable {h J h0 h1 H:Y} {v fv nv pv cv ev lv u v':Aa} {xs args vs ys:AH} {n b N i k e r j x m c q d a p t2 st sb mo ck lp rm b0 sz off:Nat} {t:Ai} {f:Au} {fn:BC} {s:Bd} {bs:Bl} {ws:Bo} {W:Nat->Prop} {Q:Aa->Y->Prop} {A:Option BD} {z df day:Int} {ss:BZ} {τ:Bb}
variable{S:A9} {L:Nat} {l:GX} {y w:Value} {g:Nat} {first cap:Array Aa} {α:Type} [aF S L]
def Ait (b:k<LB bs) (v:Int) (a:Nat):PV (bs.drop k) v a k=(if(a=63/\1<bs[k].toNat)\/(0<a/\bs[k].toNat=0) then Z else
 if bs[k].toNat<128 then I (JP .u64 v (Es .u64 (D8 .u8 (bs[k].toNat:Int) 127) (a:Int)),k+1) else PV (bs.drop (k+1)) (JP .u64 v (Es .u64 (D8 .u8 (bs[k].toNat:Int) 127) (a:Int))) (a+7) (k+1)):=by
 rw[Di b];rfl
def Alj (a:LB bs<=k) (v:Int) (b:Nat):PV (bs.drop k) v b k=none:=by
 rw[Ef a];rfl
def oF (h0 h:Y) (r:Nat) (v:Aa) (k:Nat):Prop:=aQ h r 417 [v,.int .i64 k]/\B0 (·=r) h0 h
def kz (v:Aa):Prop:=v=.iface 415 (.agg ⟨[]⟩)
def YT (a:Int):0<=D8 .u8 a 127/\D8 .u8 a 127<=127:=by
 obtain⟨x,b⟩:∃x:BitVec 8,BitVec.ofInt 8 a=x:=⟨_,B⟩;unfold D8;have e:BitVec.ofInt IntKind.u8.bits a=x:=b;rw[e];have:∀x:BitVec 8,0<=IntKind.u8.wrap ((x&&&BitVec.ofInt 8 127).toNat)/\IntKind.u8.wrap ((x&&&BitVec.ofInt 8 127).toNat)<=127:=Jq
 exact this x
def tj [s:aF S L] (o:aQ h r 417 [v,Vi (j:Nat)]) (Y:Rd h v 1 n (Ay bs)) (K:¬BY v r) (W:n<=4611686018427387904):
 i9 S L 1 188 [AG r 0] h (λw J=>∃(x:Int) (k:Nat),w=.int .u64 x/\PV (bs.drop j) 0 0 j=I (x,k)/\oF h J r v k) (λw J=>kz w/\PV (bs.drop j) 0 0 j=Z/\B0 (·=r) h J):=
 Ama (fn:=f188) Kq B λd X=>by
  have hL:=s.a;have hl:LB bs=n:=by have:=Y.1;rw[A7] at this;omega
  obtain⟨M,c1,rfl⟩:∃A c,v=.slice A n c:=by obtain⟨_,A,c,e,_⟩:=Y;exact⟨A,c,e⟩
  refine⟨Dc B,λu A g=>∃(k f:Nat) (x:Int),A=[(0,AG r 0),(3,.int .u64 x),(4,Vi f)]/\u=64-f/\(f<=63/\f%7=0)/\k<=j+f/\PV (bs.drop k) x f k=PV (bs.drop j) 0 0 j/\oF h g r (.slice M n c1) k,
   ⟨_,_,Sq,G,j,0,0,B,B,G,G,B,o,(AA.refl h).O _⟩,?_⟩
  rintro u A g ⟨k,f,x,rfl,rfl,hs,hk,e,o,c⟩ aa;have y:=o.cell (i:=0) B;have m:=o.cell (i:=1) B;refine⟨[],Kq,_,ld B m,_,ld B y,Bz (λN=>⟨B,B,by rw[←e,Alj G],c⟩) (λN=>?_)⟩;have C:k<LB bs:=G;rw[Ait C] at e;obtain⟨a,cc,p,_,q⟩:=(Y.O c λi U e=>K (e▸U)).at_ G;cases p;have D:aC g a.block (a.off+k) (.int .u8 (bs[k].toNat:Int)):=q k _ (by unfold Ay;rw[AX,Ab C];rfl);have hb:=jR bs[k];generalize bs[k].toNat=b at e D hb;obtain⟨h1,O,E,F⟩:=o.st (τ:=Ax) (t:=3) B (by show 1<2;decide) (v:=Vi ((k:Int)+1)) B;refine⟨[],Kq,_,ld B y,_,ld B m,G,_,Dz (ld B D) xU,?_⟩;have H:((f=63/\1<b)\/(0<f/\b=0))->(Ah=Ah/\kz (.iface 415 (.agg ⟨[]⟩))/\PV (bs.drop j) 0 0 j=Z/\B0 (·=r) h g):=λP=>⟨B,B,by rw[←e,Bi P],c⟩;refine Bz (λQ=>Bz (λp=>H G) (λp=>?_)) (λQ=>?_)
  all_goals
   refine Bz (λR=>Bz (λT=>H G) (λT=>?_)) (λR=>?_)
   all_goals
    rw[Bm G] at e;refine⟨_,ld B m,Pq,_,O,_,.inl ⟨⟨by have:=YT (b:Int);omega,by have:=YT (b:Int);omega⟩,B⟩,G,Bz (λV=>?_) (λV=>?_)⟩
    .rw[Bi G] at e
     exact⟨_,k+1,B,e.symm,E,c.trans F.O⟩
    .rw[Bm G] at e
     exact⟨Pq,_,_,CG (l:=[(0,_),(3,.int .u64 _),(4,Vi ((f+7:Nat):Int))]) ⟨B,B,Cs (λz=>I (Vi z)) (G),trivial⟩,(show 64-(f+7)<_ by omega),k+1,f+7,_,B,B,G,G,e,E,c.trans F.O⟩
def Uo (n:Nat):DC->DC
 |.region i AU d=>.region i ⟨AU.toList.take n⟩ d
 |c=>c
def Fq (fn:BC):Code:=match fn.body with
 |I c=>c
 |Z=>.skip
def ZL:DC->List C0
 |.region _ AU _=>aI AU
 |_=>[]
def Arh {x:Int} (h:PV (bs.drop j) 0 0 j=I (x,k)):(0<=x/\x<18446744073709551616)/\k<=LB bs:=by
 let⟨h1,b,a⟩:=JF _ _ _ _ _ _ h;rw[AV] at a;refine⟨h1,?_⟩;omega
def zv (o:aQ h r 417 [v,Vi (j:Nat)]) (Y:Rd h v 1 n (Ay bs)) (g:¬BY v r) (D:n<=4611686018427387904):
 i9 S L 2 190 [AG r 0] h (λw J=>∃(x:Int) (k:Nat),w=.string ⟨⟨(bs.drop k).take x.toNat⟩⟩/\PV (bs.drop j) 0 0 j=I (x,k)/\x<=(n:Int)-k/\oF h J r v (k+bH x))
  (λw J=>kz w/\(∀x k,PV (bs.drop j) 0 0 j=I (x,k)->¬x<=(n:Int)-k)/\B0 (·=r) h J):=by
 have V:LB bs=n:=by have:=Y.1;rw[A7] at this;omega
 refine Vz (fn:=f190) Kq B B (Dc B) λd E=>?_;rcases tj (S:=S) (L:=L) o Y g D d E with⟨w,f,⟨x,k,rfl,a,b,c1⟩,e⟩|⟨w,f,⟨F,a,c1⟩,e⟩
 .refine QA ?_ (TB (Dc B)) B B
  obtain⟨H,W⟩:=Arh a;obtain⟨X,c2,rfl⟩:∃A c,v=.slice A n c:=by obtain⟨_,A,c,e,_⟩:=Y;exact⟨A,c,e⟩
  have M:=b.cell (i:=0) B;have N:=b.cell (i:=1) B;refine⟨λw' J=>w'=.int .u64 x/\J=f,⟨_,_,⟨B,B⟩,e⟩,?_⟩;rintro _ f ⟨rfl,rfl⟩;have l:=AT (AA.refl f);have p:=AT Jq;have O:=b.C l;have q:=b.C p;refine⟨[],Kq,_,ld B M,_,ld B N,Pq,_,.inl Pq,Bz (λP=>⟨B,B,λy m u=>?_,c1.trans (l.O _)⟩) (λP=>?_)⟩
  .rw[a] at u;cases u;omega
  obtain⟨v',z,C,_⟩:=Rd.slice Kq (Y.O c1 λi U e=>g (e▸U)) (lo:=I (Vi k)) (U:=I (Vi ((k:Int)+x))) (m:=k+bH x) B (by
   obtain⟨y,rfl⟩:=B9 H.1;rfl) G G
  rw[BJ,BJ,EA,Ez] at C;obtain⟨A',c',rfl⟩:∃A c,v'=.slice A (k+bH x-k) c:=by obtain⟨_,A,c,e,_⟩:=C;exact⟨A,c,e⟩
  have cv:=FB (τ:=Ax) (s:=98) (d:=9) (h:=(nb (nb f)).ad) Kq Jq;rw[Ds] at cv z;obtain⟨h3,Q,R,T⟩:=q.st (τ:=Ax) (t:=3) B (by show 1<2;decide) (v:=Vi ((k:Int)+x)) B;refine⟨[],Kq,_,ld B Jq,_,ld B Jq,_,ld B (O.cell B),_,.inl Pq,Pq,_,_,Cs (CN _) z,_,cv,_,ld B (q.cell B),_,.inl Pq,Pq,_,Q,x,k,B,a,G,?_,(c1.trans (p.O _)).trans T.O⟩;rw[show((k+bH x:Nat):Int)=(k:Int)+x by omega];exact R
 .refine Xq (c1:=.seq (Xa (Fq f190)) (Uo 1 (Xa (GY (Fq f190))))) (AU:=ZL (Xa (GY (Fq f190)))) (lo:=(ZL (Xa (GY (Fq f190)))).drop 1) (kn:=λK fr h=>B7 Ax (B8 Ax S L d) L Z (GY (GY (Fq f190))) K fr h) B (λ_ _ _=>by kernel_rfl) ?_ (TB (Dc B)) B B
  exact⟨_,_,_,_,_,_,B,B,e,F,(λx k h=>by rw[a] at h;cases h),c1⟩
def aT:Ct:={C:=λ_=>False,holds:=λ_=>True,a:=λ_ _ _=>trivial,lt:=λ_ _ h=>h.elim,M:=λ_=>trivial}
def fX (fn:BC):AH->Aa->Y->Option Y:=js Ax fn (GY (Fq fn)) 7
def um {q:AH} {b:Y->Prop} (k:LB q<=fn.ntmps) (o:7<fn.ntmps) (c:J2 Ax nX 1 fn.ntmps (GY (Fq fn)) (kp (λ_ h=>b h) (λ_ _ _=>False) (λ_ _=>False)) ((7,v)::PJ q 0) h):∃J,fX fn q v h=I J/\b J:=by
 have l:GA q fn.ntmps=I ⟨T.laid q 0 .nil,fn.ntmps,[]⟩:=by
  unfold GA;rw[Aq k];rfl
 have r:Gx ((7,v)::PJ q 0) ⟨(T.laid q 0 .nil).ins 7 v,fn.ntmps,[]⟩:=λi u a=>by
  rw[GC] at a;rw[T.M];by_cases U:7=i
  .rw[Bi U] at a;rw[Bi U.symm];exact a
  .rw[Bm U] at a;rw[Bm λe=>U e.symm];exact TB k i u a
 obtain⟨f,J,e,d,j⟩:=La (ro:=Z) (P:=λg=>∃f J,g ()=I [.aE f J]/\f.ds=[]/\b J) W0 R3 1 fn.ntmps (GY (Fq fn)) _ (λ_=>{n:=λfr h=>I [.aE fr h],x:=λ_ _ _=>Z,r:=λ_ _=>Z,p:=λ_ _ _=>Z}) _ () _ h c r B B ⟨λfr h _ _ _ m _ j=>⟨fr,h,B,m,j⟩,λ_ _ _ _ _ _ _ _ c=>c.elim,λ_ _ _ _ _ _ _ c=>c.elim,λ_ _ _ _ _ _ _ _ c=>c.elim⟩;refine⟨J,?_,j⟩;unfold fX js;simp[l,e];rw[d];rfl
def lN {t:TypeId} {z:Value} (p:Gv Ax t=true) (o:one z=true) {l:List Ct} {x:Value} (s:aH h0 H (aO c 4 [w]::aO b 3 [y]::aO a t [x]::l)):∃f e d,BA Ax t H a 0 z=some f/\BA Ax 3 f b 0 (Vi 0)=some e/\BA Ax 4 e c 0 (.bool false)=some d/\aH h0 d (aO c 4 [.bool false]::aO b 3 [Vi 0]::aO a t [z]::l):=by
 obtain⟨f,j,n⟩:=s.st p (i:=2) B (by show 0<1;decide) o;obtain⟨e,h,m⟩:=n.sT 3 1 _ (Vi 0) B (by show 0<1;decide) B;obtain⟨d,g,k⟩:=m.sT 4 0 _ (.bool Ah) B (by show 0<1;decide) B;exact⟨_,_,_,j,h,g,k⟩
def SW {h:Func} {t:TypeId} {z x:Value} (l:(h=f275/\t=194/\z=.int .u64 0)\/(h=f276/\t=9/\z=.string ⟨#[]⟩)) (s:aH h0 H [aO c 4 [w],aO b 3 [y],aO a t [x]]):∃J,fX h [AG a 0,AG b 0,AG c 0] (.iface 415 (.agg ⟨[]⟩)) H=some J/\aH h0 J [aO c 4 [.bool false],aO b 3 [Vi 0],aO a t [z]]:=by
 obtain⟨n,j,m,i,k⟩:=s.var (τ:=Ax) (t:=415) Kq (v:=.agg ⟨[]⟩) B B B;rcases l with⟨rfl,rfl,rfl⟩|⟨rfl,rfl,rfl⟩
 ·obtain⟨_,_,_,f,e,d,g⟩:=lN (z:=.int .u64 0) B B (k.drop 1);exact um (Dc B) Jq ⟨_,B,_,_,B,_,_,j _,_,i,_,f,_,e,_,d,g⟩
 ·obtain⟨_,_,_,f,e,d,g⟩:=lN (z:=.string ⟨#[]⟩) B B (k.drop 1);exact um (Dc B) Jq ⟨_,B,_,_,B,_,_,j _,_,i,_,f,_,e,_,d,g⟩
def uD {f fi gf:Nat} {gn:Func} {z:Value}
 (hF:(f=187/\fn=f187/\gf=275/\gn=f275/\t=194/\z=.int .u64 0)\/(f=189/\fn=f189/\gf=276/\gn=f276/\t=9/\z=.string ⟨#[]⟩))
 (U:S.b gf=some (λ_ h=>some h)) (T:S.c gf=some (fX gn)) (rd:Rd h v 1 n xs) {i:Int} {R:Value->Int->Prop} {N:Prop}
 (C:∀(j:Nat) {H:Y} {r:Nat},i=j->AA h H->aQ H r 417 [v,Vi j]->¬BY v r->i9 S L 2 fi [AG r 0] H (λw J=>∃k:Int,one w=true/\R w k/\aQ J r 417 [v,Vi k]/\B0 (·=r) H J) (λw J=>kz w/\N/\B0 (·=r) H J)):
 iB S L 4 f [v,Vi i,.func (.func fi) #[] #[]] h λw J=>((0<=i/\∃(u:Value) (k:Int),R u k/\w=.tuple #[u,Vi k,.bool true])\/((i<0\/N)/\w=.tuple #[z,Vi 0,.bool false])):=by
 have hb:∀{H:Y},AA h H->¬BY v H.a:=λx hh=>by have:=rd.aw _ hh;have:=x.a;omega
 obtain⟨E,m,hv⟩:∃A c,v=.slice A n c:=by obtain⟨_,A,c,e,_⟩:=rd;exact⟨A,c,e⟩
 subst hv;have box:∀{H:Y} {l:List Ct} {j:Nat},aH h H l->∃g,K7 Ax 417 (.agg #[.slice E n m,Vi j]) H=some (AG H.a 0,g)/\aH h g (aO H.a 417 [.slice E n m,Vi j]::l):=λ{H l j} s=>s.box Ax 417 (.agg #[.slice E n m,Vi j]);have D:Gv Ax t=true/\CP Ax t=some z/\one z=true/\XF Ax t=true:=by rcases hF with⟨_,_,_,_,rfl,rfl⟩|⟨_,_,_,_,rfl,rfl⟩<;>exact⟨rfl,Kq,rfl,rfl⟩
 have rc:=λ{H:Y} {a b c:Nat} {x y w:Value}=>SW (h0:=h) (H:=H) (a:=a) (b:=b) (c:=c) (x:=x) (y:=y) (w:=w) (hF.imp (λh=>h.2.2.2) λh=>h.2.2.2);have st:=λ{H:Y} {l:List Ct} {a b c:Nat} {x y w:Value}=>lN (h0:=h) (H:=H) (a:=a) (b:=b) (c:=c) (l:=l) (x:=x) (y:=y) (w:=w) D.1 D.2.2.1;have o:∀{H':Y} {a b c:Nat} {x y w:Value},aH h H' [aO c 4 [w],aO b 3 [y],aO a t [x]]->Bw Ax t H' a 0=some x/\Bw Ax 3 H' b 0=some y/\Bw Ax 4 H' c 0=some w:=λs=>⟨ld D.2.2.2 (s.q 2 0 rfl rfl),ld rfl (s.q 1 0 rfl rfl),ld rfl (s.q 0 0 rfl rfl)⟩;obtain⟨J,hJ⟩:∃J:As->AH->Y->Prop,J=λA cv H=>∃a b c,A=[(0,.slice E n m),(1,Vi i),(2,.func (.func fi) #[] #[]),(6,AG a 0),(7,AG b 0),(8,AG c 0)]/\cv=[AG a 0,AG b 0,AG c 0]/\aH h H [aO c 4 [.bool false],aO b 3 [Vi 0],aO a t [z]]:=⟨_,rfl⟩;obtain⟨g1,y1,s1⟩:=(aH.nil h).O (z:=z) D.2.1;obtain⟨g2,y2,s2⟩:=s1.O (z:=Vi 0) Kq;obtain⟨g3,y3,W⟩:=s2.O (z:=.bool false) Kq;rcases hF with⟨rfl,rfl,rfl,rfl,rfl,rfl⟩|⟨rfl,rfl,rfl,rfl,rfl,rfl⟩
 all_goals
  first|refine VC (fn:=f187) Kq rfl rfl rfl U T J (Dc rfl) ?_ ?_ ?_|refine VC (fn:=f189) Kq rfl rfl rfl U T J (Dc rfl) ?_ ?_ ?_
  ·intro d hd;exact⟨_,_,y1 _,_,_,y2 _,_,_,y3 _,_,_,Sq (l:=[(0,_),(1,_),(2,_),(6,_),(7,_),(8,_)]),by rw[hJ];exact⟨_,_,_,rfl,rfl,W⟩⟩
  ·rintro A cv H j;rw[hJ] at j;obtain⟨a,b,c,rfl,rfl,s⟩:=j;rfl
  ·rintro d hd A cv H j fr ds r X p;rw[hJ] at j;obtain⟨a,b,c,rfl,rfl,s⟩:=j;rcases Int.lt_or_le i 0 with Z|Z
   ·refine QA ?_ r X p;obtain⟨_,_,_,y1,y2,y3,W⟩:=st s;obtain⟨P,M,I⟩:=o W;exact Bz (λ_=>⟨_,(o s).1,_,y1,_,y2,_,y3,_,P,_,M,_,I,W.e,.inr ⟨.inl Z,rfl⟩⟩) (λe=>absurd Z e)
   obtain⟨j,rfl⟩:=B9 Z;obtain⟨g,yg,V⟩:=box (j:=j) s;rcases C j rfl V.e (V.dD 0 rfl) (hb s.e) d G with⟨w,h5,⟨k,ow,hR,o5,c5⟩,e⟩|⟨w,h5,⟨rfl,hN,c5⟩,e⟩
   ·refine QA ?_ r X p;have s5:=V.ah 0 (a':=aO H.a 417 [.slice E n m,Vi k]) rfl c5 o5 λx Q=>.inl Q;obtain⟨h6,y6,B⟩:=s5.st (τ:=Ax) D.1 (i:=3) rfl (j:=0) (Ac rfl) (v:=w) ow;have lw:aC h6 a 0 w:=B.q 3 0 rfl rfl;have F:=(B.dD 0 (xs:=[.slice E n m,Vi k]) rfl).cell (i:=1) rfl;obtain⟨h7,y7,o7,u7⟩:=aQ.st (h:=h6.ad) (τ:=Ax) D.1 (show aQ h6.ad a _ [w] from B.dD 3 rfl) (i:=0) (by show 0<1;decide) (v:=w) ow;have hx7:h7.lo.hasB H.a=false:=u7.O.hasB (b0:=a) (λ_ h=>h) F.1 (λe=>B.2.2 0 3 _ _ xc rfl rfl H.a rfl (by show H.a=a;exact e):H.a≠a);have s7:=B.aZ 3 (a':=aO a _ [w]) rfl u7.O o7 λx Q=>.inl Q;obtain⟨h8,y8,s8⟩:=s7.stM (τ:=Ax) (t:=3) rfl (i:=2) rfl (j:=0) (by show 0<1;decide) (v:=Vi k) rfl;obtain⟨h9,y9,s9⟩:=s8.stM (τ:=Ax) (t:=4) rfl (i:=1) rfl (j:=0) (by show 0<1;decide) (v:=.bool true) rfl;refine⟨_,_,yg,λw' J=>w'=w/\J=h5,⟨_,_,⟨rfl,rfl⟩,e⟩,?_⟩;rintro _ h5 ⟨rfl,rfl⟩;obtain⟨P,M,I⟩:=o (s9.drop 1);exact⟨_,y6,[.x 5 4],Kq,_,ld rfl lw,_,ld rfl F,_,y7,hx7,_,y8,_,y9,_,P,_,M,_,I,s9.e,.inl ⟨G,_,_,hR,rfl⟩⟩
   ·have s5:=(V.ah 0 (a':=aT) rfl c5 trivial λx Q=>Q.elim).drop 1;obtain⟨h6,y6,B⟩:=rc s5;obtain⟨P,M,I⟩:=o B
    first|refine Xq (c1:=.seq (Xa (GY (GY (Fq f187)))) (.seq (Xa (GY (GY (GY (Fq f187))))) (Uo 2 (Xa (GY (GY (GY (GY (Fq f187))))))))) (AU:=ZL (Xa (GY (GY (GY (GY (Fq f187))))))) (lo:=(ZL (Xa (GY (GY (GY (GY (Fq f187))))))).drop 2) (kn:=λK fr h=>B7 Ax (B8 Ax S L d) L none (GY (GY (GY (GY (GY (Fq f187)))))) K fr h) rfl (λ_ _ _=>by kernel_rfl) ?_ r X p|refine Xq (c1:=.seq (Xa (GY (GY (Fq f189)))) (.seq (Xa (GY (GY (GY (Fq f189))))) (Uo 2 (Xa (GY (GY (GY (GY (Fq f189))))))))) (AU:=ZL (Xa (GY (GY (GY (GY (Fq f189))))))) (lo:=(ZL (Xa (GY (GY (GY (GY (Fq f189))))))).drop 2) (kn:=λK fr h=>B7 Ax (B8 Ax S L d) L none (GY (GY (GY (GY (GY (Fq f189)))))) K fr h) rfl (λ_ _ _=>by kernel_rfl) ?_ r X p
    exact⟨_,_,yg,_,_,_,_,_,_,rfl,rfl,e,_,y6,_,P,_,M,_,I,B.e,.inr ⟨.inr hN,rfl⟩⟩
structure nT (S:A9):Prop where
 d7:S.b 275=I (λ_ h=>I h)
 d8:S.b 276=I (λ_ h=>I h)
 r7:S.c 275=I (fX f275)
 r8:S.c 276=I (fX f276)
def Zg (p:S.a f=Z/\S.M f=Z/\S.hk f=Z) (a:Ax.fn.get f=I fn)
 (H:∀n,d<=n->YR Ax (B8 Ax S L n) L fn args h Q):Bk S L (d+1) f args h Q:=by
 intro n b;obtain⟨m,rfl⟩:∃m,n=m+1:=⟨n-1,G⟩;exact tU a p.2.2 p.1 p.2.1 (H m G)
def Xf (bs:Bl) (i:Int):Option (Int×Nat):=if 0<=i then PV (bs.drop i.toNat) 0 0 i.toNat else Z
def QE (bs:Bl) (i:Int):Value:=match Xf bs i with
 |I (w,j)=>.tuple #[.int .u64 w,.int .i64 j,.bool Ag]
 |Z=>.tuple #[.int .u64 0,.int .i64 0,.bool Ah]
def Sr (bs:Bl) (i:Int):Value:=match Xf bs i with
 |I (w,j)=>if w<=(LB bs)-j then .tuple #[.string ⟨⟨(bs.drop j).take w.toNat⟩⟩,.int .i64 (j+w),.bool Ag] else .tuple #[.string ⟨#[]⟩,.int .i64 0,.bool Ah]
 |Z=>.tuple #[.string ⟨#[]⟩,.int .i64 0,.bool Ah]
def zC (R:nT S) (p:S.a 101=Z/\S.M 101=Z/\S.hk 101=Z) (r:Rd h v 1 n (Ay bs)) (g:n<=4611686018427387904) {i:Int}:
 iB S L 5 101 [v,Vi i] h λw J=>w=QE bs i:=
 Zg (fn:=f101) p Kq λd t=>by
  refine⟨Dc B,_,uD (.inl ⟨B,B,B,B,B,B⟩) R.d7 R.r7 r (R:=λw k=>∃(x:Int) (j:Nat),w=.int .u64 x/\k=j/\PV (bs.drop i.toNat) 0 0 i.toNat=I (x,j)) (N:=PV (bs.drop i.toNat) 0 0 i.toNat=Z) ?_ d G,?_⟩
  .intro j H z l x o hb m A
   subst l;rcases tj (S:=S) (L:=L) o (r.C x) hb g m G with⟨w,J,⟨y,k,rfl,a,q,c1⟩,e⟩|⟨w,J,⟨c,a,c1⟩,e⟩
   .exact .inl ⟨_,_,⟨k,B,⟨y,k,B,B,a⟩,q,c1⟩,e⟩
   .exact .inr Jq
  rintro w b ⟨f,c⟩;rcases c with⟨h0,u,k,⟨x,j,rfl,rfl,a⟩,rfl⟩|⟨s,rfl⟩
  .exact⟨f,by unfold QE Xf;rw[Bi h0,a];rfl⟩
  .refine⟨f,?_⟩
   unfold QE Xf;by_cases h0:0<=i
   .rw[Bi h0,s.resolve_left G];rfl
   .rw[Bm h0];rfl
def ZJ (R:nT S) (p:S.a 102=Z/\S.M 102=Z/\S.hk 102=Z) (r:Rd h v 1 n (Ay bs)) (q:n<=4611686018427387904) {i:Int}:
 iB S L 5 102 [v,Vi i] h λw J=>w=Sr bs i:=
 Zg (fn:=f102) p Kq λd A=>by
  have f:LB bs=n:=by have:=r.1;rw[A7] at this;omega
  refine⟨Dc B,_,uD (.inr ⟨B,B,B,B,B,B⟩) R.d8 R.r8 r (R:=λw k=>∃(x:Int) (j:Nat),w=.string ⟨⟨(bs.drop j).take x.toNat⟩⟩/\k=j+x/\PV (bs.drop i.toNat) 0 0 i.toNat=I (x,j)/\x<=n-j)
   (N:=∀x k,PV (bs.drop i.toNat) 0 0 i.toNat=I (x,k)->¬x<=n-k) ?_ d G,?_⟩
  .intro j H C s x o hb m D
   subst s;rcases zv (S:=S) (L:=L) o (r.C x) hb q m G with⟨w,J,⟨y,k,rfl,a,b,t,c1⟩,e⟩|⟨w,J,⟨g,a,c1⟩,e⟩
   .have E:=(JF _ _ _ _ _ _ a).1.1
    exact .inl ⟨_,_,⟨((k+bH y)),B,⟨y,k,B,G,a,b⟩,t,c1⟩,e⟩
   .exact .inr Jq
  rintro w c ⟨l,g⟩;rcases g with⟨h0,u,k,⟨x,j,rfl,rfl,a,b⟩,rfl⟩|⟨z,rfl⟩
  .exact⟨l,by unfold Sr Xf;rw[Bi h0,a];exact(Bi Jq).symm⟩
  .refine⟨l,?_⟩
   unfold Sr Xf;by_cases h0:0<=i
   .rw[Bi h0]
    cases a:PV (bs.drop i.toNat) 0 0 i.toNat with
    |none=>rfl
    |some p=>
     let⟨x,j⟩:=p;exact(Bm Jq).symm
   .rw[Bm h0];rfl
def Air {a:Be} (e:QB a args h=I (v,J)):J=h/\∃(u:Aa) (i:Int) (bs:Bl),args=[u,Vi i]/\IK h u=I bs/\v=QE bs i:=by
 unfold QB at e;split at e
 case h_2=>cases e
 rename_i u i;split at e
 case h_2=>cases e
 rename_i bs hb;refine⟨?_,u,i,bs,B,hb,?_⟩
 .split at e<;>cases e<;>rfl
 .unfold QE Xf
  split at e<;>rename_i b<;>rw[b]<;>cases e<;>rfl
def Agz {b:Be} (e:Ph b args h=I (v,J)):J=h/\∃(u:Aa) (i:Int) (bs:Bl),args=[u,Vi i]/\IK h u=I bs/\v=Sr bs i:=by
 unfold Ph at e;split at e
 case h_2=>cases e
 rename_i u i;split at e
 case h_2=>cases e
 rename_i bs hb;have k:∀{o:Option (Int×Nat)},(match o with
  |I (w,j)=>if w<=(LB bs)-j then I (C4 #[.string ⟨⟨(bs.drop j).take w.toNat⟩⟩,Vi (j+w),.bool Ag],h) else I (.tuple #[.string ⟨#[]⟩,Vi 0,.bool Ah],h)
  |Z=>I (.tuple #[.string ⟨#[]⟩,Vi 0,.bool Ah],h))=I (v,J)->J=h/\v=(match o with
  |I (w,j)=>if w<=(LB bs)-j then .tuple #[.string ⟨⟨(bs.drop j).take w.toNat⟩⟩,Vi (j+w),.bool Ag] else .tuple #[.string ⟨#[]⟩,Vi 0,.bool Ah]
  |Z=>.tuple #[.string ⟨#[]⟩,Vi 0,.bool Ah]):=by
  rintro(_|⟨w,j⟩) e
  .cases e;exact⟨B,B⟩
  .simp only at e⊢
   by_cases a:w<=(LB bs)-j
   .rw[Bi a] at e;rw[Bi a];cases e;exact⟨B,B⟩
   .rw[Bm a] at e;rw[Bm a];cases e;exact⟨B,B⟩
 let⟨c,d⟩:=k e;exact⟨c,u,i,bs,B,hb,d⟩
def Yo (bs:Bl) (i:Int):DG (QE bs i)=true:=by
 unfold QE;split<;>rfl
def Yp (bs:Bl) (i:Int):DG (Sr bs i)=true:=by
 unfold Sr;split
 .split<;>rfl
 .rfl
def uZ (g:C8 prog Ax (B8 Ax S L n)) (c:iB S L d f args h.ad λw J=>w=v) (i:d<=n) (j:DG v=Ag)
 {a:AH} {ρ:Ren} {w:AM} (l:C5 prog Ax ρ h w) (m:LR ρ args a) {k kp:Aa->Y->RR} {b:List EO} (p:k v h=I b):Hk prog (callFunc f ⟨a⟩) w (Ho prog Ax ρ w h k kp b):=by
 obtain⟨w,J,⟨x,rfl⟩,e⟩:=c n i;refine Z8 g (o:=[]) ?_ j l m p;rw[e];exact Bi ⟨B,x.C⟩
def eY {l:Bl} (h:k<=LB l):C7 Ax 9 (.string (EY l)) (I (.int .i64 (k:Int))) Z Z=I (.string (EY (l.drop k))):=by
 show(bif Ar k (EY l).size&&Ar (EY l).size (EY l).size then I (Value.string (EY ((l.drop k).take ((EY l).size-k)))) else Z)=_
 have e:(EY l).size=LB l:=B;rw[e,Aq h,Aq (Ae _),Bj Jq];rfl
def Xm {l:Bl} (e:8<=LB l):iB S L 1 128 [.string (EY l)] h λw J=>∃z,w=.int .u64 z:=
 Cn f128 λd b _=>by
  have c:(EY l).size=LB l:=B;have a:∀i,eK .u64 ((l.getD i 0).toNat):=λi=>⟨G,by have:=(λi=>jR (l.getD i 0)) i;omega⟩;refine⟨[],Kq,⟨Jq,G⟩,_,.inl ⟨a 0,B⟩,⟨Jq,G⟩,_,.inl ⟨a 1,B⟩,Jq,?_⟩
  repeat' first
   |refine⟨⟨Jq,G⟩,_,.inl ⟨a _,rfl⟩,Jq,?_⟩
   |exact⟨(AT (AA.refl h)),_,rfl⟩
def ACv [B:aF S L] (k0:∀call args h,(match S.a 61 with|some g=>g call args h|none=>none)=none) (k1:S.M 61=none/\S.hk 61=none) (U:Ce h) (hs:aL s<=100000000):iB S L 2 61 [.string s] h λw J=>∃b,w=.bool b:=
 yY f61 B.a (λ_=>k0 _ _ _) k1 λd hd'=>by
  have hL:=B.a;refine⟨λm A c=>∃l:Bl,A=[(0,.string (EY l))]/\m=LB l/\LB l<=aL s/\AA h c,
   ⟨_,_,Sq,(show LB s.data.toList<L by have:LB s.data.toList=aL s:=rfl;omega),_,rfl,rfl,Ae _,AA.refl h⟩,?_⟩
  rintro m A c ⟨l,rfl,rfl,hl,x⟩ hLt;have hz:(EY l).size=LB l:=rfl;refine Bz (λu=>?_) (λu=>⟨x,_,rfl⟩);have u:0<LB l:=iX.1 u;have nx:∀{A:As} {H:Y} {q:Bl},LB q<LB l->Sub [(0,.string (EY q))] A->AA h H->∃m' A0,Sub A0 A/\m'<LB l/\∃l:Bl,A0=[(0,.string (EY l))]/\m'=LB l/\LB l<=aL s/\AA h H:=λt z x=>⟨_,_,z,t,_,rfl,rfl,G,x⟩;refine⟨⟨by decide,G⟩,Bz (λe1=>?_) (λe1=>?_)⟩
  ·have d1:(l.drop 1).length=LB l-1:=AV ..;refine⟨_,_,congrArg (CN _) (eY (k:=1) u),?_⟩;generalize l.drop 1=r at d1⊢;refine Bz (λN=>?_) (λN=>nx (q:=r) G (Sq) x);have N:8<LB r:=iX.1 N;refine⟨_,Xm (l:=r) G d G,?_⟩;rintro _ h1 ⟨x1,z1,rfl⟩;have O:=x.trans x1;refine Bz (λ_=>?_) (λ_=>nx (q:=r) G (Sq) O);have q8:(r.drop 8).length=LB r-8:=AV ..;refine⟨_,_,congrArg (CN _) (eY (l:=r) (k:=8) G),[],Kq,?_⟩;generalize r.drop 8=q at q8⊢;refine Bz (λf=>?_) (λf=>nx (q:=q) G (Sq) (AT O));have f:16<LB q:=iX.1 f;have j:=λk=>(AV (i:=k) (l:=q));refine⟨_,Xm G d G,?_⟩;rintro _ h2 ⟨o,z2,rfl⟩;refine⟨o.C,_,_,congrArg (CN _) (eY (k:=8) G),_,Xm (by rw[j];omega) d G,?_⟩;rintro _ h3 ⟨n,z3,rfl⟩;have Z:=(O.trans o.M).trans n.M;refine⟨n.C,Bz (λK=>?_) (λK=>nx (q:=q) G (Sq) (AT Z))⟩;have d16:=j 16;refine⟨_,_,congrArg (CN _) (eY (k:=16) G),λm A c=>∃q:Bl,A=[(0,.string (EY q))]/\m=LB q/\LB q<LB l/\AA h c,
    ⟨_,_,Sq,(G:(q.drop 16).length<L),_,rfl,rfl,G,AT Z⟩,?_⟩
   rintro m A c ⟨q,rfl,rfl,t,x⟩ R;refine⟨[],Kq,Bz (λf=>?_) (λf=>nx t (Sq) (AT x))⟩;have f:32<LB q:=iX.1 f;have j:=λk=>(AV (i:=k) (l:=q));refine⟨_,Xm G d G,?_⟩;rintro _ h2 ⟨o,z2,rfl⟩;refine⟨o.C,_,_,congrArg (CN _) (eY (k:=8) G),_,Xm (by rw[j];omega) d G,?_⟩;rintro _ h3 ⟨n,z3,rfl⟩;refine⟨n.C,_,_,congrArg (CN _) (eY (k:=16) G),_,Xm (l:=q.drop 16) (by rw[j];omega) d G,?_⟩;rintro _ h4 ⟨Q,z4,rfl⟩;refine⟨Q.C,_,_,congrArg (CN _) (eY (l:=q) (k:=24) G),_,Xm (l:=q.drop 24) (by rw[j];omega) d G,?_⟩;rintro _ h5 ⟨P,z5,rfl⟩;have X:=(((x.trans o.M).trans n.M).trans Q.M).trans P.M;have d32:=j 32;exact⟨P.C,Bz (λK=>⟨_,_,congrArg (CN _) (eY (l:=q) (k:=32) G),_,_,Sq,(G:(q.drop 32).length<q.length),_,rfl,rfl,G,AT X⟩) (λK=>nx t (Sq) (AT X))⟩
  have hb:=jR (l.getD 0 0);have W:=(jH (U.C x)).1 (l.getD 0 0).toNat hb;obtain⟨F,E⟩:=Tf hb;generalize hy:Fk (l.getD 0 0).toNat=y at W F E;have q4:=vx F;have V:=(jH (U.C x)).2 (y/16) G;generalize K6 (y/16)=p at V;obtain⟨lo,I⟩:=p;have k7:D8 .u8 (y:Int) 7=((y%8:Nat):Int):=vO F;obtain⟨g,yg,T,v,D⟩:=(aH.nil c).va 232 [.int .u8 0,.int .u8 0] [.int .u8 lo,.int .u8 I];have l0:aC T c.a 0 (.int .u8 lo):=D.q 0 0 rfl rfl;have l1:aC T c.a 1 (.int .u8 I):=D.q 0 1 rfl rfl;have X:=x.trans D.e;refine⟨⟨G,by show((l.getD 0 0).toNat:Int)<256;exact iX.2 hb⟩,_,Dz (ld rfl W) (by show 0+((l.getD 0 0).toNat:Int).toNat*1=_;omega),_,.inl ⟨Pq,rfl⟩,by decide,⟨G,by show DN .u8 (y:Int) 4<16;omega⟩,_,EQ (k:=2) Kq (show BK c 1 (0+(DN .u8 (y:Int) 4).toNat*2) [.int .u8 lo,.int .u8 I] by rw[q4,Ba,UG];exact V) rfl,_,_,yg _,_,v,?_⟩
  repeat' first
   |exact⟨AT X,_,rfl⟩
   |exact⟨X,_,rfl⟩
   |exact⟨_,_,congrArg (CN _) (eY (l:=l) (k:=2) G),nx (q:=l.drop 2) (by rw[AV];omega) (Sq) (AT X)⟩
   |exact⟨_,_,congrArg (CN _) (eY (l:=l) (k:=3) G),nx (q:=l.drop 3) (by rw[AV];omega) (Sq) (AT X)⟩
   |exact⟨_,_,congrArg (CN _) (eY (l:=l) (k:=4) G),nx (q:=l.drop 4) (by rw[AV];omega) (Sq) (AT X)⟩
   |refine⟨[],Kq,?_⟩
   |refine⟨_,ld rfl l0,?_⟩
   |refine⟨_,ld rfl l1,?_⟩
   |refine⟨⟨by decide,G⟩,?_⟩
   |refine Bz (λ_=>?_) (λ_=>?_)
def AAa {ys:Bo} (o:AS H N 3 1 (.slice A n c) n (Bn ys)) (U:i<n) (F:j<n):
 ∃(b x y:Nat) (J a:Y),A=I ⟨b,0,Z⟩/\aC H b i (Vi x)/\aC H b j (Vi y)/\BA Ax 3 H.ad b i (Vi y)=I J/\BA Ax 3 (H.M J).ad b j (Vi x)=I a/\
  B0 (BY (.slice A n c)) H ((H.M J).M a)/\∃l,l.Perm ys/\AS ((H.M J).M a) N 3 1 (.slice A n c) n (Bn l):=by
 have p:n=LB ys:=by have:=o.len;rw[this];simp[Bn]
 have d:ys[i]?=I (ys[i]'G):=Ab G;have f:ys[j]?=I (ys[j]'G):=Ab G;generalize ys[i]'G=x at d;generalize ys[j]'G=y at f;obtain⟨K,⟨e,rfl⟩|⟨b,L,sp,e,q,r,s,g⟩⟩:=o
 .omega
 cases e
 obtain⟨J,u,w,z⟩:=aQ.st (τ:=Ax) (t:=3) B (show aQ H.ad b 3 _ from g) (i:=i) (v:=Vi y) (by rw[Aj];omega) B;obtain⟨a,C,m,D⟩:=aQ.st (τ:=Ax) (t:=3) B (show aQ (H.M J).ad b 3 _ from w.M (h:=H)) (i:=j) (v:=Vi x) (by rw[B4,Aj];omega) B;refine⟨b,x,y,J,a,B,g.cell (by rw[AB G];exact (by unfold Bn;rw[AX,d];rfl)),g.cell (by rw[AB G];exact (by unfold Bn;rw[AX,f];rfl)),u,C,(z.M.O.trans D.M.O).mono λk E=>E,eB ys i j x y,NM d f,?_⟩;rw[Hj,Bi G,Hj,Bi (by rw[B4];omega)] at m;have es:Bn (eB ys i j x y)=((Bn ys).set i (Vi y)).set j (Vi x):=by unfold Bn eB;rw[Cp,Cp]
 refine⟨by rw[es,B4,B4];omega,.inr ⟨b,c,sp,B,q,r,?_,?_⟩⟩
 .rw[es,Aj,B4,B4,←s,Aj]
 .rw[es];exact m.M
def JS (h:Y) (N n c:Nat) (A:Option BD) (xs:Bo) (H:Y):Prop:=B0 (BY (.slice A n c)) h H/\∃ys,ys.Perm xs/\AS H N 3 1 (.slice A n c) n (Bn ys)
def JS.refl {xs:Bo} (o:AS h N 3 1 (.slice A n c) n (Bn xs)):JS h N n c A xs h:=⟨(AA.refl h).O _,xs,.refl _,o⟩
def JS.C {a:Y} {xs:Bo} (s:JS h N n c A xs H) (x:AA H a):JS h N n c A xs a:=⟨s.1.trans (x.O _),s.2.imp λ_ q=>⟨q.1,q.2.C x⟩⟩
def JS.M {xs:Bo} (s:JS h N n c A xs H) (U:i<n) (d:j<n):
 ∃(b x y:Nat) (u a:Y),A=I ⟨b,0,Z⟩/\aC H b i (Vi x)/\aC H b j (Vi y)/\BA Ax 3 H.ad b i (Vi y)=I u/\BA Ax 3 (H.M u).ad b j (Vi x)=I a/\JS h N n c A xs ((H.M u).M a):=by
 let⟨f,ys,p,o⟩:=s;let⟨b,x,y,u,a,e,g,k,l,m,q,r,t,o'⟩:=AAa o U d;exact⟨b,x,y,u,a,e,g,k,l,m,f.trans q,r,t.trans p,o'⟩
def JS.call {xs:Bo} (s:JS h N n c A xs H) {f:Nat} (e:∀ys,AS H N 3 1 (.slice A n c) n (Bn ys)->ys.Perm xs->B0 (BY (.slice A n c)) h H->Bk S L d f args H λ_ J=>JS H N n c A ys J):
 Bk S L d f args H λ_ J=>JS h N n c A xs J:=by
 let⟨a,ys,p,o⟩:=s;exact(e ys o p a).mono λ_ g b=>⟨a.trans b.1,b.2.imp λ_ q=>⟨q.1.trans p,q.2⟩⟩
def JS.get {xs:Bo} (s:JS h N n c A xs H) (U:i<n):∃b x:Nat,A=I ⟨b,0,Z⟩/\aC H b i (Vi x)/\x∈xs:=by
 let⟨_,ys,p,o⟩:=s;have a:n=LB ys:=by have:=o.len;rw[this];simp[Bn]
 obtain⟨b,d,e,_,q⟩:=o.cell (i:=i) (by unfold Bn;rw[AX,Ab G];rfl);cases e;exact⟨b,_,B,q,p.subset (Bu _)⟩
def mQ [f:aF S L] {g m p:Int} {xs:Bo} (o:AS h N 3 1 (.slice A n c) n (Bn xs)) (D:n<=1000000) (E:a+k<=n) (hb:b+k<=n) (K:g=a) (M:m=b) (O:p=k):
 Bk S L 1 380 [.slice A n c,Vi g,Vi m,Vi p,fv] h λ_ J=>JS h N n c A xs J:=
 Fm (fn:=f380) Kq B λd P=>by
  have Q:=f.a;refine⟨Dc B,λq F H=>∃i:Nat,F=[(0,.slice A n c),(1,Vi a),(2,Vi b),(3,Vi k),(10,Vi i)]/\i<=k/\q=k-i/\JS h N n c A xs H,
   ⟨_,_,Sq,G,0,B,Al _,B,.refl o⟩,?_⟩
  rintro q F H ⟨i,rfl,U,rfl,s⟩ R;refine Bz (λr=>?_) (λr=>s);obtain⟨b0,x,y,V,T,e,t,u,v,w,C⟩:=s.M (i:=a+i) (j:=b+i) G G;cases e;refine⟨[],Kq,Pq,Pq,Pq,G,_,Dz (ld B u) (by show 0+((b:Int)+i).toNat*1=_;omega),Pq,G,_,Dz (ld B t) (by show 0+((a:Int)+i).toNat*1=_;omega),G,_,Jp v (by show 0+((a:Int)+i).toNat*1=_;omega),G,_,Jp w (by show 0+((b:Int)+i).toNat*1=_;omega),Pq,_,_,CG (l:=[(0,_),(1,_),(2,_),(3,_),(10,Vi ((i+1)))]) ⟨B,B,B,B,Cs (λz=>I (Vi z)) G,trivial⟩,(show k-(i+1)<k-i by omega),i+1,B,G,B,C⟩
def AEd [e:aF S L] {l p q:Int} {xs:Bo} (o:AS h N 3 1 (.slice A n c) n (Bn xs)) (k:n<=1000000) (h1:a<m) (v:m<b) (w:b<=n) (x:l=a) (em:p=m) (y:q=b):
 Bk S L 2 342 [.slice A n c,Vi l,Vi p,Vi q,fv] h λ_ J=>JS h N n c A xs J:=
 Fm (fn:=f342) Kq B λd z=>by
  have C:=e.a;refine⟨Dc B,Pq,Pq,λr F H=>∃i j:Nat,F=[(0,.slice A n c),(2,Vi m),(4,fv),(10,Vi i),(11,Vi j)]/\(0<i/\i<=m)/\(0<j/\m+j<=n)/\r=i+j/\JS h N n c A xs H,
   ⟨_,_,Sq,(G:(m-a)+(b-m)<L),_,_,B,G,G,B,.refl o⟩,?_⟩
  rintro r F H ⟨i,j,rfl,U,D,rfl,s⟩ E;refine Ad (λf=>?_) (λf=>?_)
  .have f:¬i=j:=Jq
   refine Bz (λu=>?_) (λu=>?_)
   .refine⟨Pq,_,s.call (λys o' _ _=>mQ (a:=m-i) o' k G G G B B) d G,?_⟩
    rintro _ t g;exact⟨Pq,_,_,Sq,(G:(i-j)+j<i+j),_,_,B,G,G,B,g⟩
   .refine⟨Pq,Pq,Pq,_,s.call (λys o' _ _=>mQ (a:=m-i) (b:=m+j-i) o' k G G G G B) d G,?_⟩
    rintro _ t g;exact⟨Pq,_,_,Sq,(G:i+(j-i)<i+j),_,_,B,G,G,B,g⟩
  .have f:i=j:=Jq
   refine⟨Pq,_,s.call (λys o' _ _=>mQ (a:=m-i) o' k G G G B B) d G,λ_ t g=>?_⟩;exact g
def U0 (S:A9) (L d g:Nat) (first cap:Array Aa) (h:Y) (W:Nat->Prop) (xs:Bo):Prop:=∀x∈xs,∀y∈xs,∀J,B0 W h J->iB S L d g (aI first++[.int .i64 x,.int .i64 y]++aI cap) J λv a=>U6 v
def U0.on {xs ys:Bo} (q:U0 S L d g first cap h W xs) (p:ys.Perm xs) (c:B0 W h H):U0 S L d g first cap H W ys:=λx a y b J e=>q x (p.subset a) y (p.subset b) J (c.trans e)
def tz [t:aF S L] {u v:Int} {xs:Bo} (o:AS h N 3 1 (.slice A n c) n (Bn xs)) (hn:n<=1000000) (ha:a<=n) (hb:b<=n) (M:U0 S L e g first cap h (BY (.slice A n c)) xs) (ea:u=a) (eb:v=b):
 Bk S L (e+1) 267 [.slice A n c,Vi u,Vi v,.func (.func g) first cap] h λ_ J=>JS h N n c A xs J:=
 Fm (fn:=f267) Kq B λd aa=>by
  have hL:=t.a;refine⟨Dc B,Pq,λk F H=>∃i:Nat,F=[(0,.slice A n c),(1,Vi a),(2,Vi b),(3,.func (.func g) first cap),(8,Vi i)]/\a<i/\k=b-i/\JS h N n c A xs H,
   ⟨_,_,Sq,G,_,B,HL a,B,.refl o⟩,?_⟩
  rintro k F H ⟨i,rfl,U,rfl,s⟩ ab;refine Bz (λO=>?_) (λO=>s);refine⟨λk F H=>∃j:Nat,F=[(0,.slice A n c),(1,Vi a),(2,Vi b),(3,.func (.func g) first cap),(8,Vi i),(9,Vi j)]/\(a<=j/\j<=i)/\k=j+1/\JS h N n c A xs H,
   ⟨_,_,Sq,G,_,B,⟨G,Ae _⟩,B,s⟩,?_⟩
  rintro k F H ⟨j,rfl,hj,rfl,s⟩ ad;have w:∀{f:As} {C:Y},JS h N n c A xs C->look f 0=I (.slice A n c)->look f 1=I (Vi a)->look f 2=I (Vi b)->look f 3=I (.func (.func g) first cap)->look f 8=I (Vi ((i:Int)+1))->
   ∃m' D,Sub D f/\m'<b-i/\∃i:Nat,D=[(0,.slice A n c),(1,Vi a),(2,Vi b),(3,.func (.func g) first cap),(8,Vi i)]/\a<i/\m'=b-i/\JS h N n c A xs C:=λm P Q R T k8=>
   ⟨_,_,CG (l:=[(0,_),(1,_),(2,_),(3,_),(8,Vi ((i+1:Nat):Int))]) ⟨P,Q,R,T,k8,trivial⟩,G,i+1,B,G,B,m⟩
  refine⟨[],Kq,Bz (λV=>?_) (λV=>⟨Pq,w (s.C (AT (AA.refl H))) B B B B B⟩)⟩;obtain⟨b0,x,p,q,W⟩:=s.get (i:=j) G;cases p;obtain⟨_,y,X,r,hy⟩:=s.get (i:=j-1) G;cases X;refine⟨G,_,Dz (ld B q) (by show 0+(j:Int).toNat*1=_;omega),Pq,G,_,Dz (ld B r) (by show 0+((j:Int)-1).toNat*1=_;omega),_,M x W y hy _ (s.1.trans ((AA.ad H).O _)) d G,?_⟩;rintro _ h3 ⟨E,z,rfl⟩;have K:=s.C E.M;refine⟨E.C,Bz (λe3=>?_) (λe3=>⟨Pq,w K B B B B B⟩)⟩;obtain⟨_,x',y',h1,h2,p,q,r,u1,Z,m⟩:=K.M (i:=j) (j:=j-1) G G;cases p;refine⟨[],Kq,Pq,Pq,G,_,Dz (ld B r) (by show 0+((j:Int)-1).toNat*1=_;omega),G,_,Dz (ld B q) (by show 0+(j:Int).toNat*1=_;omega),G,_,Jp u1 (by show 0+(j:Int).toNat*1=_;omega),G,_,Jp Z (by show 0+((j:Int)-1).toNat*1=_;omega),Pq,_,_,Sq,G,j-1,B,G,B,m⟩
def AAg (z:Int):DN .u64 z 1=z/2:=Int.fdiv_eq_ediv_of_nonneg z Jq
def kL (i j:Nat):DN .u64 ((i:Int)+j) 1=(((i+j)/2:Nat):Int):=by rw[AAg];omega
def AEr (h:Y) (N n c a m b g:Nat) (A:Option BD) (first cap:Array Aa) (xs:Bo) (F:As) (H:Y):Prop:=∃d st r:Nat,F=[(0,.slice A n c),(1,.int .i64 a),(2,.int .i64 m),(3,.int .i64 b),(4,.func (.func g) first cap),(18,.int .i64 d),(19,.int .i64 ((d+m))),(20,.int .i64 st),(21,.int .i64 r)]/\d=(a+b)/2/\
 a<=st/\st<=r/\r<=m/\r<=d/\d+m<=b+st/\m<=d+m-r/\JS h N n c A xs H
def tQ [ab:aF S L] {D:Nat} {xs:Bo} (o:AS h N 3 1 (.slice A n c) n (Bn xs)) (hn:n<=1000000) (h1:a<m) (h2:m<b) (h3:b<=n) (Q:U0 S L e g first cap h (BY (.slice A n c)) xs) (he:e<=D) (ad:2<=D)
 (ih:∀{a' m' W:Nat} {za zm zb:Int} {h:Y} {xs:Bo},AS h N 3 1 (.slice A n c) n (Bn xs)->a'<m'->m'<W->W<=n->2*(W-a')<=b-a+1->U0 S L e g first cap h (BY (.slice A n c)) xs->za=a'->zm=m'->zb=W->Bk S L D 268 [.slice A n c,Vi za,Vi zm,Vi zb,.func (.func g) first cap] h λ_ J=>JS h N n c A xs J):
 Bk S L (D+1) 268 [.slice A n c,Vi a,Vi m,Vi b,.func (.func g) first cap] h λ_ J=>JS h N n c A xs J:=
 Nu (fn:=f268) Kq B 6 (AEr h N n c a m b g A first cap xs) λd ae=>by
  have hL:=ab.a;have X:=JS.refl o;refine⟨Dc B,?_,?_⟩
  .refine⟨Pq,Bz (λe1=>?_) (λe1=>?_)⟩
   .have e1:m=a+1:=G
    refine⟨λf F H=>∃i j:Nat,F=[(0,.slice A n c),(1,Vi a),(4,.func (.func g) first cap),(10,Vi i),(11,Vi j)]/\(m<=i/\i<=j/\j<=b)/\f=j-i/\JS h N n c A xs H,
     ⟨_,_,Sq,(G:b-m<L),_,_,B,G,B,X⟩,?_⟩
    rintro f F H ⟨i,j,rfl,U,rfl,s⟩ Z;have q:=kL i j;obtain⟨k,hk⟩:∃k,k=(i+j)/2:=⟨_,B⟩;refine Bz (λC=>?_) (λC=>?_)
    .obtain⟨b0,x,u,v,R⟩:=s.get (i:=k) G
     cases u;obtain⟨_,y,T,w,V⟩:=s.get (i:=a) G;cases T;refine⟨Pq,_,.inl ⟨Pq,B⟩,by decide,_,.inl ⟨Pq,B⟩,[],Kq,G,_,Dz (ld B v) (by show 0+(DN .u64 ((i:Int)+j) 1).toNat*1=_;omega),G,_,Dz (ld B w) (by show 0+(a:Int).toNat*1=_;omega),_,Q x R y V _ (s.1.trans ((AA.ad H).O _)) d G,?_⟩;rintro _ h3 ⟨E,z,rfl⟩;have K:=s.C E.M;refine⟨E.C,Bz (λt=>?_) (λt=>?_)⟩
     .exact⟨Pq,_,_,Sq,(G:j-(k+1)<j-i),_,_,B,G,B,K⟩
     .exact⟨_,_,Sq,(G:k-i<j-i),_,_,B,G,B,K⟩
    refine⟨λf F H=>∃k:Nat,F=[(0,.slice A n c),(10,Vi i),(13,Vi k)]/\a<=k/\f=i-k/\JS h N n c A xs H,
     ⟨_,_,Sq,(G:i-a<L),_,B,Ae _,B,s⟩,?_⟩
    rintro f F H ⟨k,rfl,hk,rfl,s⟩ Z;refine⟨Pq,Bz (λt=>?_) (λt=>s)⟩;obtain⟨_,x',y',h1,h2,u,v,w,u1,u2,s'⟩:=s.M (i:=k) (j:=k+1) G G;cases u;refine⟨[],Kq,Pq,Pq,G,_,Dz (ld B w) (by show 0+((k:Int)+1).toNat*1=_;omega),G,_,Dz (ld B v) (by show 0+(k:Int).toNat*1=_;omega),G,_,Jp u1 (by show 0+(k:Int).toNat*1=_;omega),G,_,Jp u2 (by show 0+((k:Int)+1).toNat*1=_;omega),?_⟩;exact⟨Pq,_,_,Sq,(G:i-(k+1)<i-k),_,B,G,B,s'⟩
   refine⟨Pq,Bz (λC=>?_) (λC=>?_)⟩
   .have C:b=m+1:=G
    refine⟨λf F H=>∃i j:Nat,F=[(0,.slice A n c),(2,Vi m),(4,.func (.func g) first cap),(14,Vi i),(15,Vi j)]/\(a<=i/\i<=j/\j<=m)/\f=j-i/\JS h N n c A xs H,
     ⟨_,_,Sq,(G:m-a<L),_,_,B,G,B,X⟩,?_⟩
    rintro f F H ⟨i,j,rfl,U,rfl,s⟩ Z;have q:=kL i j;obtain⟨k,hk⟩:∃k,k=(i+j)/2:=⟨_,B⟩;refine Bz (λC=>?_) (λC=>?_)
    .obtain⟨b0,x,u,v,R⟩:=s.get (i:=m) G
     cases u;obtain⟨_,y,T,w,V⟩:=s.get (i:=k) G;cases T;refine⟨Pq,_,.inl ⟨Pq,B⟩,by decide,_,.inl ⟨Pq,B⟩,[],Kq,G,_,Dz (ld B v) (by show 0+(m:Int).toNat*1=_;omega),G,_,Dz (ld B w) (by show 0+(DN .u64 ((i:Int)+j) 1).toNat*1=_;omega),_,Q x R y V _ (s.1.trans ((AA.ad H).O _)) d G,?_⟩;rintro _ h3 ⟨E,z,rfl⟩;have K:=s.C E.M;refine⟨E.C,_,_,B,Ad (λt=>?_) (λt=>?_)⟩
     .exact⟨Pq,_,_,Sq,(G:j-(k+1)<j-i),_,_,B,G,B,K⟩
     .exact⟨_,_,Sq,(G:k-i<j-i),_,_,B,G,B,K⟩
    refine⟨λf F H=>∃k:Nat,F=[(0,.slice A n c),(14,Vi i),(17,Vi k)]/\k<=m/\f=k-i/\JS h N n c A xs H,
     ⟨_,_,Sq,(G:m-i<L),_,B,Ae _,B,s⟩,?_⟩
    rintro f F H ⟨k,rfl,hk,rfl,s⟩ Z;refine Bz (λt=>?_) (λt=>s);obtain⟨_,x',y',h1,h2,u,v,w,u1,u2,s'⟩:=s.M (i:=k) (j:=k-1) G G;cases u;refine⟨[],Kq,Pq,Pq,G,_,Dz (ld B w) (by show 0+((k:Int)-1).toNat*1=_;omega),G,_,Dz (ld B v) (by show 0+(k:Int).toNat*1=_;omega),G,_,Jp u1 (by show 0+(k:Int).toNat*1=_;omega),G,_,Jp u2 (by show 0+((k:Int)-1).toNat*1=_;omega),?_⟩;exact⟨Pq,_,_,Sq,(G:k-1-i<k-i),_,B,G,B,s'⟩
   have q:=kL a b;refine⟨Pq,_,.inl ⟨Pq,B⟩,by decide,_,.inl ⟨Pq,B⟩,Pq,Bz (λt=>?_) (λt=>?_)⟩
   .exact⟨Pq,_,CG (l:=[(0,_),(1,_),(2,_),(3,_),(4,_),(18,Vi (((a+b)/2:Nat):Int)),(19,Vi (((a+b)/2+m:Nat):Int)),(20,Vi (((a+b)/2+m-b:Nat):Int)),(21,Vi (((a+b)/2:Nat):Int))])
     ⟨B,B,B,B,B,Cs (λz=>I (Vi z)) q,Cs (λz=>I (Vi z)) G,Cs (λz=>I (Vi z)) G,Cs (λz=>I (Vi z)) q,trivial⟩,_,_,_,B,B,G,G,G,G,G,G,X⟩
   .exact⟨_,CG (l:=[(0,_),(1,_),(2,_),(3,_),(4,_),(18,Vi (((a+b)/2:Nat):Int)),(19,Vi (((a+b)/2+m:Nat):Int)),(20,Vi (a:Int)),(21,Vi (m:Int))])
     ⟨B,B,B,B,B,Cs (λz=>I (Vi z)) q,Cs (λz=>I (Vi z)) G,B,B,trivial⟩,_,_,_,B,B,G,G,G,G,G,G,X⟩
  .rintro _ H ⟨M,st,r,rfl,hm,O,P,k3,k4,k5,k6,s⟩
   refine⟨Pq,λf F H=>∃i j:Nat,F=[(0,.slice A n c),(1,Vi a),(2,Vi m),(3,Vi b),(4,.func (.func g) first cap),(18,Vi M),(19,Vi ((M+m:Nat):Int)),(20,Vi i),(21,Vi j),(22,Vi ((M+m-1:Nat):Int))]/\(st<=i/\i<=j/\j<=r)/\f=j-i/\JS h N n c A xs H,
    ⟨_,_,Sq,(G:r-st<L),_,_,B,G,B,s⟩,?_⟩
   rintro f F H ⟨i,j,rfl,U,rfl,s⟩ Z;have q:=kL i j;obtain⟨k,hk⟩:∃k,k=(i+j)/2:=⟨_,B⟩;refine Bz (λC=>?_) (λC=>?_)
   .obtain⟨b0,x,u,v,R⟩:=s.get (i:=M+m-1-k) G
    cases u;obtain⟨_,y,T,w,V⟩:=s.get (i:=k) G;cases T;refine⟨Pq,_,.inl ⟨Pq,B⟩,by decide,_,.inl ⟨Pq,B⟩,[],Kq,Pq,G,_,Dz (ld B v) (by show 0+(((M+m-1:Nat):Int)-DN .u64 ((i:Int)+j) 1).toNat*1=_;omega),G,_,Dz (ld B w) (by show 0+(DN .u64 ((i:Int)+j) 1).toNat*1=_;omega),_,Q x R y V _ (s.1.trans ((AA.ad H).O _)) d G,?_⟩;rintro _ h3 ⟨E,z,rfl⟩;have K:=s.C E.M;refine⟨E.C,_,_,B,Ad (λt=>?_) (λt=>?_)⟩
    .exact⟨Pq,_,_,Sq,(G:j-(k+1)<j-i),_,_,B,G,B,K⟩
    .exact⟨_,_,Sq,(G:k-i<j-i),_,_,B,G,B,K⟩
   refine⟨Pq,Bz (λO=>Bz (λP=>⟨_,s.call (λys o' _ _=>AEd (b:=M+m-i) o' hn G G G B B G) d G,?_⟩) (λP=>?_)) (λO=>?_)⟩
   all_goals
    try rintro _ _ s
    refine Bz (λO=>Bz (λP=>⟨_,s.call (λys o' p c'=>ih o' G G G G (Q.on p c') B B B) d G,?_⟩) (λP=>?_)) (λO=>?_)
    all_goals
     try rintro _ _ s
     refine Bz (λO=>Bz (λP=>⟨_,s.call (λys o' p c'=>ih (m':=M+m-i) o' G G G G (Q.on p c') B G B) d G,?_⟩) (λP=>?_)) (λO=>?_)
     all_goals
      first
       |exact s
       |(rintro _ _ s;exact s)
def mM {g:Nat} {first cap:Array Aa} (i:n<=1000000):∀(f:Nat) {a m b:Nat} {p q r:Int} {h:Y} {xs:Bo},AS h N 3 1 (.slice A n c) n (Bn xs)->a<m->m<b->b<=n->b-a<=2^(f+1)->U0 S L e g first cap h (BY (.slice A n c)) xs->p=a->q=m->r=b->
 Bk S L (e+2+f+1) 268 [.slice A n c,Vi p,Vi q,Vi r,.func (.func g) first cap] h λ_ J=>JS h N n c A xs J
 |0,a,m,b,_,_,_,h,xs,o,h1,j,k,s,l,rfl,rfl,rfl=>tQ o i h1 j k l G G λ{a' m' w} _ _ _ _ _ o t u v x=>G
 |f+1,a,m,b,_,_,_,h,xs,o,h1,j,k,s,l,rfl,rfl,rfl=>tQ o i h1 j k l G G λ{a' m' w} _ _ _ _ _ o t u v x y z C D=>mM i f o t u v Jq y z C D
def ACh [j:aF S L] {xs:Bo} (o:AS h N 3 1 (.slice A n c) n (Bn xs)) (u:n<=1000000) (v:U0 S L e g first cap h (BY (.slice A n c)) xs):
 Bk S L (e+23) 176 [.slice A n c,Vi n,.func (.func g) first cap] h λ_ J=>JS h N n c A xs J:=
 Fm (fn:=f176) Kq B λd R=>by
  have T:=j.a;have x:∀{k:Nat},k<=n->k<=2^(19+1):=λh=>by have:2^(19+1)=1048576:=B;omega
  refine⟨Dc B,λf F H=>∃a:Nat,F=[(0,.slice A n c),(1,Vi n),(2,.func (.func g) first cap),(6,Vi 20),(7,Vi a),(8,Vi ((a+20:Nat):Int))]/\a<=n/\f=n-a/\JS h N n c A xs H,
   ⟨_,_,Sq,(G:n-0<L),_,B,Al _,B,.refl o⟩,?_⟩
  rintro f F H ⟨a,rfl,w,rfl,s⟩ y;refine Bz (λD=>?_) (λD=>?_)
  .refine⟨_,s.call (λys o' p i=>tz o' u w G (v.on p i) B B) d G,?_⟩
   rintro _ r b;exact⟨Pq,_,_,Sq,(G:n-(a+20)<n-a),_,B,G,B,b⟩
  refine⟨_,s.call (λys o' p i=>tz o' u w G (v.on p i) B B) d G,λ_ r b=>⟨λf F H=>∃q:Nat,F=[(0,.slice A n c),(1,Vi n),(2,.func (.func g) first cap),(6,Vi q)]/\0<q/\f=n-q/\JS h N n c A xs H,
   ⟨_,_,Sq,G,_,B,Jq,B,b⟩,?_⟩⟩
  rintro f F H ⟨q,rfl,V,rfl,s⟩ y;refine Bz (λE=>?_) (λE=>s);refine⟨Pq,λf F H=>∃a:Nat,F=[(0,.slice A n c),(1,Vi n),(2,.func (.func g) first cap),(6,Vi q),(7,Vi a),(8,Vi ((a+2*q:Nat):Int))]/\a<=n/\f=n-a/\JS h N n c A xs H,
   ⟨_,_,Sq,(G:n-0<L),_,B,Al _,B,s⟩,?_⟩
  rintro f F H ⟨a,rfl,w,rfl,s⟩ y;refine Bz (λK=>?_) (λK=>?_)
  .refine⟨Pq,_,s.call (λys o' p i=>mM (m:=a+q) u 19 o' G G G (x G) (v.on p i) B G B) d G,?_⟩
   rintro _ r b;exact⟨Pq,Pq,_,_,Sq,(G:n-(a+2*q)<n-a),_,B,G,B,b⟩
  have nx:∀{t:As} {r:Y},JS h N n c A xs r->look t 0=I (.slice A n c)->look t 1=I (Vi n)->look t 2=I (.func (.func g) first cap)->look t 6=I (Vi ((q:Int)*2))->
   ∃m' C,Sub C t/\m'<n-q/\∃q:Nat,C=[(0,.slice A n c),(1,Vi n),(2,.func (.func g) first cap),(6,Vi q)]/\0<q/\m'=n-q/\JS h N n c A xs r:=λb M O P U=>
   ⟨_,_,CG (l:=[(0,_),(1,_),(2,_),(6,Vi ((q*2:Nat):Int))]) ⟨M,O,P,U.trans (Cs (λz=>I (Vi z)) G),trivial⟩,(G:n-q*2<n-q),_,B,G,B,b⟩
  refine⟨Pq,Bz (λQ=>?_) (λQ=>⟨Pq,nx s B B B B⟩)⟩;refine⟨_,s.call (λys o' p i=>mM (m:=a+q) u 19 o' G G G (x G) (v.on p i) B G B) d G,λ_ r b=>⟨Pq,nx b B B B B⟩⟩
def wt {xs:Bo} (o:AS h N 3 1 v n (Bn xs)) (b:n<=1000000) (f:uU S L d fv h (BY v) xs):Bk S L (d+26) 84 [v,fv] h λw J=>B0 (BY v) h J/\∃xs',xs'.Perm xs/\AS J N 3 1 v n (Bn xs'):=
 Fm (fn:=f84) Kq B λd j=>by
  obtain⟨g,first,cap,rfl,i⟩:=f
  obtain⟨A,n',c,rfl⟩:=o.aX;obtain rfl:n'=n:=by
   obtain⟨_,⟨e,rfl⟩|⟨_,_,_,e,_⟩⟩:=o<;>cases e<;>rfl
  refine⟨Dc B,_,ACh o b i d G,λ_ J s=>?_⟩;exact s
def H6 (a:List Bl):List Bl:=a.mergeSort λx y=>decide (x<=y)
def UZ (z:Bl):Value:=.string ⟨⟨z⟩⟩
open Classical in
def Oz (E:α->Aa) (g:List α->List α) (t:Ai) (_:Be) (args:AH) (h:Y):Jl:=match args with
 |[.slice _ 0 _]=>I (.tuple #[],h)
 |
  [.slice (I ⟨b,0,Z⟩) n _]=>(match h.t.get b with
  |some (.cells c m u 0 0 x)=>if e:∃zs:List α,LB zs=n/\n<=m/\n<=1000000/\u=t/\∀i z,zs[i]?=I z->c.get i=I (E z) then I (.tuple #[],h.put b (.cells (T.laid ((g (iW e)).map E) 0 c) m u 0 0 x)) else Z
  |_=>Z)
 |_=>Z
section
variable{P:AN} {τ:Bb}
open Go.Sort Go.Shelf
def uR (T:BM P τ) [Inhabited α] {E:α->Aa} {L:List α->List α} {ty f:Nat} {fl:List Nat} (hE:∀z,DG (E z)=Ag/\∀{ρ v},VR ρ (E z) v->v=E z) (hP:∀q,(L q).Perm q) (NN:∀D K M w,CallsIn (Fence.list fl (some D)) 2 P f #[.slice K 0 M] w λe w'=>e=.returned (.tuple #[])/\w'=w)
 (NA:∀D b o c (q:List α) w,Holds E w b o q.toArray->b<w.heap.size->LB q<4611686018427387904->CallsIn (Fence.list fl (some D)) 66 P f #[.slice (I ⟨b,o,Z⟩) (LB q) c] w λe w'=>e=.returned (.tuple #[])/\∃n os,w'=grow (putRow E (Go.Sort.ahead w n) b o (L q).toArray) os) (s:EV τ f=Ag) {ah:Be}
 {R:AH} {ρ:Go.Ev.Ren} {w:AM} (t:C5 P τ ρ h w) (r:LR ρ args R) (a:Oz E L ty ah args h=I (v,J)) (k kp:Aa->Y->RR) (A:List EO) (S:k v J=I A):
 Hk P (callFunc f ⟨R⟩) w (Ho P τ ρ w h k kp A):=by
 have V:∀x w,(callFunc f ⟨[x]⟩).run P w=.ok (.enter f ⟨[x]⟩) w:=λx w=>by
  unfold EV at s;split at s
  case h_2=>cases s
  rename_i fn W;obtain⟨cd,ai⟩:=Option.isSome_iff_exists.1 s;exact MuLone.run_callFunc_enter (T.fn _ _ W).1 ((T.fn _ _ W).2 s) ai _ w
 unfold Oz at a;split at a
 case h_3=>cases a
 case h_1=>
  cases a;cases r with|cons g r=>
  cases r;have Da:∀K M,Hk P (callFunc f ⟨[.slice K 0 M]⟩) w (Ho P τ ρ w h k kp A):=λK M=>by
   unfold Hk;rw[V];refine callsIn_wide.2 (Calls.mono (calls_of_every_depth λD=>NN D K M w) λen w' N=>?_);obtain⟨rfl,rfl⟩:=N;exact⟨ρ,_,_,A,.tuple .nil,t,RF.refl t,S,λ_ g=>g⟩
  cases g with
  |az l c=>exact Da _ _
  |slice F X=>exact Da _ _
 rename_i b n cap al;split at a
 case h_2=>cases a
 rename_i c m u x eH;split at a
 case isFalse=>cases a
 rename_i e;cases a;obtain⟨O,z2,z3,z5,z4⟩:=il e;obtain rfl:=z5.symm;generalize iW e=q at*;cases r with|cons g r=>
 cases r;cases g with|@slice _ _ _ _ _ pl o' F X=>
 have hn:0<n:=by
  rcases KQ n with rfl|h
  .exact(al B).elim
  .exact h
 have ho:o'=pl.o:=by have:=X G;omega
 subst ho;obtain⟨C,H,b1,b2,b3,b4,b5,b6⟩:=t.1.hr _ _ _ F eH;have am:H.1=H.2:=by
  rcases b5 with h|⟨h,_⟩|⟨h1,h2,h3⟩
  .exact h
  .cases h
  .omega
 have an:∀j,j<n->C[pl.o+j]?=I (E q[j]!):=λj p=>by
  have eJ:q[j]?=I q[j]!:=by rw[UJ,Ab G];rfl
  obtain⟨_,v',d1,d2⟩:=b4 _ _ (z4 j _ eJ);rw[(hE _).2 d2] at d1;exact d1
 have hH:Holds E w pl.b pl.o q.toArray:=λj p=>by
  have p:j<n:=by simpa[O] using p
  refine⟨?_,?_⟩
  .unfold WX
   simp only[b1];rw[an j p,ZE];rfl
  .unfold World.frozen?
   simp only[b1];simp[Bool.and_eq_false_imp,decide_eq_true_eq,decide_eq_false_iff_not];omega
 have aa:=calls_of_every_depth λD=>NA D pl.b pl.o (cap+Hl Z pl) q w hH (t.1.b _ pl F) G;rw[O] at aa;unfold Hk;rw[V];refine callsIn_wide.2 (Calls.mono aa λen w' N=>?_);obtain⟨rfl,dn,os,rfl⟩:=N
 let d:World:=putRow E (Go.Sort.ahead w dn) pl.b pl.o (L q).toArray
 have ab:d.heap.size=w.heap.size:=by
  rw[Go.Sort.size_putRow];rfl
 have ao:∀b,b≠pl.b->d.heap[b]?=w.heap[b]?:=λb hb=>by
  show(w.heap.modify pl.b _)[b]?=_;rw[B3,Bm (Ne.symm hb)]
 have ap:d.heap[pl.b]?=I (.cells (putCells E pl.o (L q).toArray C) ty H):=by
  show(w.heap.modify pl.b _)[pl.b]?=_;rw[B3,Bi B,b1];rfl
 have ad:(L q).length=n:=by rw[(hP _).length_eq,O]
 have Q:(putCells E pl.o (L q).toArray C).size=C.size:=by simp[putCells]
 have ae:∀j,(putCells E pl.o (L q).toArray C)[j]?=if pl.o<=j/\j<pl.o+n then I (E (L q)[j-pl.o]!) else C[j]?:=λj=>by
  unfold putCells;rw[ix,List.size_toArray,ad];by_cases h:pl.o<=j/\j<pl.o+n
  .rw[Bi h,By G,Ek,Bi h,ZE]
  .rw[Bm h]
   cases C[j]? with
   |none=>rfl
   |some y=>rw[Ek,Bm h]
 have aq:BR P ρ pl d (.cells (Ev.T.laid ((L q).map E) 0 c) m ty 0 0 x):=by
  refine⟨_,H,ap,by rw[Q];exact b2,λi U=>by rw[Q];exact b3 i U,λi u a=>?_,.inl am,λg=>by rw[Q];exact b6 g⟩;rw[Ev.T.O,A4,ad] at a;by_cases p:0<=i/\i<0+n
  .rw[Bi p] at a
   rw[DL,AX] at a;cases eI:(L q)[i]? with
   |none=>rw[eI] at a;cases a
   |
    some z=>
    rw[eI] at a;cases a;refine⟨G,E z,?_,.ak (hE _).1⟩;rw[ae,Bi G,Ds,UJ,eI];rfl
  .rw[Bm p] at a
   rw[ae,Bm G];exact b4 i u a
 obtain⟨k1,o⟩:=t.write (hdr:=GW _ _) F eH B ab ao aq B B B;have af:∀b,b<d.heap.size->(grow d os).heap[b]?=d.heap[b]?:=λb hb=>by
  show(d.heap++os)[b]?=_;rw[KP hb]
 have ag:d.heap.size<=(grow d os).heap.size:=by rw[size_grow];omega
 exact⟨ρ,_,_,A,.tuple .nil,k1.grow ag af,⟨⟨o.C,Ao o.size ag,λb hb hh=>(af b (by rw[ab];exact hb)).trans (o.O b hb hh),o.new,o.a,o.os,o.out,o.tape,o.drawn⟩,AF.put _ _ _⟩,S,λ_ g=>g⟩
end
def rH {E:α->Aa} {R:List α->List α} {t f:Nat} (hE:∀a b,E a=E b->a=b) (Y:∀s,(R s).Perm s) (p:S.a f=I (Oz E R t)) {g:List α} (o:AS h N t 1 v n (g.map E)) (q:n<=1000000):
 Bk S L 10 f [v] h λw J=>B0 (BY v) h J/\∃d:List α,d.Perm g/\d=R g/\AS J N t 1 v n (d.map E):=by
 have D:Bk S L 1 f [v] h λw J=>B0 (BY v) h J/\∃d:List α,d.Perm g/\d=R g/\AS J N t 1 v n (d.map E):=by
  rcases KQ n with rfl|h0
  .obtain⟨A,n',c,rfl⟩:=o.aX
   obtain rfl:n'=0:=by
    obtain⟨_,⟨e,_⟩|⟨_,_,_,e,_⟩⟩:=o<;>cases e<;>rfl
   exact Lm p (λ_=>B) ⟨(AA.refl h).O _,g,.refl _,(by obtain rfl:=BO (by simpa using o.1:g.length=0);exact(BO (Y []).length_eq).symm),o⟩
  obtain⟨k,rfl⟩:∃k,n=k+1:=⟨n-1,G⟩;obtain⟨m1,⟨_,e⟩|⟨b,r,sp,rfl,F,H,W,hb,c,x,K,l⟩⟩:=o
  .cases e
  have u:LB g=k+1:=by rw[←BJ (k+1),←m1];simp
  have hk:∀i z,g[i]?=I z->c.get i=I (E z):=λi z f=>l i _ (by rw[AB (by have:=(cG.1 f).1;simpa using this),AX,f];rfl)
  have e:∃s:List α,LB s=k+1/\k+1<=(g.map E++sp).length/\k+1<=1000000/\t=t/\∀i z,s[i]?=I z->c.get i=I (E z):=⟨g,u,G,q,B,hk⟩
  obtain⟨M,X,z3,_,O⟩:=il e;have P:∀y,Oz E R t y [sL b (k+1) r] h=I (.tuple #[],h.put b (.cells (T.laid ((R (iW e)).map E) 0 c) (g.map E++sp).length t 0 0 x)):=λy=>by
   show(match h.t.get b with|some (.cells c m _ 0 0 x)=>_|_=>Z)=_
   rw[K];exact dif_pos e
  generalize iW e=s at*;refine Lm p P ?_;have Q:g=s:=by
   apply List.ext_getElem?;intro i;by_cases U:i<k+1
   .have C:=O i _ (Ab G);rw[hk i _ (Ab G)] at C;rw[Ab G,Ab G];exact Cs I (hE _ _ (I.inj C))
   .rw[CD G,CD G]
  subst Q;have j:(R g).length=k+1:=by rw[(Y _).length_eq,u]
  have V:((R g).map E++sp).length=(g.map E++sp).length:=by
   rw[Aj,Aj];simp[j,u]
  refine⟨(Er.put _ _ _).O,R g,Y _,B,Jq,.inr ⟨b,r,sp,B,F,H,Jq,Jq,_,x,by rw[BQ,Bi B,V],λi v a=>?_⟩⟩
  rw[T.O,A4,j]
  by_cases U:i<k+1
  .rw[Bi G,DL]
   rw[AB Jq] at a;exact a
  .rw[Bm G]
   refine l i v ?_;rw[Bq Jq] at a⊢;simp[A4,j,u] at a⊢;exact a
 exact λn q=>D n G
def zy (p:S.a 170=I (Oz UZ H6 9)) (o:AS h N 9 1 v n (AR ss)) (q:n<=1000000):
 Bk S L 10 170 [v] h λw J=>B0 (BY v) h J/\∃d,d.Perm ss/\AS J N 9 1 v n (AR d):=by
 have e:∀d:List Bl,d.map UZ=AR (d.map λz=>⟨⟨z⟩⟩):=λd=>by unfold AR UZ;rw[O5];rfl
 have o':AS h N 9 1 v n ((ss.map λs=>aI s.data).map UZ):=by rw[e,O5,show((λz=>⟨⟨z⟩⟩:Bl->Bd)∘λs=>aI s.data)=id from B,mn];exact o
 exact λn c=>((rH (λa b j=>by cases j;rfl) (λz=>mq z _) p o' q) n c).mono λw J ⟨x,d,y,_,z⟩=>⟨x,d.map λz=>⟨⟨z⟩⟩,by have:=y.map λz=>(⟨⟨z⟩⟩:Bd);rwa[O5,show((λz=>⟨⟨z⟩⟩:Bl->Bd)∘λs=>aI s.data)=id from B,mn] at this,e d▸z⟩
def gD (r m e:Nat) (d:List Ap):Ct:={
 C:=λi=>i=r
 holds:=λh=>r<h.a/\∃a,h.t.get r=I (.ay (I m) e (d.map (·.born)) a)/\(d≠[]->a=e)
 a:=λc b o=>⟨AC o.1 c.a,c.t r o.1 (b r B)▸o.2⟩
 lt:=λo i U=>Jq
 M:=λo=>⟨by rw[CL];exact o.1,by rw[DF];exact o.2⟩}
section
variable{h0 h:Y} {l:List Ct} {i r m ck:Nat} {es sn:List Ap}
def aH.cZ (s:aH h0 h l) (U:l[i]?=I (gD r m ck sn)) (a:m<h0.a) (b:h0.t.get m=I (.map es ck)) (c:Fc ck 0 es=Ag) (d:∀e∈sn,e∈es) (f:sn.Nodup):It h r m es sn:=by
 let⟨⟨a1,g,j,k⟩,_⟩:=s.2.1 i _ U;exact⟨a1,⟨AC a s.e.a,ck,g,(s.e.t m a).trans b,c,j,k⟩,d,f⟩
def aH.c7 (s:aH h0 h l) (U:l[i]?=I (gD r m ck sn)) (b:m<h0.a) (c:h0.t.get m=I (.map es ck)) (f:Fc ck 0 es=Ag) (g:∀e∈sn,e∈es) (j:sn.Nodup) {k:Aa->Y->Prop} (F:(∀e∈es,e∈sn)->k (.tuple #[.bool Ah]) h)
 (n:∀e,e∈es->(sn++[e]).Nodup->∀J,aH h0 J (l.set i (gD r m ck (sn++[e])))->k (.tuple #[.bool Ag,e.key,e.val]) J):∃x l,FT (AG r 0) Ah h=I (x::l)/\∀u J,(u,J)∈x::l->k u J:=
 tT (s.cZ U b c f g j) F λe o z J u p=>by
  let⟨b1,⟨A,C,q,d,D,v,w⟩,_,y⟩:=p;have E:=(s.2.1 i _ U).2 r B;rw[u.t m G,s.e.t m b,c] at d;cases d;exact n e o y J (s.ah _ U (u.O.mono λx a=>a) ⟨b1,q,v,w⟩ λx a=>.inl a)
end
def pV (k:Int×Int):Value:=C9 k.1 k.2
def Auf {a b:Int×Int} (h:pV a=pV b):a=b:=by
 injection h with h;injection h with h;injection h with h1 c;injection c with c _;injection h1 with _ h1;injection c with _ c;exact Prod.ext h1 c
def vq:∀{a b:List (Int×Int)},a.map pV=b.map pV->a=b
 |[],[],_=>rfl
 |[],_::_,h=>Jq
 |_::_,[],h=>Jq
 |x::a,y::b,h=>by
  simp[eV.injEq] at h;rw[Auf h.1,vq h.2]
def Akt {a b:List (Int×Int)} (h:(a.map pV).Perm (b.map pV)):a.Perm b:=by
 have f:∀{x:AH},x.Perm (b.map pV)->∃c:List (Int×Int),x=c.map pV/\c.Perm b:=by
  intro x d;exact HH pV d
 let⟨c,h1,e⟩:=f h;rw[vq h1];exact e
def ACm [K:aF S L] {w dy:Nat} (hb:aC h0 b 0 (.map (I r))) (M:HE h0 r l) (hl:LB l<=1000000) (g:List (Int×Int)->List Ct->Prop) {y:List Ct} (p0:g [] y) (j:aH h0 h y)
 (hy:∀(c:List (Int×Int)) (k:Int×Int) (A R:List Ct) (m:Y),g c A->LB c<LB l->aH h0 m (A++R)->ZP S L dy (.yield w) [.agg ⟨E4 k⟩] m λu J=>u=.bool Ag/\∃o,g (c++[k]) o/\aH h0 J (o++R)):
 PE S L (dy+1) 346 [.func (.yield w) #[] #[],AG b 0] h λ_ J=>∃c A,g c A/\c.Perm (l.map Eh)/\aH h0 J A:=
 GU (fn:=f346) Kq B λd ak=>by
  have hL:=K.a;obtain⟨f,es,z,n,C,p,m4⟩:=M;have al:LB es=LB l:=by have:=Cs HD C;simpa using this
  obtain⟨h1,y1,N,i1,_⟩:=It.new (τ:=Ax) (t:=317) (kt:=321) (et:=3) Kq (AC f j.e.a) ((j.e.t r f).trans n) p;have s1:=j.add (a:=gD h.a r z []) N (by
   obtain⟨a1,⟨_,am,af,O,_,a5,a6⟩,_⟩:=i1;rw[N.t r Jq,j.e.t r f,n] at O;cases O;exact⟨a1,af,a5,a6⟩) λi U=>A2 U.symm
  refine⟨Dc B,_,ld B (hb.C j.e),_,_,y1,λP F Q m=>∃(v:List Ap) (c:List (Int×Int)) (A:List Ct),F=[(0,.func (.yield w) #[] #[]),(5,AG h.a 0)]/\Q=[]/\P=LB es-LB v/\g c A/\v.map (·.key)=c.map pV/\(∀e∈v,e∈es)/\v.Nodup/\aH h0 m (gD h.a r z v::A),
   ⟨_,_,Sq,G,[],[],y,B,B,B,p0,B,(λe D=>by cases D),Jg,s1⟩,?_⟩
  rintro P F Q m ⟨v,c,A,rfl,rfl,rfl,T,E,V,W,s⟩ an;refine s.c7 (i:=0) B f n p V W (λag=>?_) (λe D X h2 s2=>?_)
  .have hp:=(s.cZ (i:=0) B f n p V W).all ag
   have ek:es.map (·.key)=(l.map Eh).map pV:=by
    have:=Cs (List.map Eh) C;rw[O5,O5] at this;rw[O5];exact this
   exact⟨c,A,T,Akt (by rw[←E,←ek];exact hp.map _),s.drop 1⟩
  .obtain⟨q,hq,ah⟩:=dP.1 (show(e.key,e.val)∈l.map _ from C▸Gn D)
   have aa:e.key=.agg ⟨E4 q.1⟩:=(Cs Eh ah).symm;have ab:∀x∈v++[e],x∈es:=λx hx=>Gq;have ad:=s2.cZ (i:=0) B f n p ab X;have ai:=ad.len;rw[Aj,Br] at ai;have ae:=QO ad;have ao:LB c=LB v:=by have:=Cs HD E;simpa using this.symm
   rw[aa] at ae⊢;obtain⟨g3,y3,H,y4,Z⟩:=(s2:aH h0 h2 (gD h.a r z (v++[e])::A)).va 321 [Vi 0,Vi 0] (E4 q.1);refine⟨_,_,Cs (CN _) ae,_,_,y3 _,_,y4,_,EQ Kq ((Z.dD 0 B).cells:BK H h2.a 0 (E4 q.1)) B,_,(hy c q.1 A _ H T G ((Z.drop 1).perm (Gm _ _).symm:aH h0 H (A++[gD h.a r z (v++[e])])) d G).any,?_⟩;rintro _ h5 ⟨rfl,o,aj,s6⟩;exact⟨_,_,B,_,_,Sq,(by rw[Aj,Br];omega:es.length-(v++[e]).length<_),v++[e],c++[q.1],o,B,B,B,aj,by rw[BS,BS,E,kO,kO,aa];rfl,ab,X,s6.perm (Gm _ _)⟩
def Hq (a:List (Int×Int)):AH:=a.flatMap E4
def AAx (hb:aC h b 0 (.map (I r))) (M:HE h r l) (X:LB l<=1000000):
 PE S L 8 381 [.slice Z 0 0,.func (.func 346) #[] #[AG b 0]] h λw J=>AA h J/\∃c:List (Int×Int),c.Perm (l.map Eh)/\AS J h.a 321 2 w (LB c) (Hq c)/\(c=[]->w=.slice Z 0 0):=
 GU (fn:=f381) Kq B λd ad=>by
  obtain⟨g,K,s1⟩:=(aH.nil h).box Ax 315 (.slice Z 0 0);have s3:=(s1:aH h g [aO h.a 315 [.slice Z 0 0]]).nl h.a 321 2;refine⟨Dc B,_,_,K,XI (τ:=Ax) (f:=346) (fn:=f346) Kq B,T3 λp _ aa=>?_⟩;have s5:=s3.n2 (.aq Ah) (p .ready Z)
  let E:List (Int×Int)->List Ct->Prop:=λc A=>∃j:Aa,A=[aB (A3 g.a) (p .ready Z),aB g.a (.aq Ah),aS h.a 321 2 j (LB c) (Hq c),aO h.a 315 [j]]/\(c=[]->j=.slice Z 0 0)
  have hy:∀(c:List (Int×Int)) (k:Int×Int) (A R:List Ct) (q:Y),E c A->LB c<LB l->aH h q (A++R)->ZP S L 1 (.yield (A3 g.a)) [.agg ⟨E4 k⟩] q λu J=>u=.bool Ag/\∃N,E (c++[k]) N/\aH h J (N++R):=by
   rintro c k _ R q ⟨j,rfl,_⟩ hk s n ae;obtain⟨m,rfl⟩:∃m,n=m+1:=⟨n-1,G⟩;refine aa m [(2,AG h.a 0)] _ q _ (Sq) (s.a7 0 B) ?_;obtain⟨g7,z,y,v,o⟩:=s.va 321 [Vi 0,Vi 0] (E4 k);refine⟨_,_,z _,_,v,o.a7 1 B,?_⟩;have o:=o.pu 1 (p .busy Z) B;generalize y.put (A3 g.a) (p .busy Z)=y at o⊢;obtain⟨O,h9,t9,P⟩:=o.ba (e:=321) (k:=2) Kq (i:=3) B (ys:=E4 k) B B o.e.a G (n':=(c++[k]).length) (xs':=Hq (c++[k])) wl (by simp[Hq]);obtain⟨af,t,F⟩:=P.sT 315 4 0 O B (Ac B) (D5 (P.sl 3 B));have ab:=F.pu 1 (p .ready Z) B;exact⟨_,ld B (o.q 4 _ B B:aC y h.a 0 j),_,EQ (k:=2) Kq ((o.dD 0 B).cells:BK y q.a 0 (E4 k)) B,_,_,i3 315 321 2 (.agg ⟨E4 k⟩) _,_,_,t9,_,t,.busy,Z,F.a7 1 B,B,_,⟨O,B,λh=>Cf h wl⟩,ab.drop 1⟩
  refine⟨_,ACm hb M X E (dy:=1) ⟨_,B,λ_=>B⟩ s5 hy d G,?_⟩;rintro u Q ⟨c,_,⟨j,rfl,hz⟩,hp,H⟩;refine⟨.ready,Z,H.a7 0 B,Jq,?_⟩;have T:=H.pu 0 (p .exhausted Z) B;generalize Q.put (A3 g.a) (p .exhausted Z)=h7 at T⊢;have o:aH h h7 ([aS h.a 321 2 j (LB c) (Hq c),aO h.a 315 [j]]++Oc [g.a]):=
   ((T.drop 1).perm (l':=[aS h.a 321 2 j (LB c) (Hq c),aO h.a 315 [j]]++Oc [g.a]) (Gm _ _).symm)
  refine⟨_,ld B (o.q 1 0 B B),?_⟩;obtain⟨n1,n2,n3,V⟩:=aH.aq (l:=[aS h.a 321 2 j (LB c) (Hq c),aO h.a 315 [j]]) (D:=[g.a]) o;exact JM _ n1 n2 λJ _ W=>⟨(V J W).e,c,hp,(V J W).sl 0 B,hz⟩
def ADh (hb:aC h b 0 (.map (I r))) (M:HE h r l) (e:LB l<=1000000):
 PE S L 9 344 [.func (.func 346) #[] #[AG b 0]] h λw J=>AA h J/\∃a:List (Int×Int),a.Perm (l.map Eh)/\AS J h.a 321 2 w (LB a) (Hq a)/\(a=[]->w=.slice Z 0 0):=
 GU (fn:=f344) Kq B λd f=>by
  refine⟨Dc B,_,AAx hb M e d G,?_⟩;rintro w J q;exact q
def YG {a:Type} (Cr:a->AH) (xs:List a):AH:=match xs with
 |[]=>[.pointer Z]
 |x::xs=>(x::xs).flatMap Cr
def Y7 {d:Type} {Cr:d->AH} (g:∀a,(Cr a).length=k/\(Cr a).all aJ=Ag) {xs:List d} (o:AS h N e k v (LB xs) (xs.flatMap Cr)) (i:xs=[]->v=.slice Z 0 0):MB h N e k v=I (LB xs,YG Cr xs):=by
 cases xs with
 |nil=>rw[i B];rfl
 |
  cons x xs=>
  obtain⟨t,⟨_,j⟩|⟨b,c,sp,rfl,l,m,w,n⟩⟩:=o
  .cases j
  obtain⟨z,y,p,f⟩:=n.bx (off:=0) (k:=(x::xs).length*k) Jq;have q:((x::xs).flatMap Cr).all aJ=true:=Jf.2 λu r=>by
   obtain⟨a,_,s⟩:=List.mem_flatMap.1 r;exact Jf.1 (g a).2 u s
  rw[dQ,UR G,Bj G] at f;unfold MB;simp only[p,Aq l,Mi e,Aq (show 0+c*k<=(((x::xs).flatMap Cr)++sp).length by omega),Aq m,f,q];rfl
def ve {b:Type} {Cr:b->AH} {f:Nat} {xs:List b} (g:Ax.fn.get f=I fn) (j:S.hk f=Z) (l:S.a f=Z) (o:S.M f=I e) (U:(match Ax.b.get e with|some i=>Am i.size k|none=>Ah)=Ag)
 (p:∀a,(Cr a).length=k) (r:∀xs:List b,Dv (YG Cr xs) (YG Cr xs)=Ag)
 (c:∀n,d<=n->MT Ag Ax (B8 Ax S L n) L fn args h.ad λv J=>J.lo.C h.a=Ag/\MB J h.a e k v=I (LB xs,YG Cr xs)):iB S L (d+1) f args h λw J=>AS J h.a e k w (LB xs) (xs.flatMap Cr):=by
 intro n A;obtain⟨m,rfl⟩:∃q,n=q+1:=⟨n-1,G⟩;obtain⟨i,s,t⟩:∃i,Ax.b.get e=I i/\i.size=k:=by
  split at U
  .exact⟨_,by assumption,Af U⟩
  .cases U
 subst t;refine(Wq g j l o s (r xs) (λh0=>by rw[BO h0];rfl) (c m G)).mono λw J u=>?_;rcases u with⟨h0,rfl,rfl⟩|⟨h0,rfl,rfl⟩
 .rw[BO h0]
  exact⟨AA.refl _,AS.nil _ _ _ _⟩
 .cases xs with
  |nil=>exact Cf B h0
  |cons x xs=>
   refine⟨AA.a4 _ _ _,aQ.bN (aQ.a4 _ _ _) ?_ Jq⟩;have:∀ys:List b,(ys.flatMap Cr).length=LB ys*i.size:=λys=>by
    induction ys with
    |nil=>simp
    |cons y ys z=>rw[Dg,Aj,p,z,AO,Dw,Nat.one_mul];omega
   exact this _
def Rb:∀a:List (Int×Int),Dv (Hq a) (Hq a)=Ag
 |[]=>rfl
 |k::a=>by
  show(HS (Vi k.1) (Vi k.1)&&(HS (Vi k.2) (Vi k.2)&&Dv (Hq a) (Hq a)))=Ag;rw[Rb a];show((Ag&&decide (k.1=k.1))&&((Ag&&decide (k.2=k.2))&&Ag))=Ag;simp
def Wb {d:Type} {c:d->d->Int} (C:Cm c) {l m:List d} (p:l.Perm m) (h:m.Pairwise λa b=>c a b≠0):H0 c l=H0 c m/\l.Pairwise λa b=>c a b≠0:=by
 have f:=(p.pairwise_iff (λ{a b} h e=>h (by have:=C.a a b;have:=C.a b a;omega))).2 h;exact⟨Alc C (((DO l).trans p).trans (DO m).symm) (PX C l f) (PX C m h),f⟩
def zW {a b:Int×Int} (h:UY a b=0):a=b:=by
 let⟨h1,h⟩:=Ob h;let⟨c,_⟩:=Ob h;exact Prod.ext (Mu h1) (Mu c)
def ABp (q:S.a 270=Z) (s:S.M 270=I 321) (t:S.hk 270=Z) (u:S.a 345=I (IA Ax 321)) (hb:aC h b 0 (.map (I r))) (M:HE h r l) (v:LB l<=1000000):
 iB S L 11 270 [.func (.func 346) #[] #[AG b 0],.func (.func 272) #[] #[]] h λw J=>∃f:List (Int×Int),Rd J w 2 (LB f) (f.flatMap E4)/\LB f=LB l/\∀k∈f,∃c,(k,c)∈l:=by
 obtain⟨_,es,O,_,_,_,z⟩:=id M;have P:=DO (c:=UY) (l.map Eh);refine(ve (fn:=f270) (k:=2) (xs:=H0 UY (l.map Eh)) Kq t q s Kq (λ_=>B) (λxs=>by cases xs with|nil=>rfl|cons x xs=>exact Rb (x::xs)) λd N=>?_).mono ?_
 .refine⟨Dc B,_,ADh Jq Jq v d G,?_⟩
  rintro w j ⟨A,f,g,o,C⟩;obtain⟨m,D⟩:=Wb ph g (qK.2 (z.imp λh e=>h (zW e)));refine⟨_,(QS ph (k:=2) u Kq Kq (λ_=>⟨B,B⟩) o B (by have:=g.length_eq;rw[A4] at this;omega) D (λx _ y _=>ACr) d G).any,λ_ E ⟨rfl,F,H⟩=>?_⟩;have n:(H0 UY (l.map Eh)).length=LB f:=m▸(DO f).length_eq
  refine⟨(A.then H λi U=>o.ai i U:AA h.ad E).C,Y7 (Cr:=E4) (λ_=>⟨B,B⟩) (by rw[n,←m];exact F) λh0=>C (BO (by rw[←n,h0];rfl))⟩
 .rintro w J ⟨x,o⟩
  refine⟨x,H0 UY (l.map Eh),o.rd,by rw[P.length_eq,A4],λk K=>?_⟩;obtain⟨p,g,rfl⟩:=dP.1 (P.subset K);exact⟨p.2,g⟩
section
variable{α:Type} {kt:Ai} {kv vv:α->Aa} {Q:α->α->Bool}
def Q0 {x y:α}:∀{l:List α},y∈KT Q x l->y=x\/y∈l
 |[],h=>.inl (bQ.1 h)
 |z::l,h=>by
  rw[KT] at h;split at h
  .exact(bZ.1 h).imp_right Jq
  .rcases bZ.1 h with h|h
   .exact .inr Jq
   .exact(Q0 h).imp_right Jq
def VF (x:α):∀l:List α,(KT Q x l).length<=LB l+1
 |[]=>Ae _
 |z::l=>by rw[KT];split<;>simp[AO]<;>have:=VF x l<;>omega
def S9 (K:gP kt kv Q) {x:α}:∀{l:List α},l.Pairwise (λa b=>kv a≠kv b)->(KT Q x l).Pairwise λa b=>kv a≠kv b
 |[],_=>List.pairwise_singleton _ _
 |z::l,h=>by
  let⟨h1,f⟩:=dY.1 h;rw[KT];split
  .rename_i d
   exact dY.2 ⟨λy c=>(K.iff _ _).1 d▸h1 y c,f⟩
  .rename_i d
   refine dY.2 ⟨λy c=>?_,S9 K f⟩;rcases Q0 c with rfl|c
   .exact λe=>d ((K.iff _ _).2 e.symm)
   .exact h1 y c
end
def HZ (e:CI):Value:=.agg ⟨BV {e with c:=0}⟩
def Mx (e:CI):Value:=.int .i64 e.c
def N9 (a b:CI):Bool:=Gp (aI a.rd.data) (aI b.rd.data)&&(Gp (aI a.b.data) (aI b.b.data)&&(a.l==b.l&&(a.r==b.r&&Ag)))
def nI:gP 90 HZ N9:=by
 refine⟨λa b=>?_,λa b=>?_,λa=>?_,λa=>B⟩
 .have e:IZ Ax Op.maxDepth 90 (HZ a) (HZ b)=bm (Gp (aI a.rd.data) (aI b.rd.data)) (bm (Gp (aI a.b.data) (aI b.b.data)) (bm (a.l==b.l) (bm (a.r==b.r) (bm (0==0) (I Ag))))):=B
  rw[e];simp[L1];simp[N9]
 .unfold N9
  rw[An,An,An,Mh,CJ,CJ];constructor
  .rintro⟨g,c,d,f⟩
   unfold HZ BV;rw[g,c,eq_of_beq d,eq_of_beq f]
  .intro h
   unfold HZ BV at h;simp[Array.mk.injEq] at h;exact⟨h.1,h.2.1,Jq,by simp[h.2.2.2]⟩
 .have e:Cy (HZ a) (HZ a)=(Gp (aI a.rd.data) (aI a.rd.data)&&(Gp (aI a.b.data) (aI a.b.data)&&((Ag&&decide (a.l=a.l))&&((Ag&&decide (a.r=a.r))&&((Ag&&decide (0=0))&&Ag))))):=B
  rw[e,CJ.2 B,CJ.2 B];simp
def H4 (l:List CI) (e:CI):List CI:=match l.find? (N9 e) with
 |I y=>if e.c<y.c then KT N9 e l else l
 |Z=>KT N9 e l
def QP (es:List CI):List CI:=es.foldl H4 []
structure MS (es l:List CI):Prop where
 b:l.Pairwise λa b=>HZ a≠HZ b
 mem:∀x∈l,x∈es
 len:LB l<=LB es
def MS.step {es l:List CI} (i:MS es l) (e:CI):MS (es++[e]) (H4 l e):=by
 have a:MS (es++[e]) (KT N9 e l):=⟨S9 nI i.b,λx b=>by
  rcases Q0 b with rfl|b
  .simp
  .exact DW _ (i.mem x b),by have:=VF (Q:=N9) e l;have:=i.len;rw[Aj,Br];omega⟩
 unfold H4;split
 .split
  .exact a
  .exact (⟨i.b,λx b=>DW _ (i.mem x b),by have:=i.len;rw[Aj];omega⟩)
 .exact a
def SV:∀es:List CI,Dv (es.flatMap BV) (es.flatMap BV)=Ag
 |[]=>rfl
 |e::es=>by
  show(Gp (aI e.rd.data) (aI e.rd.data)&&(Gp (aI e.b.data) (aI e.b.data)&&((Ag&&decide (e.l=e.l))&&((Ag&&decide (e.r=e.r))&&((Ag&&decide (e.c=e.c))&&Dv (es.flatMap BV) (es.flatMap BV))))))=Ag;rw[SV es,CJ.2 B,CJ.2 B];simp
def Gz {a b:CI} (h:Xd a b=0):HZ a=HZ b:=by
 obtain⟨g,h⟩:=Ob h;obtain⟨_,h⟩:=Ob h;obtain⟨d,h⟩:=Ob h;obtain⟨e,h⟩:=Ob h;obtain⟨f,_⟩:=Ob h;unfold HZ;rw[show({a with c:=0}:CI)={b with c:=0} by rw[Xt g,Xt d,Mu e,Mu f]]
def ZQ (e:Ap):AH:=(AJ e.key).take 4++AJ e.val
def wy [af:aF S L] (ar:S.a 74=Z) (au:S.M 74=I 90) (av:S.hk 74=Z) (aw:S.a 164=I (IA Ax 90)) {es:List CI} (en:Dq h v es) (hn:LB es<=20000):
 iB S L 10 74 [v] h λw J=>∃M:List CI,AS J h.a 90 5 w (LB M) (M.flatMap BV)/\LB M<=LB es/\∀e'∈M,e'∈es:=by
 have hL:=af.a;have all:∀k,k<=LB es->MS (es.take k) ((es.take k).foldl H4 []):=by
  intro k
  induction k with
  |zero=>intro _;exact⟨.nil,(λx R=>by cases R),Ae _⟩
  |
   succ k ih=>
   intro hk;rw[A5 G,K1];exact(ih G).step _
 have j:=all (LB es) Jq;rw[CS] at j;have j:MS es (QP es):=j;have ag:=j.b.imp λh e=>h (Gz e);have P:=DO (c:=Xd) (QP es);refine(ve (fn:=f74) (k:=5) (xs:=H0 Xd (QP es)) Kq av ar au Kq (λ_=>B) (λxs=>by cases xs with|nil=>rfl|cons x xs=>exact SV (x::xs)) λd be=>?_).mono ?_
 rotate_left
 .rintro w J ⟨x,o⟩
  exact⟨x,_,o,by rw[P.length_eq];exact j.len,λe T=>j.mem e (P.subset T)⟩
 have V:=show Rd h.ad _ _ _ _ from en;generalize W:h.ad=b;rw[W] at V;obtain⟨A0,c0,rfl⟩:∃A c,v=.slice A (LB es) c:=by obtain⟨_,A,c,e,_⟩:=V;exact⟨A,c,e⟩
 have s1:=(aH.nil b).add (a:=aG HZ Mx b.a []) (AA.new b (.map [] 0)) ⟨by rw[Ck];omega,[],0,by rw[CK,Bi B],B,B⟩ (λi U=>A2 U.symm);refine⟨Dc B,λC F D q=>∃k:Nat,F=[(3,.map (I b.a)),(13,.slice A0 (LB es) c0),(14,Vi (LB es)),(15,Vi k)]/\D=[]/\C=LB es-k/\k<=LB es/\aH b q [aG HZ Mx b.a ((es.take k).foldl H4 [])],
  ⟨_,_,Sq,(G:es.length-0<L),0,B,B,B,Al _,s1⟩,?_⟩
 rintro C F D q ⟨k,rfl,rfl,rfl,hk,s⟩ ax;refine Ad (λn=>?_) (λn=>?_)
 .have n:k<LB es:=by have:=Fp n;omega
  obtain⟨a1,y1,e9,_,r⟩:=(Rd.C V s.e).el n;cases e9;rw[flatK (f:=BV) (λ_=>B) es (Ab n)] at r;have ah:=A5 n;generalize es[k]=e at r ah;have N:(es.take (k+1)).foldl H4 []=H4 ((es.take k).foldl H4 []) e:=by rw[ah,K1];rfl
  generalize(es.take k).foldl H4 []=l at s N;obtain⟨g1,z1,X,z2,s2⟩:=s.va 90 [.string ⟨#[]⟩,.string ⟨#[]⟩,Vi 0,Vi 0,Vi 0] (BV e);obtain⟨g3,z3,g4,z4,s4⟩:=s2.va 90 [.string ⟨#[]⟩,.string ⟨#[]⟩,Vi 0,Vi 0,Vi 0] (BV e);obtain⟨O,z5,E⟩:=s4.sT 3 0 4 (Vi 0) B (Ac B) B;have c6:BK O X.a 0 (BV {e with c:=0}):=(E.dD 0 B).cells;have c5:aC O q.a 4 (Vi e.c):=E.q 1 4 B B;have m5:TA HZ Mx O b.a l:=(E.2.1 2 _ B).1;have lk:=m5.look nI (t:=291) (et:=3) (z:=Vi 0) Kq Kq e;obtain⟨g6,z6,m6,u6⟩:=m5.ah nI (t:=291) (et:=3) Kq e;have s6:=E.ah 2 (a':=aG HZ Mx b.a (KT N9 e l)) B u6.O m6 λx R=>.inl R
  refine⟨G,_,EQ (k:=5) Kq (show BK q a1.block (a1.off+(k:Int).toNat*5) (BV e) from r) B,_,_,z1 _,_,z2,_,EQ (k:=5) Kq (show BK X q.a 0 (BV e) from (s2.dD 0 B:aQ X q.a 90 (BV e)).cells) B,_,_,z3 _,_,z4,_,z5,_,EQ (k:=5) Kq c6 B,_,_,Cs (CN _) lk,?_⟩;have ai:aH b g6 [aG HZ Mx b.a (KT N9 e l)]:=s6.drop 2;cases hf:l.find? (N9 e) with
  |
   none=>
   have H:H4 l e=KT N9 e l:=by unfold H4;rw[hf]
   refine⟨_,_,B,_,EQ (k:=5) Kq c6 B,_,ld B c5,_,_,Cs Nb z6,?_⟩;exact⟨Pq,_,_,Sq,(G:es.length-(k+1)<es.length-k),k+1,B,B,B,n,by rw[N,H];exact ai⟩
  |
   some y=>
   refine⟨_,_,B,_,ld B c5,Bz (λk2=>?_) (λk2=>?_)⟩
   .have H:H4 l e=KT N9 e l:=by unfold H4;rw[hf];exact Bi k2
    exact⟨_,EQ (k:=5) Kq c6 B,_,ld B c5,_,_,Cs Nb z6,Pq,_,_,Sq,(G:es.length-(k+1)<es.length-k),k+1,B,B,B,n,by rw[N,H];exact ai⟩
   .have H:H4 l e=l:=by unfold H4;rw[hf];exact Bm k2
    exact⟨Pq,_,_,Sq,(G:es.length-(k+1)<es.length-k),k+1,B,B,B,n,by rw[N,H];exact (E.drop 2:aH b O [aG HZ Mx b.a l])⟩
 .have n:=KK n
  obtain rfl:k=LB es:=G;rw[CS] at s;have s:aH b q [aG HZ Mx b.a (QP es)]:=s;generalize QP es=l at s ag j P;obtain⟨_,u,bf,ay,az,aa⟩:TA HZ Mx q b.a l:=(s.2.1 0 _ B).1;have bg:LB u=LB l:=by have:=Cs HD aa;simpa using this
  have hl:=j.len;obtain⟨bh,aj,ak⟩:=s.cN (τ:=Ax) (t:=291) (kt:=90) (et:=3) Kq (i:=0) B (m:=b.a) (λx=>Iff.rfl) ay az;generalize bi:q.a=rI at ak aj;have a0:=ak.nl b.a 90 5;refine⟨_,_,aj,λC F D J=>∃(g:List Ap) (Q:Aa),F=[(9,Q),(41,AG rI 0)]/\D=[]/\C=LB u-LB g/\(g=[]->Q=.slice Z 0 0)/\aH b J [aS b.a 90 5 Q (LB g) (g.flatMap ZQ),Yu rI b.a u g],
   ⟨_,_,Sq,(G:u.length-0<L),[],_,B,B,B,λ_=>B,a0⟩,?_⟩
  rintro C F D bj ⟨g,Q,rfl,rfl,rfl,hz,s⟩ ax;refine s.cO (i:=1) B (λa2=>?_) (λe T bk a3 s=>?_)
  .have hp:=(s.it 1 B).all a2
   have o:=s.sl 0 B;obtain⟨K,r,q2⟩:=HH (λa=>(HZ a,Mx a)) (l:=g.map λe:Ap=>(e.key,e.val)) (m:=l) (by rw[←aa];exact hp.map _);have al:LB K=LB g:=by have:=Cs HD r;simpa using this.symm
   have a4:g.flatMap ZQ=K.flatMap BV:=by
    rw[(by rw[UM];rfl:g.flatMap ZQ=(g.map λe:Ap=>(e.key,e.val)).flatMap λp=>(AJ p.1).take 4++AJ p.2),r,UM];rfl
   rw[a4,←al] at o;obtain⟨p1,p2⟩:=Wb pn q2 ag;have bl:LB K=LB l:=q2.length_eq;refine⟨_,(QS pn (Cr:=BV) (k:=5) (d:=3) aw Kq Kq (λ_=>⟨B,B⟩) o B G p2 (λx _ y _=>ACb) d G).any,?_⟩;rintro _ am ⟨rfl,a5,a6⟩;have an:AA b am:=s.e.then a6 λi U=>o.ai i U
   have ao:(H0 Xd l).length=LB K:=by rw[←p1];exact(DO K).length_eq
   refine⟨?_,?_⟩
   .rw[←W] at an;exact an.C
   .rw[←(by rw[←W];rfl:b.a=h.a)]
    exact Y7 (Cr:=BV) (xs:=H0 Xd l) (λ_=>⟨B,B⟩) (by rw[ao,←p1];exact a5) λh0=>hz (BO (by rw[←al,←ao,h0];rfl))
  .obtain⟨m,hm,ap⟩:=dP.1 (show(e.key,e.val)∈l.map _ from aa▸Gn T)
   have ab:e.key=HZ m:=(Cs Eh ap).symm;have ad:e.val=Mx m:=(Cs fS ap).symm;have bm:LB g<LB u:=by
    have:=(s.it 1 B).len;rw[Aj,Br] at this;omega
   have aq:=QO (s.it 1 B);rw[ab,ad] at aq;rw[ab,ad];obtain⟨bn,a7,bo,a8,a9⟩:=s.var (τ:=Ax) (t:=90) (z:=.agg #[.string ⟨#[]⟩,.string ⟨#[]⟩,Vi 0,Vi 0,Vi 0]) Kq (v:=HZ m) B B B;obtain⟨ba,bb,ae⟩:=a9.sT 3 0 4 (Vi m.c) B (Ac B) B;obtain⟨bc,am,Y,bd⟩:=ae.bA 24 90 5 1 (BV m) ((g++[e]).length) ((g++[e]).flatMap ZQ) B ae.e.a G wl (by rw[E0,List.flatMap_singleton,(by unfold ZQ;rw[ab,ad];rfl:ZQ e=BV m)]);exact⟨_,_,Cs (CN _) aq,_,_,a7 _,_,a8,_,bb,_,EQ (k:=5) Kq ((ae.dD 0 B).cells:BK ba a3.a 0 (BV m)) B,_,_,i3 24 90 5 (.agg ⟨BV m⟩) _,_,_,Y,_,_,Sq,(by rw[Aj,Br];omega:u.length-(g++[e]).length<_),g++[e],bc,B,B,B,λh=>Cf h wl,bd.drop 1⟩
section
variable{P:AN} {τ:Bb} {w:AM}
def JU:AH->Nat->T Aa->T Aa
 |[],_,t=>t
 |v::l,i,t=>JU l (i+1) (bif aJ v then t.ins i v else t)
def SY:∀(l:AH) (i j:Nat) (t:T Aa),j<i->(JU l i t).get j=t.get j
 |[],_,_,_,_=>rfl
 |v::l,i,j,t,h=>by
  rw[JU,SY l (i+1) j _ G];cases aJ v with
  |false=>rfl
  |true=>rw[D1,T.M,Bm G]
def SN:∀(l:AH) (i k:Nat) (t:T Aa) {v:Aa},l[k]?=I v->aJ v=Ag->(JU l i t).get (i+k)=I v
 |[],_,_,_,_,h,_=>Jq
 |x::l,i,0,t,v,h,a=>by
  have e:x=v:=Jq
  subst e;show(JU l (i+1) _).get i=_;rw[SY l (i+1) i _ G,a,D1,T.M,Bi B]
 |x::l,i,k+1,t,v,h,a=>by
  rw[JU,show i+(k+1)=i+1+k by omega];exact SN l (i+1) k _ (by simpa using h) a
def SR:∀(l:AH) (i j:Nat) (t:T Aa) {v:Aa},(JU l i t).get j=I v->(∃k,j=i+k/\l[k]?=I v/\aJ v=Ag)\/t.get j=I v
 |[],_,_,_,_,h=>.inr h
 |x::l,i,j,t,v,h=>by
  rcases SR l (i+1) j _ h with⟨k,rfl,c,b⟩|h
  .exact .inl ⟨k+1,G,Jq,b⟩
  .cases a:aJ x with
   |false=>rw[a] at h;exact .inr h
   |true=>
    rw[a,D1,T.M] at h;by_cases e:j=i
    .rw[Bi e] at h
     exact .inl ⟨0,e,Jq,Jq⟩
    .rw[Bm e] at h;exact .inr h
def kB:Obj->HB
 |.cells C e a=>.cells (JU (aI C) 0 .nil) C.size e 0 (a.2+1) Ah
 |_=>.dead
def TF:List (Nat×CB)->T HB->T HB
 |[],t=>t
 |(g,b)::l,t=>(TF l t).ins g b.oB
def Q1:∀(l:List (Nat×CB)) (t:T HB) {i:Nat} {hb:HB},(TF l t).get i=I hb->(∃b,(i,b)∈l/\hb=b.oB)\/t.get i=I hb
 |[],_,_,_,h=>.inr h
 |(g,b)::l,t,i,hb,h=>by
  rw[TF,T.M] at h;split at h
  .rename_i e;subst e;cases h;exact .inl ⟨b,Av,B⟩
  .rcases Q1 l t h with⟨a,d,c⟩|h
   .exact .inl ⟨a,Az _ d,c⟩
   .exact .inr h
def Wc:∀(l:List (Nat×CB)) (t:T HB) {i:Nat} {b:CB},(i,b)∈l->∃a,(i,a)∈l/\(TF l t).get i=I a.oB
 |(g,b0)::l,t,i,b,h=>by
  by_cases e:i=g
  .subst e;exact⟨b0,Av,by rw[TF,T.M,Bi B]⟩
  .rcases bZ.1 h with h|h
   .cases h;exact Cf B e
   .let⟨a,h1,c⟩:=Wc l t h
    exact⟨a,Az _ h1,by rw[TF,T.M,Bm e];exact c⟩
def GB (a:List (Nat×CB)) (w:AM):Y:=⟨TF a (T.laid (w.heap.toList.map kB) 0 .nil),w.heap.size,.no⟩
def OV:(T.laid (w.heap.toList.map kB) 0 .nil).get i=(w.heap[i]?).map kB:=by
 rw[T.O,A4,EZ];by_cases h:i<w.heap.size
 .rw[Bi G,DL,AX,Is]
 .rw[Bm G,T.C,Dr G];rfl
def Pn {a:List (Nat×CB)} (c:H9 P w a) {b:CB} (d:(g,b)∈a):(GB a w).t.get g=I b.oB:=by
 let⟨j,h1,h⟩:=Wc a (T.laid (w.heap.toList.map kB) 0 .nil) d;obtain⟨vs,e,rfl,_,i⟩:=Io c d;obtain⟨k,l,rfl,_,f⟩:=Io c h1;rw[i] at f;cases f;exact h
def Abp {n:List (Nat×CB)} (q:H9 P w n) (r:τ.a<=w.heap.size):C5 P τ (Jr w.heap.size) (GB n w) w:=by
 refine⟨⟨λid o=>?_,λid pl hb e s=>?_,λid pl e=>?_,λi j D E U c d F H t=>?_,λg f=>?_⟩,r⟩
 .have o:w.heap.size<=id:=o
  simp only[Jr];rw[Bm G]
 .simp only[Jr] at e
  split at e
  case isFalse=>cases e
  rename_i f;cases e;rcases Q1 _ _ s with⟨b,u,rfl⟩|h
  .obtain⟨vs,e,rfl,x,y⟩:=Io q u
   have z:LR (Jr w.heap.size) vs vs:=LR.ak x;refine⟨⟨vs⟩,(0,0),y,Jq,λi U=>Jq,λi v a=>?_,.inl B,λ_=>⟨B,Jq⟩⟩;rw[Ev.T.O] at a;by_cases p:0<=i/\i<0+LB vs
   .rw[Bi p] at a
    let⟨v',h1,l⟩:=z.get a;exact⟨G,v',Jq,l⟩
   .rw[Bm p,Ev.T.C] at a;cases a
  .rw[OV,By f] at h
   cases h;cases A:w.heap[id] with
   |cells C e m=>
    refine⟨C,m,Jq,Jq,λi U=>Jq,λi v a=>?_,.inr (.inr ⟨Al _,.inr (Nat.succ_pos _),Jq⟩),λh=>Jq⟩;rcases SR _ _ _ _ a with⟨k,rfl,h1,l⟩|h
    .rw[Is] at h1
     rw[Ba] at a⊢;exact⟨(dM.1 h1).1,v,Jq,VR.C l⟩
    .cases h
   |_=>trivial
 .simp only[Jr] at e
  split at e
  case isFalse=>cases e
  cases e
  assumption
 .simp only[Jr] at c d
  split at c
  case isFalse=>cases c
  split at d
  case isFalse=>cases d
  cases c;cases d;simp only at t;omega
 .simp only[Jr];rw[Bi G]
def Ur {a:List (Nat×CB)} (n:H9 P w a) (D:∃x,w.shape? b=I x):
 b<(GB a w).a/\∃c m e lo U x,(GB a w).t.get b=I (.cells c m e lo U x)/\∀(k:Nat) (u:Aa),w.cell? ⟨b,k,Z⟩=I u->aJ u=Ag->c.get k=I u:=by
 let⟨x,d⟩:=D;unfold Jd at d;cases hb:w.heap[b]? with
 |none=>rw[hb] at d;cases d
 |some o=>
  have E:=(dM.1 hb).1;refine⟨E,?_⟩;rw[hb] at d;cases o with
  |cells C e H=>
   have q:∀{k:Nat} {u:Aa},w.cell? ⟨b,k,Z⟩=I u->C[k]?=I u:=λ{k u} h=>by
    unfold WX at h;simp only[hb] at h;exact h
   obtain⟨r,i⟩:∃r,(GB a w).t.get b=I r:=by
    by_cases g:∃y,(b,y)∈a
    .let⟨y,f⟩:=g;exact⟨_,Pn n f⟩
    .have B:∀(l:List (Nat×CB)) t,(∀y,(b,y)∉l)->(TF l t).get b=t.get b:=by
      intro l t
      induction l with
      |nil=>intro _;rfl
      |cons p l F=>
       intro s;rw[TF,T.M,Bm λe=>s p.2 Jq];exact F λy f=>s y (Az _ f)
     exact⟨_,(B a _ λy f=>g ⟨y,f⟩).trans (by rw[OV,hb];rfl)⟩
   rcases Q1 _ _ i with⟨y,g,rfl⟩|h
   .obtain⟨vs,K,rfl,_,z⟩:=Io n g
    rw[hb] at z;cases z;refine⟨_,_,_,_,_,_,i,λk u j A=>?_⟩;have v:=q j;rw[Db] at v;have L:=(cG.1 v).1;rw[T.O,Bi G,DL];exact v
   .rw[OV,hb] at h
    cases h;refine⟨_,_,_,_,_,_,i,λk u j A=>?_⟩;have v:=SN (aI C) 0 k .nil Jq A;rw[Ba] at v;exact v
  |_=>cases d
def Aad {b:List (Nat×CB)} (g:H9 P w b) {a:BD} (j:∃x,w.shape? a.block=I x) (l:LB xs=n*k) (o:n<=c) (d:∀i u,xs[i]?=I u->w.cell? ⟨a.block,a.off+i,Z⟩=I u/\aJ u=Ag):
 Rd (GB b w) (.slice (I a) n c) k n xs:=by
 let⟨h1,p,m,e,lo,U,x,q,r⟩:=Ur g j;refine⟨l,I a,c,B,o,(λh=>Jq),λa' s=>?_⟩;cases s;exact⟨h1,p,m,e,lo,U,x,q,λi u f=>r _ u (d i u f).1 (d i u f).2⟩
def Abf {a:BD} (d:a.spot=Z) (hb:a.block<w.heap.size):VR (Jr w.heap.size) (.slice (I a) n c) (.slice (I a) n c):=by
 let⟨b,off,sp⟩:=a;subst d;exact VR.slice (pl:=⟨b,0,0⟩) (by unfold Jr;rw[Bi hb]) λ_=>(Ba off).symm
open Classical in
def Yy (h:Y):Aa->Y->RR:=λv' J=>if v'=.bool Ag/\J.lo.C h.a=Ag then I [.flat 0 []] else Z
def Abx {l:Be} (p:C8 P τ l) {cd:DC} {a:AH} {ρ:Ren} (m:C5 P τ ρ h w) (q:LR ρ args a) (c:jX l (.func f) args h.ad λv J=>AA h.ad J/\v=.bool Ag)
 (r:P.funcs[f]?=I fn) (s:(fn.name== "runtime.NumGoroutine")=Ah) (hb:fn.body=I cd):CallsIn Fence.wide 0 P f ⟨a⟩ w λe w'=>e=.returned (.bool Ag)/\QR w w':=by
 let⟨t,u,_,_⟩:=c (Yy h) (λ_ _=>Z) (λ_=>True) λv J n=>by
  unfold Yy;rw[Bi ⟨n.2,n.1.C⟩];exact⟨_,B,Jq,λ_ _=>trivial⟩
 have G:Hk P (callFunc f ⟨a⟩) w (Ho P τ ρ w h.ad (Yy h) (λ_ _=>Z) t):=p (.func f) (.func f) args a h.ad _ _ _ ρ w m (.func f) q u;have x:(callFunc f ⟨a⟩).run P w=.ok (.enter f ⟨a⟩) w:=Go.Proofs.enters_of r s hb _ _;unfold Hk at G;rw[x] at G;refine CallsIn.mono G λy w' j=>?_;cases y with
 |outgrown=>exact j.elim
 |panicked M=>let⟨_,_,_,_,_,_,_,_,_,hb,_⟩:=j;cases hb
 |returned v'=>
  let⟨N,O,G,Q,z,R,A,k,S⟩:=j;unfold Yy at k;split at k
  case isFalse=>cases k
  rename_i d;obtain⟨rfl,C⟩:=d;have g:=A.a;have D:∀i pl',G.lo.has i->ρ i=I pl'->False:=λi pl' E o=>by
   rcases A8 i h.a with d|d
   .exact GO C d E
   .rw[m.1.fresh i d] at o;cases o
  cases z;exact⟨B,g.size,λb hb=>g.O b hb λF H K L=>(D F H K L).elim,g.os,g.out,g.tape⟩
end
abbrev ir:=List (Nat×(Be->AH->Y->Jl))
variable{o:ir}
def Xj (a:ir) (b:List (Nat×Nat)):A9:={
 a:=λf=>Mv f (a++[(126,IA Ax 109),(164,IA Ax 90)])
 M:=λf=>Mv f b
 b:=λf=>Mv f [(275,λ_ h=>I h),(276,λ_ h=>I h)]
 hk:=λf=>Mv f [(248,jd 4 (HG 5 64 65 1))]
 c:=λf=>Mv f [(275,fX f275),(276,fX f276)]}
def TW {f:Nat} (s:TJ prog Ax f e):MO prog Ax f (IA Ax e):=by
 obtain⟨n,q,rfl,a,b,c⟩:=s;exact⟨λo d args p h J v ρ w g i j k kp l m=>Ami Fi q a b c d g i j k kp l m⟩
def Ug {m:ir} {q:List (Nat×Nat)} (r:∀p∈m,MO prog Ax p.1 p.2):JX prog Ax (Xj m q):={
 a:=λf g b=>by
  rcases dF.1 (JH b) with h|_|⟨_,_|⟨_,h⟩⟩
  .exact(r _ h).go
  .exact(TW ui).go
  .exact(TW Ik).go
  .cases h
 b:=uK Fi λf g b=>by
  rcases(JH b) with _|⟨_,_|⟨_,h⟩⟩
  .exact⟨zP,B⟩
  .exact⟨T5,B⟩
  .cases h
 c:=λf g b=>by
  rcases(JH b) with _|⟨_,_|⟨_,h⟩⟩
  .have a:Ax.fn.get 275=I f275:=Kq
   exact λargs l v y h J ρ w hk d n j=>vp Fi a B B Jq (IT codeOk (Fi.fn _ _ a).1 B).2 args l v y h J ρ w hk d n j
  .have a:Ax.fn.get 276=I f276:=Kq
   exact λargs l v y h J ρ w hk d n j=>vp Fi a B B Jq (IT codeOk (Fi.fn _ _ a).1 B).2 args l v y h J ρ w hk d n j
  .cases h
 ex:=λf e s args l h J v ρ w hk d j=>nZ Fi (my f e s) hk d j
 cr:=λf fn c a hb=>IT codeOk (Fi.fn _ _ a).1 hb
 hk:=λf g b fn c a hb i x t k u=>by
  rcases(JH b) with _|⟨_,h⟩
  .unfold jd at k
   cases o:Am i 4 with
   |false=>rw[o] at k;cases k
   |true=>
    rw[o] at k;cases k;obtain rfl:=Af o;exact zZ Fi func248 Fd fn c t a hb u
  .cases h}
theorem tV {c:ir} {d:List (Nat×Nat)} (g:(c++[(126,IA Ax 109),(164,IA Ax 90)]).all (λp=>Nf.contains p.1)=Ag) (h:d.all (λp=>Nf.contains p.1)=Ag) (i:1125899906842624<=L):aF (Xj c d) L:=
 ⟨λf b=>⟨Kf λp a e=>Jq,
  Kf λp a e=>Jq,
  Kf λp a e=>by
   obtain rfl:=bQ.1 a;rw[←e] at b;cases b⟩,i⟩
def oG (n:Nat):C8 prog Ax (B8 Ax (Xj [] []) 1125899906842624 n):=JL Fi (Ug λ_ h=>Jq) (Va Fi _) (λ_ a=>J6 Fi a) _ n
instance Aeo:aF (Xj [] []) 1125899906842624:=tV B B (Ae _)
def rW:nT (Xj [] []):=⟨B,B,B,B⟩
def Alo:MO prog Ax 101 QB:=⟨λf g args j h J v ρ w a b c k kp l d=>by
 obtain⟨rfl,u,i,bs,rfl,hb,rfl⟩:=Air c;obtain⟨n,r,e⟩:=RC hb;exact uZ (oG 5) (zC rW ⟨B,B,B⟩ (show Rd (Y.ad _) _ _ _ _ from r) e) (Ae _) (Yo bs i) a b d⟩
def Alm:MO prog Ax 102 Ph:=⟨λf g args j h J v ρ w a b c k kp l d=>by
 obtain⟨rfl,u,i,bs,rfl,hb,rfl⟩:=Agz c;obtain⟨n,r,e⟩:=RC hb;exact uZ (oG 5) (ZJ rW ⟨B,B,B⟩ (show Rd (Y.ad _) _ _ _ _ from r) e) (Ae _) (Yp bs i) a b d⟩
def Ahg:MO prog Ax 170 (Oz UZ H6 9):=⟨λl m args n h J v ρ w c d e k kp g i=>by
 obtain⟨a,o,j,b⟩:∃a:Go.Shelf.Ren,Lays.n190 prog a/\a.f 190=170/\EV Ax 170=Ag:=⟨_,b7,B,Kq⟩;rw[←j] at b⊢;exact uR Fi (λ_=>⟨B,λh=>by cases h;rfl⟩) (λz=>mq z _) (λD=>AnyS.slices_Sort_string_none_alone o D) (λD=>AnyS.slices_Sort_string_alone o D) b c d e k kp g i⟩
def AhI:MO prog Ax 300 (Oz Vi (λz:List Int=>z.mergeSort λx y=>decide (x<=y)) 3):=⟨λl m args n h J v ρ w c d e k kp g i=>by
 obtain⟨a,o,j,b⟩:∃a:Go.Shelf.Ren,Lays.n189 prog a/\a.f 189=300/\EV Ax 300=Ag:=⟨_,sI,B,Kq⟩;rw[←j] at b⊢;exact uR Fi (λ_=>⟨B,λh=>by cases h;rfl⟩) (λz=>mq z _) (λD=>AnyS.slices_Sort_int_none_alone o D) (λD=>AnyS.slices_Sort_int_alone o D) b c d e k kp g i⟩
def lV:Be->AH->Y->Jl:=λ_ _ _=>Z
def lW:E2:=⟨[],[],[],.map (I 10),[.map dW 87]⟩
def fF (s:Bd) (v:Value):E2:=⟨[(0,Ft),(1,Fu)],[.string s],[],v,[]⟩
def pX {call:Be} {f:FuncId} {v:Value} {o:List EO} (i:C8 prog Ax call) (e:call (.func f) [.string s] gm (λv h=>some [.val v h]) (λ_ _=>none)=some o) (c:∀x∈o,∃J,x=.val v J/\AA gm J) (b:∀m,K9 m 6 v v=true):JZ prog Ax f (fF s v):=by
 refine Tm i e λu g d=>⟨[],?_⟩;let⟨J,e1,x⟩:=c _ d;cases e1;have q:g.lo.C (Ax.a+0)=true:=x.lo _ (Ae _) B;show(g.lo.C (Ax.a+0)&&true&&true&&K9 _ 6 v v&&true)=true;rw[q,b];rfl
def yH {call:Be} {f:FuncId} {v:Value} (c:C8 prog Ax call) (x:AA gm J) (e:∀k kp,call (.func f) [.string s] gm k kp=k v J) (b:∀m,K9 m 6 v v=true):JZ prog Ax f (fF s v):=pX c (e _ _) (λ_ a=>⟨J,bQ.1 a,x⟩) b
def yG {v:Value} (U:Ce h) (b:∀m,Qs m 6 v=some v):QG Ax (fF s v) [.string s] h=some (v,h):=by
 have e:QG Ax (fF s v) [.string s] h=(bif true&&(Gp (aI s.data) (aI s.data)&&true)&&true&&(AD 0 Ax.a&&Hv (De Ax.a []) Ft (h.t.get 0)&&(AD 1 Ax.a&&Hv (De Ax.a []) Fu (h.t.get 1)&&true)) then (match Qs (XC (Ax.a+0) 0 (De Ax.a []) h.a) 6 v,some ([]) with|some v,some bs=>some (v,⟨Nj bs h.a h.t,h.a+0,h.lo⟩)|_,_=>none) else none):=B
 rw[e,U.1,U.2.1,CJ.2 B,b];have c:(Ag&&(Ag&&Ag)&&Ag&&(AD 0 Ax.a&&Hv (De Ax.a []) Ft (I Ft.oB)&&(AD 1 Ax.a&&Hv (De Ax.a []) Fu (I Fu.oB)&&Ag)))=Ag:=Kq
 rfl
open Classical in
def iN (p:Bd->Prop) (F:Bd->Value):Be->AH->Y->Jl:=λ_ args h=>match args with
 |[.string s]=>if p s then QG Ax (fF s (F s)) args h else none
 |_=>none
def qg {p:Bd->Prop} {F:Bd->Value} {f:FuncId} (H:∀s,p s->JZ prog Ax f (fF s (F s))):MO prog Ax f (iN p F):=⟨λcall g args d h J v ρ w hk e a k kp b c=>by
 unfold iN at a;split at a
 ·split at a
  ·exact uS (H _ ‹_›) hk e a k kp b c
  ·cases a
 ·cases a⟩
open Classical in
def qh {f:FuncId} {p:Bd->Prop} {F:Bd->Value} (e:S.a f=some (iN p F)) (hp:p s) (U:Ce h) (hv:∀m,Qs m 6 (F s)=some (F s)):iB S L 1 f [.string s] h λw g=>w=F s:=by
 refine Lm e (λcall=>?_) ⟨AA.refl h,B⟩;show(if p s then QG Ax (fF s (F s)) [.string s] h else none)=_
 rw[if_pos hp];exact yG U hv
def ic:JX prog Ax lR:={
 a:=λf g d=>Jq
 b:=uK Fi λf g d=>Jq
 c:=λf g d=>Jq
 ex:=λf e m args i h J v ρ w hk k j=>nZ Fi (my f e m) hk k j
 cr:=λf fn c l hb=>IT codeOk (Fi.fn _ _ l).1 hb
 hk:=λf g d=>by cases d}
open Classical in
def ym (hs:aL s<=100000000):JZ prog Ax 61 (fF s (.bool (FH s))):=by
 obtain⟨w,J,⟨x,b,rfl⟩,e⟩:=ACv (S:=lR) (L:=1125899906842624) (h:=gm) (B:=⟨λ_ _=>⟨rfl,rfl,rfl⟩,Ae _⟩) (λ_ _ _=>rfl) ⟨rfl,rfl⟩ ⟨Kq,Kq,Ac Kq⟩ hs 2 (Ae _);have hb:FH s=b:=by
  unfold FH;cases b with
  |true=>exact decide_eq_true ⟨J,x,e⟩
  |
   false=>
   refine decide_eq_false λ⟨h2,_,e2⟩=>?_;have:=(e (λv h=>some [.val v h]) (λ_ _=>none)).symm.trans (e2 _ _);cases this
 rw[hb];exact yH (JL Fi ic (Va Fi _) (λ_ hc=>J6 Fi hc) _ 2) x e λ_=>by cases b<;>rfl
def yn:Be->AH->Y->Jl:=iN (λs=>aL s<=100000000) λs=>.bool (FH s)
def jG:Be->AH->Y->Jl:=iN (λs=>aL s<=1000) λs=>.string (d6 s)
abbrev fW (g9 g41:Be->AH->Y->Jl):A9:=Xj [(5,g9),(101,QB),(102,Ph),(170,Oz UZ H6 9),(300,Oz Vi (λz:List Int=>z.mergeSort λx y=>decide (x<=y)) 3),(345,IA Ax 321),(61,yn),(157,g41),(249,Vh Ax [lW])] [(74,90),(270,321)]
section
variable{g9:Be->AH->Y->Jl}
def vz {a:Be->AH->Y->Jl} (H:MO prog Ax 5 g9) (d:MO prog Ax 157 a) (c:MO prog Ax 249 (Vh Ax [lW])):JX prog Ax (fW g9 a):=Ug λp b=>by
 rcases b with _|⟨_,_|⟨_,_|⟨_,_|⟨_,_|⟨_,_|⟨_,_|⟨_,_|⟨_,_|⟨_,b⟩⟩⟩⟩⟩⟩⟩⟩⟩
 ·exact H
 ·exact Alo
 ·exact Alm
 ·exact Ahg
 ·exact AhI
 ·exact TW S6
 ·exact qg λ_=>ym
 ·exact d
 ·exact c
 ·cases b
theorem Aet {g41:Be->AH->Y->Jl} (c:1125899906842624<=L):Sy (fW g9 g41) L:=
 have a:=tV B B c
 {plain:=a.plain,a:=a.a,uint:=B,text:=B
  cy:=λhb M hl=>ABp B B B B hb M hl
  b7:=λo b=>zy B o b
  cc:=λo b d=>wt o b d
  valid:=λe f n b=>qh (F:=λs=>.bool (FH s)) B f e (λ_=>B) n G
  cw:=λg b=>(wy B B B B g b).mono λw J ⟨x,C3,o,hl,h⟩=>Jq
  cB:=B}
theorem pZ {g41:Be->AH->Y->Jl} (hL:1125899906842624<=L):eP (fW g9 g41) L:={Aet hL with form:=Lm rfl (λcall=>Kq) ⟨rfl,rfl⟩}
def ST {a:Be->AH->Y->Jl}:MD (fW g9 a):=⟨B,B,B⟩
def qi {f:FuncId}:MO prog Ax f lV:=⟨λ_ _ _ _ _ _ _ _ _ _ _ a=>Jq⟩
end
def DA (o:ir):Be:=QJ Ax (Xj o [(74,90)]) 1000000 200
abbrev Mk:=JZ prog Ax
def E6:∀p∈([]:ir),MO prog Ax p.1 p.2:=λ_ h=>Jq
def Agk {g:Be->AH->Y->Jl} (h:MO prog Ax f g) (b:∀p∈o,MO prog Ax p.1 p.2):∀p∈(f,g)::o,MO prog Ax p.1 p.2:=λp a=>by
 cases a with
 |head=>exact h
 |tail _ a=>exact b p a
def EB {l:List E2} (h:∀M∈l,Mk f M) (a:∀p∈o,MO prog Ax p.1 p.2):∀p∈(f,Vh Ax l)::o,MO prog Ax p.1 p.2:=Agk (QY h) a
def K4 {M:E2} (a:∀p∈o,MO prog Ax p.1 p.2) (b:Ue Ax (DA o) f M=true:=by kernel_rfl):Mk f M:=Ahy (uL Fi (Ug a) _ _) b
def qj:MO prog Ax 249 (Vh Ax [lW]):=QY (ES (K4 E6) Ht)
def lO (f:aL s<=1000):Mk 157 (fF s (.string (d6 s)))/\(d6 s).size<=10000:=by
 have z:eP (fW lV lV) 1125899906842624:=pZ (Ae _)
 obtain⟨o,e,a,b⟩:=wZ (S:=fW lV lV) (L:=1125899906842624) (λ_=>B) ⟨B,B⟩ ⟨Kq,Kq,Ac Kq⟩ f 7 (Ae _) (λv h=>I [.val v h]) (λ_ _=>Z) (λx=>(d6 s).size<=10000/\∃J,x=.val (.string (d6 s)) J/\AA gm J) λv J ⟨x,e,z⟩=>⟨_,B,Jq,λy c=>⟨z,J,e▸bQ.1 c,x⟩⟩;refine⟨pX (JL Fi (vz qi qi qj) (Va Fi _) (λ_ g=>J6 Fi g) _ 7) e (λx d=>(b x d).2) λ_=>CJ.2 B,?_⟩;cases o with
 |nil=>exact (a B).elim
 |cons x _=>exact (b x Jq).1
def yi:MO prog Ax 157 jG:=qg λ_ a=>(lO a).1
theorem yj {g9:Be->AH->Y->Jl} (hL:1125899906842624<=L):eO (fW g9 jG) L:={pZ hL with full:=λU hs n hn=>((qh B hs U (λ_=>B)).mono λ_ _ h=>⟨h.1,h.2,(lO hs).2⟩) n hn}
end
section
variable{S:A9} {L:Nat} [aF S L]
variable {h J h0 h1 H:Y} {v fv nv pv cv ev lv u v':Value} {xs args vs ys:AH} {n b N i k e r j x m c q d a p t2 st sb mo ck lp rm b0 sz off:Nat} {t:TypeId} {f:FuncId} {fn:Func} {s:Bd} {bs:Bl} {ws:Bo} {W:Nat->Prop} {Q:Value->Y->Prop} {A:Option Addr} {z df day:Int} {ss:BZ} {τ:Bb}
def qw {c d:BU} {a b:Int} (e:0<b):Jo τ .rem t c d (Vi a) (Vi b)=I (Vi (a.tmod b)):=by
 refine NU ?_;show Hn (if b=0 then _ else _)=_
 rw[Bm G];rfl
def qu {a m:Int} (b:0<m/\m<=1000000000):Bk S L 1 32 [Vi a,Vi m] h λw J=>w=Vi (a%m)/\J=h:=
 Cn f32 λd e _=>by
  have c:=Int.tmod_lt_of_pos a b.1;have f:=Int.lt_tmod_of_pos a b.1;refine⟨_,qw b.1,Pq,_,qw b.1,?_,B⟩;show Vi ((a.tmod m+m).tmod m)=_;rw[Int.tmod_eq_emod_of_nonneg G,Int.add_emod_right,Int.tmod_def,qC]
def md {f:Nat} {fn:BC} (l:(f=26/\fn=f26/\st=44/\e=48/\k=2)\/(f=28/\fn=f28/\st=51/\e=4/\k=1)\/(f=43/\fn=f43/\st=73/\e=79/\k=5)) (r:Rd h v k n xs) (g:xs.all one=Ag) (j:n<=100000000):iB S L 1 f [v] h λw J=>AS J h.a e k w n xs:=by
 obtain⟨m,A,c,rfl,q,p,s⟩:=id r;cases A with
 |none=>
  obtain rfl:n=0:=Jq;obtain rfl:=BO (m.trans (Qg _));rcases l with⟨rfl,rfl,rfl,rfl,rfl⟩|⟨rfl,rfl,rfl,rfl,rfl⟩|⟨rfl,rfl,rfl,rfl,rfl⟩
  .exact Cn f26 λd b _=>⟨_,B,AA.refl _,AS.nil _ _ _ _⟩
  .exact Cn f28 λd b _=>⟨_,B,AA.refl _,AS.nil _ _ _ _⟩
  .exact Cn f43 λd b _=>⟨_,B,AA.refl _,AS.nil _ _ _ _⟩
 |some a=>
  rcases l with⟨rfl,rfl,rfl,rfl,rfl⟩|⟨rfl,rfl,rfl,rfl,rfl⟩|⟨rfl,rfl,rfl,rfl,rfl⟩
  .obtain⟨t,J,i,x,o⟩:=Tl Kq r g j
   exact Cn f26 λd b _=>⟨_,B,_,_,B,_,_,i,x,o⟩
  .obtain⟨t,J,i,x,o⟩:=Tl Kq r g j
   exact Cn f28 λd b _=>⟨_,B,_,_,B,_,_,i,x,o⟩
  .obtain⟨t,J,i,x,o⟩:=Tl Kq r g j
   exact Cn f43 λd b _=>⟨_,B,_,_,B,_,_,i,x,o⟩
def aH.zaa {t K:Nat} (f:ZX Ax t K=Ag) {l:List Ct} (s:aH h0 h l) (c:l[i]?=I (aO b e xs)) (d:LB vs=K) (a:LB xs=K) (j:vs.all one=Ag):
 ∃J,BA Ax t h.ad b 0 (n_ ⟨vs⟩)=I J/\aH h0 (h.M J) (l.set i (aO b e vs)):=by
 obtain⟨J,g,o,u⟩:=aQ.bD (h:=h.ad) (i:=0) f (s.dD _ c) d G j;have:=JB vs [] xs (d.trans a.symm);simp only[IW,fA] at this;rw[this] at o;exact⟨J,g,s.aZ _ c u.O o λx a=>.inl a⟩
abbrev bX (V:Cb) (i:Nat):BI:=V.ns.getD i DS
def ZbA:List BI->Int->Int->Prop
 |[],a,b=>a=b
 |n::l,a,b=>n.f=a/\ZbA l n.t b
def ZbC {l m:List BI} {a b:Int}:ZbA (l++m) a b↔∃c,ZbA l a c/\ZbA m c b:=by
 induction l generalizing a<;>grind[ZbA]
def ZbE {l:List BI} {a b:Int} (h:ZbA l a b) (w:∀n∈l,n.f<n.t):a<=b/\∀n∈l,a<=n.f/\n.t<=b:=by
 induction l generalizing a<;>grind[ZbA]
def ZbK {l:List BI} {a b:Int} (z:ZbA l a b) (h:k<LB l):ZbA (kU k l) a (j_ l k DS).f/\ZbA (k_ (k+1) l) (j_ l k DS).t b:=by
 induction l generalizing a k<;>cases k<;>grind[ZbA]
def ZbP {j:List BI} {a b:Int} (z:ZbA j a b) (h:0<LB j):(j_ j (LB j-1) DS).t=b:=by
 have y:=(ZbK z (k:=LB j-1) G).2;grind[ZbA]
def ZbH (l:List BI) (n:Nat) (s:Bo):Prop:=s.Pairwise (.<.)/\s[0]?=I 0/\n∈s/\∀b∈s,b<=n/\∀m∈l,(b:Int)<=m.f\/m.t<=b
def ZbI (j:List BI) (p k:Nat) (s:Bo):Prop:=s.Pairwise (.<.)/\(∀b∈s,(b:Int)<=(j_ j (k-1) DS).f/\∀m∈j,(b:Int)<=m.f\/m.t<=b)/\s[0]?=I p
def ZbJ {j:List BI} {a b:Int} {s:Bo} (z:ZbA j a b) (w:∀n∈j,n.f<n.t) (h:k+1<LB j) (q:ZbI j p (k+1) s):ZbI j p (k+2) s/\∀x:Nat,(j_ j (k+1) DS).f=x->1<=LB s->ZbI j p (k+2) (s++[x]):=by
 have e:(j_ j (k+1) DS).f=(j_ j k DS).t:=by have y:=(ZbK z (k:=k) G).2;rw[Di h] at y;grind[ZbA]
 have f:=ZbK z h;have g:=ZbE f.1 Jq;have i:=ZbE f.2 Jq;have c:∀n∈j,n.t<=(j_ j (k+1) DS).f\/(j_ j (k+1) DS).f<=n.f:=by
  intro n m;have y:=w (j_ j (k+1) DS) Jq;rw[←FO (k+1) j,Di h] at m;grind
 grind[ZbI]
def ZbF {j:List BI} {s:Bo} (z:ZbA j 0 n) (w:∀n∈j,n.f<n.t) (h:0<LB j) (q:ZbI j 0 (LB j) s) (o:1<=LB s):ZbH j n (s++[n]):=by
 have e:=ZbP z h;have u:=w (j_ j (LB j-1) DS) Jq;have v:=ZbE z w
 grind[ZbH,ZbI]
def ZbL (l:Bo) (z:Int):Prop:=(∀a∈l,(a:Int)<=z)/\(z=-1\/∃a∈l,z=(a:Nat))
def ZbM {l:Bo} (p:l.Pairwise (.<.)) (h:0<LB l):ZbL l (j_ l (LB l-1) 0:Nat):=by
 grind[ZbL,F8,ra]
def ZbN {l s:Bo} {j:List BI} {n:Nat} {z:Int} (a:l.Pairwise (.<.)/\(∀b∈l,b<=n)/\∀x,l[0]?=I x->x=0) (x:∀m∈j,∀c∈l,(c:Int)<=m.f\/m.t<=c) (h:ZbH j n s) (k:ZbL l z):ZbH j n (l++s.filter λb:Nat=>decide (z<b)):=by
 cases l with
 |nil=>
  have:z=-1:=by grind[ZbL]
  rw[IW,List.filter_eq_self.2 λb _=>decide_eq_true G];grind[ZbH]
 |cons b l=>grind[ZbH,ZbL]
def ZbU {s:Bo} {b:Nat} (p:s.Pairwise (.<.)) (h:i<LB s) (m:b∈s.take (i+1)):b<=j_ s i 0:=by
 grind[F8,ra]
def ZbX {l:List BI} {s:Bo} (z:ZbH l n s):(∀i,i+1<LB s->j_ s i 0<j_ s (i+1) 0/\j_ s (i+1) 0<=n/\∀m∈l,(s.getD (i+1) 0:Int)<=m.f\/m.t<=(j_ s (i+1) 0:Nat))/\∀i,i+1=LB s->j_ s i 0=n:=by
 have:=List.pairwise_iff_getElem.1 z.1;refine⟨λi h=>?_,λi h=>?_⟩
 .have:=this i (i+1) G h G;have:=z.2.2.2 s[i+1] (Bu _);grind
 .obtain⟨j,k,e⟩:=ra.1 z.2.2.1;have:=z.2.2.2 s[i] (Bu _);grind
def ZbT (V:Cb) (l:Bo):Bd:=⟨⟨l.flatMap λi=>(bX V i).s.data.toList⟩⟩
def ZbO (V:Cb) (l:Bo) (b:Bd):Prop:=(∀i∈l,i<LB V.ns)/\LB l<=1000/\b=ZbT V l/\b.size<=1100000
def ZbR (V:Cb) (s:Bo) (i:Nat) (l:Bo):Prop:=ZbA (l.map (bX V)) (j_ s i 0:Nat) (j_ s (i+1) 0:Nat)
def ZbQ (V:Cb) (l:Bo) (T:Int) (i:Nat) (z:Int):Prop:=(∀c∈l,(c:Int)<=(bX V i).f\/(bX V i).t<=c)/\(z=-1->(bX V i).t=T)
def ZbS (V:Cb) (F T:Int) (s l:Bo):Prop:=ZbA (l.map (bX V)) F T/\∀m∈l.map (bX V),∀c∈s,(c:Int)<=m.f\/m.t<=c
structure dA where
 c:Aa
 nl:Bo
 d:Int
 b:Bd
 e:Aa
 cs:List Eu
 C:Nat
def dA.M (p:dA):AH:=[p.c,Vi p.d,Sg p.b,p.e,Vi p.C]
structure dJ where
 d:Nat
 l:Nat
 c:Aa
 day:Int
 f:Aa
 b:Bo
 g:Aa
 e:AH
 pv:Aa
 ps:List dA
 a:Nat
def dJ.M (X:dJ):AH:=[AG X.d 0,AG X.l 0,X.c,Vi X.day,X.f,X.g,X.pv,Vi X.a]
def dO (h:Y) (W:Nat->Prop) (v:Aa) (k n:Nat) (xs:AH):Prop:=Rd h v k n xs/\∀i,BY v i->¬W i
def dO.app {W':Nat->Prop} (r:dO h W v k n xs) (c:B0 W h J) (b:∀i,W' i->W i\/h.a<=i):dO J W' v k n xs:=⟨r.1.O c r.2,λi a d=>(b i d).elim (r.2 i a) λh=>Cf (r.1.aw i a) (Nat.not_lt.2 h)⟩
def dO.O (r:dO h W v k n xs) (c:B0 W h J):dO J W v k n xs:=r.app c λ_=>.inl
def fu (r:Rd h v k n xs):one v=true:=by obtain⟨_,_,_,rfl,_⟩:=r;rfl
abbrev gG (h:Y) (W:Nat->Prop) (p:dA):Prop:=dO h W p.c 1 (LB p.nl) (Bn p.nl)/\dO h W p.e 2 (LB p.cs) (p.cs.flatMap ME)
def yW {p:dA} (K:gG h W p):p.M.all one=true:=by
 show(one p.c&&(Ag&&(Ag&&(one p.e&&Ag))))=Ag;rw[fu K.1.1,fu K.2.1];rfl
structure dJ.At (V:Cb) (W:Nat->Prop) (X:dJ) (h:Y):Prop where
 n:dO h W X.c 7 (LB V.ns) (V.ns.flatMap Bt)
 b:dO h W X.f 1 (LB X.b) (Bn X.b)
 f:dO h W X.g 1 (LB X.e) X.e
 p:∀p∈X.ps,gG h W p
def ZaA:Aa->Bool|.bool _=>Ag|_=>Ah
def ZaB {l:AH} (a:l.all ZaA=Ag):l.all one=Ag:=Jf.2 λv b=>by have:=Jf.1 a v b;cases v<;>first|rfl|cases this
def pK (V:Cb) (p:dA):Prop:=ZbO V p.nl p.b/\p.C<LB p.cs/\LB p.cs<=60/\(p.cs.map Eh).Nodup/\(p.cs.map Eh)[0]?=I p.b/\∀c∈p.cs,c.1.size<=1100000
structure dJ.O (V:Cb) (X:dJ):Prop where
 e:X.e.all ZaA=Ag
 b:LB X.b=LB X.ps+1/\LB X.e=LB X.ps/\LB X.ps<=3000
 a:X.a<LB X.ps
 z:ZbH [] (LB V.fs) X.b
 q:∀i p,X.ps[i]?=I p->ZbR V X.b i p.nl
 p:∀p∈X.ps,pK V p
def dJ.At.O {V:Cb} {X:dJ} (A:X.At V W h) (c:B0 W h J):X.At V W J:=⟨A.n.O c,A.b.O c,A.f.O c,λp a=>⟨(A.p p a).1.O c,(A.p p a).2.O c⟩⟩
def cY (V:Cb) (h0 h:Y) (c:Nat) (X:dJ):Prop:=aH h0 h [aO c 75 X.M,aS h0.a 79 5 X.pv (LB X.ps) (X.ps.flatMap dA.M)]/\X.At V (λi=>i=c\/BY X.pv i) h/\X.O V
section
variable{V:Cb} {X:dJ} {c k:Nat}
def cY.C (C:cY V h0 h c X) (x:AA h J):cY V h0 J c X:=⟨C.1.C x,C.2.1.O (x.O _),C.2.2⟩
def cY.cell (C:cY V h0 h c X) {v:Aa} (a:X.M[i]?=I v):aC h c i v:=C.1.q 0 _ B a
def cY.lit (C:cY V h0 h c X):∃b m,X.pv=sL b (LB X.ps) m:=(C.1.sl 1 B).lit (Ji (Al _) C.2.2.a)
def cY.O (C:cY V h0 h c X) (e:X.pv=sL b (LB X.ps) m) (d:k<LB X.ps):BK h b (0+(k:Int).toNat*5) X.ps[k].M:=by
 obtain⟨a,j,g,_,q⟩:=(C.1.sl 1 B).rd.el d;rw[e] at g;cases g;rw[flatK (f:=dA.M) (λ_=>B) X.ps (Ab d)] at q;exact q
def mc (l:List Eu):(jL ME l).all one=true:=Jf.2 λv a=>by
 let⟨n,_,a⟩:=iq.1 a;exact Jf.1 B v a
def yV (C:cY V h0 h c X):Bk S L 1 13 [AG c 0] h λw J=>w=Vi X.a/\J=h:=
 Cn f13 λd b _=>⟨_,B,_,ld B (C.cell B),B,B⟩
def yU (C:cY V h0 h c X):iB S L 2 12 [AG c 0] h λw J=>∃b f,w=n_ #[b,f]/\AS J h.a 3 1 b (LB X.b) (Bn X.b)/\AS J h.a 4 1 f (LB X.e) X.e:=
 Cn f12 λd y _=>by
  obtain⟨q,A,r⟩:=(aH.nil h).O (z:=n_ #[sN,sN]) Kq;have g:=C.C r.e;have H:=C.2.2.b;refine⟨_,_,A _,_,B,[],Kq,_,ld B (g.cell B),_,hV (Rd.C g.2.1.b.1 (AA.ad _)) G d G,?_⟩;rintro b D ⟨m,n⟩;have s:=g.C m.M;refine⟨m.C,_,ld B (s.cell B),_,md (.inr (.inl ⟨B,B,B,B,B⟩)) (Rd.C s.2.1.f.1 (AA.ad _)) (ZaB C.2.2.e) G d G,?_⟩;rintro f M ⟨u,o⟩;have E:=(r.cf m (a:=aS q.ad.a 3 1 b _ (Bn X.b)) n λi p=>by have:=n.ai i p;rwa[BF] at this).cf u (a:=aS (q.M D).ad.a 4 1 f _ X.e) o λi p=>by have:=o.ai i p;rwa[BF] at this
  obtain⟨N,F,j⟩:=E.zaa (i:=2) Kq B (vs:=[b,f]) B B (by show(one b&&(one f&&Ag))=Ag;rw[fu n.rd,fu o.rd];rfl);have v:=(j.sl 1 B).rd;have x:=(j.sl 0 B).rd;obtain⟨_,_,_,rfl,_⟩:=id v;obtain⟨_,_,_,rfl,_⟩:=id x;exact⟨u.C,_,F,_,EQ Kq (j.dD 2 B).cells B,j.e,_,_,B,(j.sl 1 B).mono (by rw[BF];exact r.e.a),(j.sl 0 B).mono (by rw[BF];exact(r.e.trans m.M).a)⟩
def qs (C:cY V h0 h c X) (a:k<LB X.ps):iB S L 2 10 [AG c 0,Vi k] h λw J=>∃u,w=C4 #[u,Vi X.ps[k].C]/\AS J h.a 48 2 u (LB X.ps[k].cs) (X.ps[k].cs.flatMap ME):=
 Cn f10 λd o _=>by
  obtain⟨b,m,e⟩:=C.lit;have l:=e▸C.cell (i:=6) B;have q:=C.O e a;have r:=C.2.1.p _ (Bu a);have v:=(C.2.2.p _ (Bu a)).2.2;refine⟨_,B,_,ld B l,Bz (λ_=>G) (λ_=>?_)⟩;refine⟨[],Kq,_,ld B l,G,_,ld B (q.at B),_,md (.inl ⟨B,B,B,B,B⟩) (Rd.C r.2.1 (AA.ad _)) (mc _) G d G,?_⟩;rintro u s ⟨f,t⟩;have n:=C.C f.M;have g:=e▸n.cell (i:=6) B;exact⟨f.C,_,ld B g,G,_,ld B ((n.O e a).at B),f.M,u,B,t.M⟩
end
section
variable{V:Cb} {X:dJ} {c k:Nat} {p:dA}
def qy {i:Type} {f:i->AH} {K:Nat} (c:∀a,LB (f a)=K) (l:List i) {a a':i} (d:l[k]?=I a) (e:j<K) (g:f a'=(f a).set j v):(jL f l).set (k*K+j) v=jL f (l.set k a'):=by
 obtain⟨b,rfl⟩:=cG.1 d;rw[List.set_eq_take_append_cons_drop (l:=l),Bi b]
 conv=>lhs;rw[(by rw[List.getElem_cons_drop,FO]:l=kU k l++l[k]::k_ (k+1) l)]
 have h:LB ((l.take k).flatMap f)=k*K:=by rw[HV c,Cg,N4 G]
 rw[E0,Dg,E0,Dg,Hj,Bm G,h,Ds,Hj,Bi Jq,g]
def AS.stM {t:Nat} (i:Gv Ax t=Ag) (o:AS h N e k (sL b n m) n xs) (l:j<LB xs) (y:one v=Ag):∃J,BA Ax t h b j v=I J/\AS J N e k (sL b n m) n (xs.set j v)/\Er b h J:=by
 obtain⟨h0,⟨a,_⟩|⟨x,c,f,a,p,q,r,s⟩⟩:=o
 .cases a
 cases a;have d:j<LB (xs++f):=Jq
 let⟨J,w,g,u⟩:=aQ.st i s d y;rw[Hj,Bi l] at g;exact⟨J,w,⟨Jq,.inr ⟨b,m,f,B,p,q,Jq,g⟩⟩,u⟩
def aH.stS {t:Nat} (c:Gv Ax t=Ag) {l:List Ct} (s:aH h0 h l) (a:l[i]?=I (aS N e k (sL b n m) n xs)) (d:j<LB xs) (p:one v=Ag):∃J,BA Ax t h b j v=I J/\aH h0 J (l.set i (aS N e k (sL b n m) n (xs.set j v)))/\Er b h J:=by
 let⟨J,f,o,u⟩:=AS.stM c (s.sl _ a) d p;exact⟨J,f,s.ah _ a u.O o λx g=>.inl g,u⟩
def aH.zac {t:Nat} (c:Gv Ax t=Ag) {l:List Ct} (s:aH h0 h l) (a:l[i]?=I (aS N e k (sL b n m) n xs)) (d:j<LB xs) (p:one v=Ag):∃J,BA Ax t h.ad b j v=I J/\aH h0 (h.M J) (l.set i (aS N e k (sL b n m) n (xs.set j v)))/\Er b h (h.M J):=by
 let⟨J,f,o,u⟩:=AS.stM (h:=h.ad) c (s.sl _ a) d p;exact⟨J,f,s.aZ _ a u.O o λx g=>.inl g,u.M⟩
def dJ.C (X:dJ) (p:dA) (n:Nat):dJ:={X with ps:=X.ps.set X.a {p with C:=n}}
def cY.zad (C:cY V h0 h c X) (e:X.pv=sL b (LB X.ps) m) (o:X.ps[X.a]?=I p) (x:n<LB p.cs)
 (s:aH h0 J [aO c 75 X.M,aS h0.a 79 5 X.pv (LB X.ps) ((X.ps.flatMap dA.M).set (X.a*5+4) (Vi n))]) (u:Er b h J):cY V h0 J c (X.C p n)/\B0 (λi=>i=c\/BY X.pv i) h J:=by
 have r:B0 (λi=>i=c\/BY X.pv i) h J:=u.O.mono λi y=>.inr (by rw[e];exact y);rw[qy (f:=dA.M) (a':={p with C:=n}) (λ_=>B) X.ps o xc B] at s
 have A:=C.2.1.O r;have O:=C.2.2;have z:=AZ o;have j:LB (X.C p n).ps=LB X.ps:=B4;refine⟨⟨?_,⟨A.n,A.b,A.f,λq d=>by rcases BT d with d|rfl<;>first|exact A.p q d|exact A.p p z⟩,⟨O.e,by rw[j];exact O.b,by rw[j];exact O.a,O.z,λi q d=>?_,λq d=>by rcases BT d with d|rfl<;>first|exact O.p q d|exact⟨(O.p p z).1,x,(O.p p z).2.2⟩⟩⟩,r⟩
 .show aH h0 J [aO c 75 X.M,aS h0.a 79 5 X.pv (LB (X.C p n).ps) _]
  rw[j];exact s
 .have D:(X.ps.set X.a {p with C:=n})[i]?=I q:=d
  rw[Iu] at D;split at D
  .rename_i e
   subst e;rw[Bi C.2.2.a] at D;cases D;exact O.q _ p o
  .exact O.q i q D
def cY.zae (C:cY V h0 h c X) (e:X.pv=sL b (LB X.ps) m) (a:X.ps[X.a]?=I p) (d:n<LB p.cs):∃J,BA Ax 3 h b (X.a*5+4) (Vi n)=I J/\cY V h0 J c (X.C p n)/\B0 (λi=>i=c\/BY X.pv i) h J:=by
 have g:X.a*5+4<LB (X.ps.flatMap dA.M):=by rw[HV (f:=dA.M) (λ_=>(B:_=5))];have:=C.2.2.a;omega
 have j:=e▸C.1;obtain⟨J,k,s,u⟩:=j.stS (t:=3) (i:=1) B B g (v:=Vi n) B;exact⟨J,k,C.zad e a d (by rw[e];exact s) u⟩
def cY.zaf (C:cY V h0 h c X) (e:X.pv=sL b (LB X.ps) m) (a:X.ps[X.a]?=I p) (d:n<LB p.cs):∃J,BA Ax 3 h.ad b (X.a*5+4) (Vi n)=I J/\cY V h0 (h.M J) c (X.C p n)/\B0 (λi=>i=c\/BY X.pv i) h (h.M J):=by
 have g:X.a*5+4<LB (X.ps.flatMap dA.M):=by rw[HV (f:=dA.M) (λ_=>(B:_=5))];have:=C.2.2.a;omega
 have j:=e▸C.1;obtain⟨J,k,s,u⟩:=j.zac (t:=3) (i:=1) B B g (v:=Vi n) B;exact⟨J,k,C.zad e a d (by rw[e];exact s) u⟩
def jN (C:cY V h0 h c X) (f:X.ps[X.a]?=I p):
 Bk S L 2 18 [AG c 0,Vi z] h λ_ J=>cY V h0 J c (X.C p (((p.C:Int)+z%(LB p.cs))%(LB p.cs)).toNat)/\B0 (λi=>i=c\/BY X.pv i) h J:=
 Cn f18 λd o _=>by
  obtain⟨b,m,e⟩:=C.lit;obtain⟨q,r⟩:=cG.1 f;have s:∀{H:Y},cY V h0 H c X->aC H c 6 (sL b (LB X.ps) m):=λC=>e▸C.cell B;have j:∀{H:Y},cY V h0 H c X->BK H b (0+(X.a:Int).toNat*5) p.M:=λC=>by have:=C.O e q;rw[r] at this;exact this
  obtain⟨t,u⟩:=(C.2.2.p p (AZ f)).2;obtain⟨v,w,x⟩:∃A c,p.e=PA A (LB p.cs) c:=by obtain⟨_,A,c,e,_⟩:=(C.2.1.p p (AZ f)).2.1;exact⟨A,c,e⟩
  have k:∀{H:Y},cY V h0 H c X->aC H b (0+(X.a:Int).toNat*5+3) (PA v (LB p.cs) w):=λC=>x▸(j C).at B;have a:=C.C (AT (AA.refl h));have l:=a.C (AT (AA.refl (nb h)));have R:=mj z (b:=LB p.cs) G;have y:=qZ z (b:=LB p.cs) G;have D:=mj ((p.C)+z%(LB p.cs)) (b:=LB p.cs) G;have E:=qZ ((p.C)+z%(LB p.cs)) (b:=LB p.cs) G;obtain⟨n,F⟩:=B9 D;have K:=s C;have M:=k a;refine⟨_,B,[],Kq,_,ld B K,_,ld B (C.cell B),G,[],Kq,_,ld B ((j a).at B),_,ld B M,_,qu G d G,?_⟩;rintro _ _ ⟨rfl,rfl⟩;have N:=k l;refine⟨B,Pq,_,ld B N,_,qu G d G,?_⟩;rintro _ _ ⟨rfl,rfl⟩;rw[F];obtain⟨J,O,P,Q⟩:=l.zaf e f (n:=n) G;exact⟨B,_,Jp O (by show 0+(X.a:Int).toNat*5+4=_;omega),P,((AT (AT (AA.refl h))).O _).trans Q⟩
def yZ (C:cY V h0 h c X):Bk S L 2 22 [AG c 0,Vi z] h λ_ J=>(∃a,cY V h0 J c a/\a.l=X.l/\a.d=X.d)/\B0 (λi=>i=c\/BY X.pv i) h J:=
 Cn f22 λd o _=>by
  obtain⟨b,m,e⟩:=C.lit;obtain⟨p,g⟩:∃p,X.ps[X.a]?=I p:=⟨_,Ab C.2.2.a⟩;obtain⟨r,s⟩:=cG.1 g;obtain⟨t,u,v⟩:∃A c,p.e=PA A (LB p.cs) c:=by obtain⟨_,A,c,e,_⟩:=(C.2.1.p p (AZ g)).2.1;exact⟨A,c,e⟩
  have f:=C.C (AT (AA.refl h));have q:BK (nb h) b (0+(X.a:Int).toNat*5) p.M:=by have:=f.O e r;rw[s] at this;exact this
  have w:=v▸q.at (i:=3) B;have j:(∃a,cY V h0 (nb h) c a/\a.l=X.l/\a.d=X.d)/\B0 (λi=>i=c\/BY X.pv i) h (nb h):=⟨⟨X,f,B,B⟩,(AT (AA.refl h)).O _⟩;have x:=e▸C.cell (i:=6) B;refine⟨_,B,[],Kq,_,ld B x,_,ld B (C.cell B),G,Bz (λ_=>j) (λF=>⟨_,ld B w,Bz (λ_=>j) (λH=>?_)⟩)⟩;obtain⟨n,rfl⟩:=B9 (show 0<=z by omega);obtain⟨J,y,D,E⟩:=f.zae e g (n:=n) G;exact⟨_,Jp y (by show 0+(X.a:Int).toNat*5+4=_;omega),⟨_,D,B,B⟩,j.2.trans E⟩
def yP (C:cY V h0 h c X):Bk S L 2 21 [AG c 0,Vi z] h λ_ J=>(∃f,cY V h0 J c {X with a:=f})/\B0 (λi=>i=c\/BY X.pv i) h J:=
 Cn f21 λd o _=>by
  obtain⟨b,m,e⟩:=C.lit;have H:=C.2.2.a;have K:=C.2.2.b;have a:fV .neg (Vi (LB X.ps))=I (Vi (-(LB X.ps))):=by
   show I (AL .i64 (IntKind.wrap .i64 (0-(LB X.ps))))=_;rw[FC (show eK .i64 (0-(LB X.ps)) from Pq),Int.zero_sub]
  have g:=e▸C.cell (i:=6) B;refine⟨_,B,[],Kq,_,ld B g,_,_,Cs (CN _) a,λM r=>⟨_,ld B g,λN w=>?_⟩⟩;refine⟨[],Kq,_,ld B (C.cell B),Pq,λO x=>⟨_,ld B g,Pq,λy D=>?_⟩⟩;obtain⟨f,rfl⟩:=B9 (show 0<=y by omega);obtain⟨J,E,s,u⟩:=C.1.cC (τ:=Ax) (t:=3) B (i:=0) B (v:=Vi f) (by show 7<8;decide) B;have k:B0 (λi=>i=c\/BY X.pv i) h (h.M J):=u.O.mono λi F=>.inl F;have A:=C.2.1.O k;exact⟨_,E,⟨f,s,⟨A.n,A.b,A.f,A.p⟩,C.2.2.e,C.2.2.b,by show f<LB X.ps;omega,C.2.2.z,C.2.2.q,C.2.2.p⟩,k⟩
def iK:Eu:=⟨⟨#[]⟩,0⟩
def ZbV (p:dA):Bd:=(p.cs.getD p.C iK).1
def yO (C:cY V h0 h c X):iB S L 2 9 [AG c 0] h λw J=>AS J h.a 9 1 w (LB X.ps) (AR (X.ps.map ZbV)):=
 Cn f9 λd H hL=>by
  obtain⟨b,m,e⟩:=C.lit;have hb:=C.2.2.b;have K:=(aH.nil h).add (a:=aS h.a 9 1 sN 0 (AR [])) (AA.refl _) (AS.nil _ _ _ _) λi M=>M.elim;have N:=e▸C.cell (i:=6) B;refine⟨_,B,_,ld B N,λt A l=>∃(k:Nat) (v:Aa),A=[(0,AG c 0),(3,v),(11,sL b (LB X.ps) m),(12,Vi (LB X.ps)),(13,Vi k)]/\k<=LB X.ps/\t=LB X.ps-k/\aH h l [aS h.a 9 1 v k (AR ((X.ps.take k).map ZbV))],
   ⟨_,_,Sq,G,0,_,B,Al _,B,K⟩,?_⟩
  rintro t A l ⟨k,v,rfl,hk,rfl,s⟩ O;refine Bz (λP=>?_) (λP=>?_);rotate_left
  .obtain rfl:k=LB X.ps:=G
   rw[CS] at s;exact⟨s.e,s.sl 0 B⟩
  have n:k<LB X.ps:=G;have q:=(C.C s.e).O e n;have Q:(X.ps.take (k+1)).map ZbV=(X.ps.take k).map ZbV++[ZbV X.ps[k]]:=by rw[A5 n,BS];rfl
  obtain⟨p,u⟩:∃p,p=X.ps[k]:=⟨_,B⟩;rw[←u] at q Q;have o:=u▸Bu _;obtain⟨g,_⟩:=(C.2.2.p p o).2;rw[show ZbV p=p.cs[p.C].1 by unfold ZbV;rw[Ak,Ab g];rfl] at Q;have Y:=(C.2.1.p p o).2.1;obtain⟨_,r,R,U,_⟩:=id (C.2.1.p p o).1.1;obtain⟨x,y,ec,_,D⟩:=Y.el g;rw[flatK (f:=ME) (λ_=>B) p.cs (Ab g)] at D;unfold dA.M at q;rw[U,ec] at q;obtain⟨g1,F,E,z,j⟩:=s.va 79 [sN,Vi 0,Sg ⟨#[]⟩,sN,Vi 0] [PA r (LB p.nl) R,Vi p.d,Sg p.b,PA (I x) (LB p.cs) y,Vi p.C];have o3:aC E l.a 3 (PA (I x) (LB p.cs) y):=j.q 0 _ B B;have Z:aC E l.a 4 (Vi p.C):=j.q 0 _ B B;obtain⟨v',J,T,W⟩:=j.ba Kq (i:=1) B (ys:=[Sg p.cs[p.C].1]) B B j.e.a G (xs':=AR ((X.ps.take (k+1)).map ZbV)) B (by rw[Q];simp[AR]);refine⟨G,_,EQ Kq q B,_,_,F _,_,z,_,ld B o3,_,ld B Z,G,_,ld B ((D.C j.e).at B),_,_,i3 40 _ 1 (Sg p.cs[p.C].1) _,_,_,T,Pq,_,_,Sq,G,k+1,_,B,G,B,W.drop 1⟩
end
section
variable{V:Cb} {k:Nat}
def fE (V:Cb) (l:Bo) (k:Nat):Prop:=∀j,j<k->j_ l j 0<LB V.ns/\(0<j->(bX V (j_ l (j-1) 0)).t=(bX V (j_ l j 0)).f)
def fE.mem {l:Bo} (c:fE V l (LB l)):∀i∈l,i<LB V.ns:=λi b=>by
 obtain⟨j,a,rfl⟩:=ra.1 b;have:=(c j a).1
 rwa [Ak,Ab a] at this
def ZbD {l:Bo} {a b:Int} (c:ZbA (l.map (bX V)) a b) (r:∀i∈l,i<LB V.ns):fE V l (LB l):=by
 induction l generalizing a with
 |nil=>exact λj h=>by cases h
 |cons i l e=>
  rintro (_|j) h
  .exact⟨r i (Av ..),λh=>by cases h⟩
  have q:=e c.2 (λi m=>r i (Az _ m)) j (Nat.lt_of_succ_lt_succ h);refine⟨q.1,λ_=>?_⟩;cases j with
  |zero=>
   cases l with
   |nil=>exact Cf h wl
   |cons=>exact c.2.1.symm
  |succ j=>exact q.2 (Nat.succ_pos _)
def yF (a:i<LB V.ns):V.M (i:Int)=I (bX V i):=by
 unfold Cb.M bX;rw[Bi G,show((i:Int)).toNat=i from B,Ak,Ab a];rfl
def fM (a:LB V.ns<=i):V.M (i:Int)=none:=by
 unfold Cb.M;rw[Bi G,show((i:Int)).toNat=i from B,CD a]
def ig (b:V.O) (a:i<LB V.ns):tD (LB V.fs) (bX V i):=by
 refine b.3.2 _ ?_;unfold bX;rw[Ak,Ab a];exact Bu a
def jJ (V:Cb) (h:Y) (N:Nat) (u:Aa) (l:Bo):Prop:=dO h (.<N) u 1 (LB l) (Bn l)/\LB l<=1000/\∀i∈l,i<LB V.ns
def Gc.live (o:Gc h N v bs) (a:BY v i):∃b,h.t.get i=I b/\b.live=true:=by
 rcases o with⟨rfl,_⟩|⟨d,c,e,x,rfl,_,_,_,_,q,_⟩
 .exact a.elim
 .cases a;exact⟨_,q,B⟩
def qf (A:EI h lp V) (R:V.O) {l:Bo} (r:Rd h v 1 (LB l) (Bn l)) (hl:LB l<=1000) {a b:Int}:
 iB S L 7 133 [AG lp 0,v,Vi a,Vi b] h λw J=>∃(u:Aa) (c:Int) (t:Bd) (y:Bool) (l':Bo),w=C4 #[n_ #[u,Vi c,Sg t],CU y]/\jJ V J h.a u l'/\(y=Ag->l'=l/\0<LB l/\fE V l (LB l)/\t=ZbT V l/\t.size<=1100000)/\(y=Ah->0<LB l->¬fE V l l.length):=
 Cn f133 λd hd' hL=>by
  obtain⟨A0,c0,rfl⟩:∃A c,v=PA A (LB l) c:=by obtain⟨_,A,c,e,_⟩:=r;exact⟨A,c,e⟩
  obtain⟨g1,y1,U⟩:=(aH.nil h).O (z:=n_ #[sN,Vi 0,Sg ⟨#[]⟩]) Kq;obtain⟨D,hob⟩:∃b,b=h.a:=⟨_,B⟩;rw[←hob] at y1 U;have E:∀{H:Y} {l':List Ct} {i:Nat},aH h H l'->l'[i]?=I (aO D 77 [sN,Vi 0,Sg ⟨#[]⟩])->(0<LB l->¬fE V l (LB l))->∃J,BA Ax 77 H D 0 (n_ ⟨[sN,Vi 0,Sg ⟨#[]⟩]⟩)=I J/\∃v,Bw Ax 77 J D 0=I v/\AA h J/\∃(u:Aa) (c:Int) (t:Bd) (y:Bool) (l':Bo),C4 #[v,CU Ah]=C4 #[n_ #[u,Vi c,Sg t],CU y]/\jJ V J h.a u l'/\(y=Ag->l'=l/\0<LB l/\fE V l (LB l)/\t=ZbT V l/\t.size<=1100000)/\(y=Ah->0<LB l->¬fE V l (LB l)):=λs g bad=>by
   obtain⟨J,e,s'⟩:=s.cu Kq g (vs:=[sN,Vi 0,Sg ⟨#[]⟩]) B B B;have o:=s'.dD _ (O4 (cG.1 g).1);exact⟨J,e,_,EQ Kq o.cells B,s'.e,sN,0,⟨#[]⟩,Ah,[],B,⟨⟨(AS.nil J 0 3 1).rd,λ_ h=>h.elim⟩,Al _,λ_ h=>by cases h⟩,(λh=>by cases h),λ_=>bad⟩
  refine⟨_,_,y1 _,Bz (λk1=>E U (i:=0) B λ_=>G) (λk1=>?_)⟩;obtain⟨g2,y2,s2⟩:=U.a3;obtain⟨bb,hbb⟩:∃b,b=g1.a:=⟨_,B⟩;rw[←hbb] at y2 s2;obtain⟨M,c',e9,_,q⟩:=r.at_ (d_ λh=>k1 G);cases e9;have q:∀{H:Y} {j:Nat},AA h H->j<LB l->aC H M.block (M.off+j) (Vi (l.getD j 0)):=λx T=>(q _ _ (GH T)).C x
  let F:Int->Int->Nat->As:=λc e k=>[(0,AG lp 0),(1,PA (I M) (LB l) c0),(2,Vi a),(3,Vi b),(8,AG D 0),(10,AG bb 0),(11,Vi c),(12,Vi e),(21,PA (I M) (LB l) c0),(22,Vi (LB l)),(23,Vi k)]
  let Ix:Nat->As->Y->Prop:=λμ A' Z=>∃(k:Nat) (c e:Int) (bv:Aa) (bs:Bl),A'=F c e k/\k<=LB l/\μ=LB l-k/\(-(70000*k)<=c/\c<=70000*k)/\LB bs<=256*k/\bs=jL (λi=>(bX V i).s.data.toList) (l.take k)/\fE V l k/\(0<k->e=(bX V (j_ l (k-1) 0)).t)/\aH h Z [RK h.a bb bv bs,aO D 77 [sN,Vi 0,Sg ⟨#[]⟩]]
  refine⟨_,_,y2 _,Ix,⟨_,_,Sq,G,0,0,0,_,[],B,Al _,B,⟨by decide,by decide⟩,Al _,B,(λj T=>Cf T (F5 _)),(λh=>Cf h (W7 0)),s2⟩,?_⟩;rintro μ A' Z ⟨k,c,e,bv,bs,rfl,hk,rfl,hc,hb,ht,hn,he,s⟩ hLt;refine Bz (λk2=>?_) (λk2=>?_);rotate_left
  .obtain rfl:k=LB l:=G
   have X:=s.e.trans (AA.ad Z);refine⟨[.w 13],Kq,_,hV (r.C X) G d G,?_⟩;rintro u h3 ⟨x3,o3⟩;obtain⟨_,A1,c1,rfl,_⟩:=id o3.rd;have s3:=s.cf x3 (a:=aS Z.ad.a 3 1 (PA A1 (LB l) c1) (LB l) (Bn l)) o3 o3.ai;have lr:=Cb.bV R (l.getD (LB l-1) 0) b;have q3:=q s3.e (j:=LB l-1) G;refine⟨x3.C,Pq,G,_,Dz (ld B q3) xU,_,lA (A.C (s3.e.trans (AA.ad _))) d G,?_⟩;rintro _ h4 ⟨x4,rfl⟩;have s4:=s3.bz x4;have W:=s4.M 1 B;refine⟨x4.C,Pq,_,gg (W.C (AA.ad _)) G d G,?_⟩;rintro _ h5 ⟨rfl,c5⟩;have p:=s4.aZ 1 B (c5.mono λi g=>.inr g) (a':=aS 0 3 1 sN 0 []) (AS.nil _ _ _ _) (λx hx=>hx.elim);obtain⟨h6,y6,m⟩:=p.zaa (i:=2) Kq B (vs:=[PA A1 (LB l) c1,Vi (c+V.leave (l.getD (LB l-1) 0) b),Sg ⟨⟨bs⟩⟩]) B B B;have l6:=m.sl 0 B;have n1:=s.e.a;exact⟨c5.O λi g=>.inl (W.o.live g),_,y6,_,EQ Kq (m.dD 2 B).cells B,m.e,_,_,_,Ag,l,B,⟨⟨l6.rd,λi g hw=>by have:=l6.ai i g;rw[BF] at this;omega⟩,hl,hn.mem⟩,(λ_=>⟨B,G,hn,by rw[ht,CS];rfl,by show bs.length<=_;omega⟩),λh=>by cases h⟩
  have N:k<LB l:=G;obtain⟨i,g⟩:∃i,i=j_ l k 0:=⟨_,B⟩;have q1:=q s.e N;rw[←g] at q1;refine⟨G,_,Dz (ld B q1) xU,_,iE (A.C s.e) d G,?_⟩;rintro _ h1 ⟨x1,rfl⟩;obtain⟨g4,y4,g5,y5,p⟩:=(s.C x1).va 109 (Bt DS) (Bt ((V.M i).getD DS));refine⟨_,_,y4 _,_,y5,_,_,B,?_⟩;cases hq:V.M i with
  |none=>exact E p (i:=2) B λ_ c=>by have:=(c k N).1;rw[←g] at this;rw[yF this] at hq;cases hq
  |some n=>
  rw[hq] at p;have O:i<LB V.ns:=by
   rcases A8 i (LB V.ns) with h|h
   .exact h
   .rw[fM h] at hq;cases hq
  obtain rfl:bX V i=n:=by rw[yF O] at hq;exact I.inj hq
  obtain⟨⟨nf,_⟩,⟨nt,_⟩,nc,ns⟩:=ig R O;have P:=A.C p.e;have K:(0<k->(bX V i).f=e)->fE V l (k+1):=λh9 j T=>by
   rcases qB.1 T with h|rfl
   .exact hn j h
   .rw[←g];exact⟨O,λh=>by rw[h9 h];exact(he h).symm⟩
  have ns:LB (bX V i).s.data.toList<=256:=by rw[EZ];exact ns
  have HT:bs++(bX V i).s.data.toList=jL (λi=>(bX V i).s.data.toList) (l.take (k+1)):=by rw[A5 N,E0,ht,g,Ak,Ab N];simp
  refine Bz (λk3=>?_) (λk3=>?_)
  .refine⟨_,ld B (p.q 0 _ B B),Ad (λk9=>E p (i:=2) B λ_ c=>by have q:=(c k N).2 G;rw[←g] at q;exact Cf (show(bX V i).f=e by rw[he G,q]) (by simpa using k9)) (λk4=>Bz (λk=>G) (λ_=>?_))⟩
   have k5:(bX V i).f=e:=by simpa using k4
   have er:=Cb.aR R P (l.getD (k-1) 0) i;have q2:=q p.e (j:=k-1) G;refine⟨Pq,G,_,Dz (ld B q2) xU,_,jD P R d G,?_⟩;rintro _ h6 ⟨x6,rfl⟩;have m:=p.C x6;have Q:aQ h6 h1.a 109 (Bt (bX V i)):=m.dD 0 B;refine⟨Pq,_,ld B (Q.cell B),Pq,_,ld B (Q.cell B),_,ld B (Q.cell B),_,eQ (m.M 1 B) m.e.a G d G,?_⟩;rintro w h7 wr;obtain⟨v',s7⟩:=m.bf 1 B wr;exact⟨Pq,_,_,Sq,G,k+1,_,_,v',_,B,N,B,Pq,by rw[Aj];omega,HT,K λ_=>k5,λ_=>by show _=(bX V (l.getD k 0)).t;rw[←g],s7.drop 1⟩
  .refine Bz (λ_=>?_) (λh=>G)
   obtain rfl:k=0:=G;have er:=Cb.bm R a i;refine⟨_,hU P d G,?_⟩;rintro _ h6 ⟨x6,rfl⟩;have m:=p.C x6;have Q:aQ h6 h1.a 109 (Bt (bX V i)):=m.dD 0 B;refine⟨_,ld B (Q.cell B),Pq,_,ld B (Q.cell B),_,ld B (Q.cell B),_,eQ (m.M 1 B) m.e.a G d G,?_⟩;rintro w h7 wr;obtain⟨v',s7⟩:=m.bf 1 B wr;exact⟨Pq,_,_,Sq,G,0+1,_,_,v',_,B,N,B,Pq,by rw[Aj];omega,HT,K λh=>Cf h (W7 0),λ_=>by show _=(bX V (j_ l 0 0)).t;rw[←g],s7.drop 1⟩
end
section
variable{V:Cb} {k:Nat}
structure co where
 a:Int
 d:Int
 ok:Bool
def co.M (r:co):AH:=[Vi r.a,Vi r.d,CU r.ok]
def eC:co:=⟨0,0,Ah⟩
def iL (a:V.O) {i:Int} (h:j∈V.from_ i):j<LB V.ns/\(bX V j).f=i:=by
 unfold Cb.from_ at h;split at h
 .rename_i h0
  rw[Ak] at h;cases hl:V.fs[i.toNat]? with
  |none=>rw[hl] at h;cases h
  |some l=>
   rw[hl,EN,a.at_ _ l hl] at h;let⟨h1,b⟩:=List.mem_filter.1 h;exact⟨List.mem_range.1 h1,Jq⟩
 .cases h
def qe {r:co}:iB S L 1 217 [n_ ⟨r.M⟩,Vi z] h λw J=>∃b,w=CU b:=
 Cn f217 λd c _=>by
  let⟨g,y,s⟩:=(aH.nil h).box Ax 238 (n_ ⟨r.M⟩);have o:=s.dD 0 B;exact⟨_,_,y,_,ld B (o.cell B),_,_,B,Ad (λ_=>⟨s.e,_,B⟩) (λ_=>⟨_,ld B (o.cell B),s.e,_,B⟩)⟩
def yE (A:EI h lp V) {a j:Int} (f:aC h c 0 (AG lp 0)) (g:aC h e 0 (Vi a)):iB S L 6 131 [Vi j,AG c 0,AG e 0] h λw J=>w=Vi (V.enter a j):=
 Cn f131 λd i _=>⟨_,ld B f,_,ld B g,_,hU A d G,λ_ _ h=>h⟩
structure fD (V:Cb) (h:Y) (lp x:Nat) (rs:List co):Prop where
 A:EI h lp V
 l:aC h x 0 (AG lp 0)
 n:∃nv,aC h x 1 nv/\Rd h nv 7 (LB V.ns) (V.ns.flatMap Bt)
 r:∃b c,aC h x 2 (sL b (LB V.ns) c)/\Rd h (sL b (LB V.ns) c) 3 (LB V.ns) (jL co.M rs)
 len:LB rs=LB V.ns
def fD.C {a:List co} (s:fD V h lp x a) (e:AA h J):fD V J lp x a:=
 ⟨s.A.C e,s.l.C e,s.n.imp λ_ h=>⟨h.1.C e,h.2.C e⟩,s.r.imp λ_ h=>h.imp λ_ h=>⟨h.1.C e,h.2.C e⟩,s.len⟩
def fD.at_ {d:List co} (s:fD V h lp x d) (g:j<LB V.ns):∃b c q,d[j]?=I q/\∀{H},AA h H->aC H x 2 (sL b (LB V.ns) c)/\BK H b (0+(j:Int).toNat*3) q.M:=by
 obtain⟨b,c,m,k⟩:=s.r;obtain⟨a,l,e,_,q⟩:=k.el g;cases e;have i:=Ab (show j<LB d by rw[s.len];exact g);rw[flatK (f:=co.M) (λ_=>B) d i] at q;exact⟨b,c,_,i,λx=>⟨m.C x,q.C x⟩⟩
def ie (V:Cb) (a:List co) (i:Int) (r:co):Prop:=r.ok=Ag->∃(j:Nat) (q:co),r.a=j/\a[j]?=I q/\q.ok=Ag/\j∈V.from_ i
def gE (K:Int) (r:co):Prop:=-K<=r.d/\r.d<=K
def aH.rest {l:List Ct} (s:aH h0 h l) {r r':co} (a:l[i]?=I (aO b 238 r.M)):∃J,BA Ax 238 h b 0 (n_ ⟨r'.M⟩)=I J/\aH h0 J (l.set i (aO b 238 r'.M)):=s.cu Kq a B B B
def yD (u:V.O) {X b7:Nat} {v:List co} (s:fD V h lp x v) {K:Int} (hK:0<=K/\K<=1000000000000000) (Q:∀r∈v,gE K r) {i a:Int} (h5:aC h X 0 (AG lp 0)) (h7:aC h b7 0 (Vi a)):
 iB S L 7 130 [AG x 0,Vi i,l_ (.func 131) #[] #[AG X 0,AG b7 0]] h λw J=>∃r:co,w=n_ ⟨r.M⟩/\ie V v i r:=
 Cn f130 λd hd' hL=>by
  obtain⟨g1,y1,s1⟩:=(aH.nil h).O (z:=n_ ⟨eC.M⟩) Kq;obtain⟨C,y2,o⟩:=s1.O (z:=n_ ⟨eC.M⟩) Kq;obtain⟨D,Z⟩:∃b,b=h.a:=⟨_,B⟩;obtain⟨p,W⟩:∃b,b=g1.a:=⟨_,B⟩;rw[←Z] at y1 s1 o;rw[←W] at y2 o;have E:=s.C o.e;refine⟨_,_,y1 _,_,_,y2 _,_,ld B E.l,_,jB E.A u d G,?_⟩;rintro w h3 ⟨x3,R⟩;have fm:=λj h=>iL u (i:=i) (j:=j) h;have fl:=Cb.aY u i;have hn:=u.len;obtain⟨l,hl⟩:∃l,l=V.from_ i:=⟨_,B⟩;rw[←hl] at R fm fl;obtain⟨_,m,M,rfl,_⟩:=id R.rd;have s3:=o.add (a:=aS C.a 3 1 (PA m (LB l) M) (LB l) (Bn l)) x3 R R.ai
  let F:Nat->As:=λk=>[(0,AG x 0),(2,l_ (.func 131) #[] #[AG X 0,AG b7 0]),(6,AG D 0),(7,AG p 0),(16,PA m (LB l) M),(17,Vi (LB l)),(18,Vi k)]
  let Ix:Nat->As->Y->Prop:=λμ A hh=>∃(k:Nat) (r:co),A=F k/\k<=LB l/\μ=LB l-k/\ie V v i r/\aH h hh [aS C.a 3 1 (PA m (LB l) M) (LB l) (Bn l),aO p 238 r.M,aO D 238 eC.M]
  refine⟨Ix,⟨_,_,Sq,G,0,eC,B,Al _,B,(λh=>by cases h),s3⟩,?_⟩;rintro μ A hh ⟨k,r,rfl,hk,rfl,N,f⟩ hLt;have or:∀{H:Y} {r:co} {l':List Ct},aH h H (aS C.a 3 1 (PA m (LB l) M) (LB l) (Bn l)::aO p 238 r.M::l')->aQ H p 238 r.M:=λs=>s.dD 1 B;refine Bz (λk1=>?_) (λk1=>?_);rotate_left
  .obtain⟨h5,e5,s5⟩:=f.rest (i:=2) B
   exact⟨_,EQ Kq (or f).cells B,_,e5,_,EQ Kq (s5.dD 2 B).cells B,s5.e,r,B,N⟩
  have n:k<LB l:=G;obtain⟨b,c,e9,_,q⟩:=(f.sl 0 B).cell (GH n);cases e9;obtain⟨j,O⟩:∃j,j=j_ l k 0:=⟨_,B⟩;have P:j∈l:=by rw[O,Ak,Ab n];exact Bu n
  rw[←O] at q;obtain⟨hj,_⟩:=fm j P;obtain⟨br,cr,I,hq,g⟩:=s.at_ hj;have nx:∀{A:As} {H:Y} {r:co},Sub (F (k+1)) A->ie V v i r->aH h H [aS C.a 3 1 (sL b (LB l) M) (LB l) (Bn l),aO p 238 r.M,aO D 238 eC.M]->∃m' m,Sub m A/\m'<l.length-k/\Ix m' m H:=λt N s=>⟨_,_,t,G,k+1,_,B,G,B,N,s⟩;refine⟨G,_,Dz (ld B q) (by show 0+(k:Int).toNat*1=k;omega),_,ld B (g f.e).1,G,_,Dz (ld B ((g f.e).2.at (i:=2) B)) B,_,_,B,Ad (λk2=>⟨Pq,nx (Sq) N f⟩) (λk2=>?_)⟩;have T:I.ok=true:=by simpa using k2
  refine⟨[],Kq,_,yE (s.A.C (f.e.trans (AA.ad _))) (h5.C (f.e.trans (AA.ad _))) (h7.C (f.e.trans (AA.ad _))) d G,?_⟩;rintro _ h6 ⟨x6,rfl⟩;have U:=f.bz x6;have er:=Cb.bm u a j;have eb:=Q _ (AZ hq);refine⟨x6.C,_,ld B (g U.e).1,G,_,Dz (ld B ((g U.e).2.at (i:=1) B)) B,⟨by have:=eb.1;omega,by have:=eb.2;omega⟩,_,EQ Kq (or U).cells B,_,qe d G,?_⟩;rintro _ h7 ⟨x7,y,rfl⟩;have s7:=U.C x7;refine Ad (λk3=>?_) (λk3=>⟨Pq,nx (Sq) N s7⟩);obtain⟨h8,e8,s8⟩:=s7.rest (i:=1) (r':=⟨j,V.enter a j+I.d,Ag⟩) B;exact⟨_,e8,Pq,nx (Sq) (λ_=>⟨j,I,B,hq,T,hl▸P⟩) s8⟩
end
section
variable{V:Cb} {k:Nat}
def yC (l:Bo) (k:Nat):(kU (k+1) l).map (bX V)=(kU k l).map (bX V)++(if k<LB l then[bX V (j_ l k 0)] else[]):=by
 split
 .rename_i h
  rw[A5 h,BS,Ak,Ab h];rfl
 .rename_i h
  rw[Fb,Bj G,Bj G]
def yB (A:EI h lp V) (R:V.O) {l:Bo} {u:Aa} {c:Int} {x:Bd} (r:Rd h u 1 (LB l) (Bn l)) (hl:LB l<=1000) (hc:fE V l (LB l)):
 iB S L 3 38 [AG lp 0,n_ ⟨[u,Vi c,Sg x]⟩] h λw J=>AS J h.a 109 7 w (LB l) (jL Bt (l.map (bX V))):=
 Cn f38 λd hd' hL=>by
  obtain⟨m,n,rfl⟩:∃A c,u=PA A (LB l) c:=by obtain⟨_,A,c,e,_⟩:=r;exact⟨A,c,e⟩
  obtain⟨D,W,U⟩:=(aH.nil h).box Ax 77 (n_ ⟨[PA m (LB l) n,Vi c,Sg x]⟩);refine⟨_,_,W,_,B,_,iF (A.C U.e) R d G,?_⟩;rintro w h2 ⟨Y,H⟩;obtain⟨_,b,p,rfl,_⟩:=id H.rd;have s2:=U.add (a:=aS D.a 109 7 (PA b (LB V.ns) p) (LB V.ns) (V.ns.flatMap Bt)) Y H H.ai;have E:=s2.nl h.a 109 7;refine⟨_,ld B (E.q 2 _ B B),λt A K=>∃(k:Nat) (v:Aa),A=[(5,PA b (LB V.ns) p),(6,v),(14,PA m (LB l) n),(15,Vi (LB l)),(16,Vi k)]/\k<=LB l/\t=LB l-k/\aH h K [aS h.a 109 7 v k (jL Bt ((l.take k).map (bX V))),aS D.a 109 7 (PA b (LB V.ns) p) (LB V.ns) (V.ns.flatMap Bt),aO h.a 77 [PA m (LB l) n,Vi c,Sg x]],
   ⟨_,_,Sq,G,0,_,B,Al _,B,E⟩,?_⟩
  rintro t A K ⟨k,v,rfl,hk,rfl,s⟩ hLt;refine Bz (λk1=>?_) (λk1=>?_);rotate_left
  .obtain rfl:k=LB l:=G
   have o:=s.sl 0 B;rw[CS] at o;exact⟨s.e,o⟩
  have y:k<LB l:=G;obtain⟨C,c',e9,_,q⟩:=(r.C s.e).at_ G;cases e9;obtain⟨M,g⟩:=hc k y;obtain⟨j,z⟩:∃j,j=j_ l k 0:=⟨_,B⟩;have q1:aC K C.block (C.off+(k:Int).toNat*1) (Vi j):=by rw[BJ,z];exact q k _ (GH y)
  rw[←z] at M g;obtain⟨N,c2',e2,_,F⟩:=(s.sl 1 B).rd.el M;cases e2;have gj:V.ns[j]?=I (bX V j):=by unfold bX;rw[Ak,Ab M];rfl
  rw[flatK (f:=Bt) (λ_=>B) V.ns gj] at F;obtain⟨_,A3x,c3,rfl,_⟩:=(s.sl 0 B).rd;obtain⟨Z,J,X,s5⟩:=s.ba Kq (i:=0) B (ys:=Bt (bX V j)) B B s.e.a G (xs':=jL Bt ((l.take (k+1)).map (bX V))) B (by rw[yC,Bi y,←z,E0];simp);have nx:=λA  O=>(⟨_,_,O,G,k+1,Z,B,G,B,s5⟩:∃m' m,Sub m A/\m'<LB l-k/\∃(k:Nat) (v:Aa),m=[(5,PA (I N) (LB V.ns) p),(6,v),(14,PA (I C) (LB l) n),(15,Vi (LB l)),(16,Vi k)]/\k<=LB l/\m'=LB l-k/\aH h J [aS h.a 109 7 v k (jL Bt ((l.take k).map (bX V))),aS D.a 109 7 (PA (I N) (LB V.ns) p) (LB V.ns) (V.ns.flatMap Bt),aO h.a 77 [PA (I C) (LB l) n,Vi c,Sg x]]);refine⟨G,_,ld B q1,[],Kq,Bz (λ_=>G) (λ_=>Bz (λk2=>?_) (λk2=>?_))⟩
  .have P:0<k:=G
   have g:=g P;obtain⟨T,c3',e3,_,Q⟩:=(s.sl 0 B).rd.el (i:=k-1) G;cases e3;rw[flatK (f:=Bt) (λ_=>B) _ (show((kU k l).map (bX V))[k-1]?=I (bX V (j_ l (k-1) 0)) by
    rw[AX,LS,Bi G,Ab G,Ak,Ab G];rfl)] at Q
   refine⟨Pq,G,_,Dz (ld B (Q.at (i:=1) B)) (by show T.off+((k:Int)-1).toNat*7+1=T.off+(k-1)*7+1;omega),G,_,Dz (ld B (F.at (i:=0) B)) B,Ad (λh=>by have:=g;simp at h this;exact(h this).elim) (λ_=>?_)⟩;exact⟨G,_,EQ Kq F B,_,_,i3 72 _ 7 (n_ ⟨Bt (bX V j)⟩) _,_,_,X,Pq,nx _ (Sq)⟩
  .exact⟨G,_,EQ Kq F B,_,_,i3 72 _ 7 (n_ ⟨Bt (bX V j)⟩) _,_,_,X,Pq,nx _ (Sq)⟩
end
section
variable{V:Cb} {k:Nat}
def yA (o:V.O) {M:List co} (s:fD V h lp x M) (hi:i<LB V.ns) {K:Int} (hK:0<=K/\K<=1000000000000000) (hrs:∀r∈M,gE K r):
 iB S L 7 216 [AG x 0,Vi i] h λw J=>∃r:co,w=n_ ⟨r.M⟩/\ie V M (bX V i).t r/\gE (K+100000) r:=
 Cn f216 λd hd' hL=>by
  obtain⟨g1,y1,s1⟩:=(aH.nil h).O (z:=n_ ⟨eC.M⟩) Kq;obtain⟨g2,y2,p⟩:=s1.O (z:=n_ ⟨eC.M⟩) Kq;obtain⟨N,hb1⟩:∃b,b=h.a:=⟨_,B⟩;obtain⟨O,hb2⟩:∃b,b=g1.a:=⟨_,B⟩;rw[←hb1] at y1 s1 p;rw[←hb2] at y2 p;obtain⟨nv,hnv,Z⟩:=s.n;obtain⟨an,cn,en,_,qn⟩:=(Z.C p.e).el hi;cases en;have gi:V.ns[i]?=I (bX V i):=by unfold bX;rw[Ak,Ab hi];rfl
  rw[flatK (f:=Bt) (λ_=>B) V.ns gi] at qn;obtain⟨g3,y3,g4,y4,u⟩:=p.va 109 (Bt DS) (Bt (bX V i));obtain⟨b3,hb3⟩:∃b,b=g2.a:=⟨_,B⟩;rw[←hb3] at y3 y4 u;refine⟨_,_,y1 _,_,_,y2 _,_,ld B (hnv.C p.e),G,_,EQ Kq qn B,_,_,y3 _,_,y4,[],Kq,_,ld B ((s.C u.e).l),_,ld B (u.q 0 _ B B),_,jB ((s.C u.e).A.C (AA.ad _)) o d G,?_⟩;rintro w h5 ⟨x5,Q⟩;have fm:=λj h=>iL o (i:=(bX V i).t) (j:=j) h;have fl:=Cb.aY o (bX V i).t;have hn:=o.len;obtain⟨l,hl⟩:∃l,l=V.from_ (bX V i).t:=⟨_,B⟩;rw[←hl] at Q fm fl;obtain⟨_,E,c0,rfl,_⟩:=id Q.rd;have s5:=u.cf (a:=aS g4.a 3 1 (PA E (LB l) c0) (LB l) (Bn l)) x5 Q Q.ai
  let F:Nat->As:=λk=>[(0,AG x 0),(1,Vi i),(4,AG N 0),(5,AG O 0),(6,AG b3 0),(23,PA E (LB l) c0),(24,Vi (LB l)),(25,Vi k)]
  let P:co->List Ct:=λr=>[aS g4.a 3 1 (PA E (LB l) c0) (LB l) (Bn l),aO b3 109 (Bt (bX V i)),aO O 238 r.M,aO N 238 eC.M]
  let Ix:Nat->As->Y->Prop:=λμ A hh=>∃(k:Nat) (r:co),A=F k/\k<=LB l/\μ=LB l-k/\ie V M (bX V i).t r/\gE (K+100000) r/\aH h hh (P r)
  refine⟨x5.C,Ix,⟨_,_,Sq,G,0,eC,B,Al _,B,(λh=>by cases h),⟨by show-(K+100000)<=0;omega,by show 0<=K+100000;omega⟩,s5⟩,?_⟩;rintro μ A hh ⟨k,r,rfl,hk,rfl,R,U,g⟩ hLt;have or:∀{H:Y} {r:co},aH h H (P r)->aQ H O 238 r.M:=λs=>s.dD 2 B;refine Bz (λk1=>?_) (λk1=>?_);rotate_left
  .obtain⟨h7,e7,C⟩:=g.rest (i:=3) B
   exact⟨_,EQ Kq (or g).cells B,_,e7,_,EQ Kq (C.dD 3 B).cells B,C.e,r,B,R,U⟩
  have D:k<LB l:=G;obtain⟨b,c,e9,_,q⟩:=(g.sl 0 B).cell (GH D);cases e9;obtain⟨j,X⟩:∃j,j=j_ l k 0:=⟨_,B⟩;have T:j∈l:=by rw[X,Ak,Ab D];exact Bu D
  rw[←X] at q;obtain⟨hj,_⟩:=fm j T;obtain⟨br,cr,v,hq,m⟩:=s.at_ hj;have nx:∀{A:As} {H:Y} {r:co},Sub (F (k+1)) A->ie V M (bX V i).t r->gE (K+100000) r->aH h H (P r)->∃m' E,Sub E A/\m'<LB l-k/\Ix m' E H:=λW R U s=>⟨_,_,W,G,k+1,_,B,G,B,R,U,s⟩;refine⟨G,_,Dz (ld B q) (by show 0+(k:Int).toNat*1=k;omega),_,ld B (m g.e).1,G,_,Dz (ld B ((m g.e).2.at (i:=2) B)) B,_,_,B,Ad (λk2=>⟨Pq,nx (Sq) R U g⟩) (λk2=>?_)⟩;have hqo:v.ok=true:=by simpa using k2
  obtain⟨_,_,nc,_⟩:=ig o hi;have er:=Cb.aR o (s.A) i j;have eb:=hrs _ (AZ hq);refine⟨[],Kq,_,ld B (g.q 1 _ B B),_,ld B (s.C g.e).l,_,jD (s.A.C (g.e.trans (AA.ad _))) o d G,?_⟩;rintro _ h6 ⟨x6,rfl⟩;have C:=g.bz x6;have e1:=eb.1;have e2:=eb.2;refine⟨x6.C,Pq,_,ld B (m C.e).1,G,_,Dz (ld B ((m C.e).2.at (i:=1) B)) B,Pq,_,EQ Kq (or C).cells B,_,qe d G,?_⟩;rintro _ h7 ⟨x7,y,rfl⟩;have s8:=C.C x7;refine Ad (λk3=>?_) (λk3=>⟨Pq,nx (Sq) R U s8⟩);obtain⟨h8,e8,s9⟩:=s8.rest (i:=2) (r':=⟨j,(bX V i).c+V.aW i j+v.d,Ag⟩) B;exact⟨_,e8,Pq,nx (Sq) (λ_=>⟨j,v,B,hq,hqo,hl▸T⟩) ⟨by show-(K+100000)<=(bX V i).c+V.aW i j+v.d;omega,by show(bX V i).c+V.aW i j+v.d<=K+100000;omega⟩ s9⟩
def yz:Bk S L 1 357 [Vi z] h λw J=>w=CU Ah/\J=h:=
 Cn f357 λd b _=>⟨by show CU (!decide (z=z))=_;simp,B⟩
def yy {a b:Int}:Bk S L 2 356 [Vi a,Vi b] h λw J=>w=CU (decide (a<b))/\J=h:=
 Cn f356 λd e _=>GZ (mx d G) ⟨B,B⟩
def yx {l:Bo} (r:Rd h v 1 (LB l) (Bn l)) (C:LB l<=100000) (w:l.Pairwise (.<.)):Bk S L 3 302 [v,Vi z] h λw J=>J=h/\∃(i:Nat) (y:Bool),w=C4 #[Vi i,CU y]/\i<=LB l/\∀m,m<LB l->(m<i->(l.getD m 0:Int)<z)/\(i<=m->z<=(j_ l m 0:Nat)):=
 Cn f302 λd p D=>by
  obtain⟨n,s,rfl⟩:∃A c,v=PA A (LB l) c:=by obtain⟨_,A,c,e,_⟩:=r;exact⟨A,c,e⟩
  have q:∀{j:Nat},j<LB l->∃a,n=I a/\aC h a.block (a.off+j) (Vi (l.getD j 0)):=λb=>by
   obtain⟨a,c,e,_,q⟩:=r.at_ G;cases e;exact⟨a,B,q _ _ (GH b)⟩
  have M:∀a b,a<b->b<LB l->j_ l a 0<j_ l b 0:=λa b c d=>by have:=List.pairwise_iff_getElem.1 w a b G d c;rwa[Ak,Ak,Ab d,Ab (show a<LB l by omega)]
  let F:Nat->Nat->As:=λi j=>[(0,PA n (LB l) s),(1,Vi z),(6,Vi (LB l)),(7,Vi i),(8,Vi j)]
  let Ix:Nat->As->Y->Prop:=λf A o=>∃i j:Nat,A=F i j/\i<=j/\j<=LB l/\f=j-i/\o=h/\∀m,m<LB l->(m<i->(l.getD m 0:Int)<z)/\(j<=m->z<=(j_ l m 0:Nat))
  refine⟨Ix,⟨_,_,Sq,G,0,LB l,B,Al _,Ae _,B,B,λm h=>⟨λe=>G,λe=>G⟩⟩,?_⟩;rintro f A o ⟨i,j,rfl,g,b,rfl,rfl,T⟩ t;refine Bz (λu=>?_) (λu=>?_)
  .have g:i<j:=G
   have e:DN .u64 (i+j) 1=(((i+j)/2:Nat)):=Fo B xc;obtain⟨m,x⟩:∃m,m=(i+j)/2:=⟨_,B⟩;rw[←x] at e;obtain⟨a,rfl,c⟩:=q (j:=m) G;refine⟨Pq,_,.inl ⟨Pq,B⟩,xc,m,.inl ⟨by rw[e];exact Pq,e.symm⟩,G,_,Dz (ld B c) xU,_,yy d G,?_⟩;rintro _ _ ⟨rfl,rfl⟩;exact Bz (λk=>⟨Pq,_,_,Sq,G,m+1,j,B,G,b,B,B,λu v=>⟨λe=>by
    rcases A8 u m with y|y
    .have:=M u m y G;omega
    .obtain rfl:u=m:=G
     exact k,(T u v).2⟩⟩) (λk=>⟨_,_,Sq,G,i,m,B,G,G,B,B,λu v=>⟨(T u v).1,λe=>by
    rcases A8 m u with y|y
    .have:=M m u y v;omega
    .obtain rfl:u=m:=G
     omega⟩⟩)
  .obtain rfl:i=j:=G
   refine Bz (λk=>?_) (λk=>⟨B,i,_,B,b,T⟩);obtain⟨a,rfl,c⟩:=q (j:=i) G;refine⟨G,_,Dz (ld B c) xU,Ad (λ_=>⟨B,i,_,B,b,T⟩) (λ_=>⟨G,_,Dz (ld B c) xU,_,yz d G,?_⟩)⟩;rintro _ _ ⟨rfl,rfl⟩;exact⟨B,i,_,B,b,T⟩
end
section
variable{V:Cb} {k:Nat}
structure eL (V:Cb) (K:Nat->Int->Prop) (a w:Nat) (rs:List co):Prop where
 len:LB rs=LB V.ns
 b:∀r∈rs,gE (100000*w) r
 ok:∀(i:Nat) r,rs[i]?=I r->r.ok=Ag->(a:Int)<=(bX V i).f/\K i r.a/\(r.a=-1\/∃(j:Nat) (q:co),r.a=j/\rs[j]?=I q/\q.ok=Ag/\(bX V i).f<(bX V j).f/\(bX V j).f=(bX V i).t)
def eL.zero (V:Cb) (K:Nat->Int->Prop) (a:Nat):eL V K a 0 (AE (LB V.ns) eC):=
 ⟨iV,λr b=>CH b▸⟨by decide,by decide⟩,λi r b h=>by rw[CH (AZ b)] at h;cases h⟩
def eL.low {K:Nat->Int->Prop} {a' w:Nat} {c:List co} (R:eL V K a w c) (h:a'<=a):eL V K a' w c:=⟨R.len,R.b,λi r d e=>⟨by have:=(R.ok i r d e).1;omega,(R.ok i r d e).2⟩⟩
def eL.set {K:Nat->Int->Prop} {w:Nat} {d:List co} (R:eL V K a w d) (n:i<LB V.ns) (l:(bX V i).f=a) {r:co} (o:gE (100000*(w+1:Nat)) r) (p:r.ok=Ag->K i r.a/\(r.a=-1\/∃(j:Nat) (q:co),r.a=j/\d[j]?=I q/\q.ok=Ag/\(bX V i).f<(bX V j).f/\(bX V j).f=(bX V i).t)):eL V K a (w+1) (d.set i r):=by
 have s:i<LB d:=by rw[R.len];exact n
 have st:∀{j:Nat} {q:co} {x:Int},a<=x->x<(bX V j).f->d[j]?=I q->(d.set i r)[j]?=I q:=λt h g=>by
  rw[Iu,Bm (λe=>by subst e;omega)];exact g
 refine⟨by rw[B4];exact R.len,λq c=>?_,λj q c m=>?_⟩
 .rcases BT c with c|rfl
  .have:=R.b q c
   exact⟨by have:=this.1;omega,by have:=this.2;omega⟩
  .exact o
 .rw[Iu] at c
  split at c
  .rename_i e
   subst e;cases c;exact⟨dK l.symm,(p m).1,(p m).2.imp id λ⟨k,q,t,h,g,h4⟩=>⟨k,q,t,st (dK l.symm) h4.1 h,g,h4⟩⟩
  .obtain⟨t,y,h⟩:=R.ok j q c m
   exact⟨t,y,h.imp id λ⟨k,q,g,h4,h5,h6⟩=>⟨k,q,g,st t h6.1 h4,h5,h6⟩⟩
def qd:∀n,Dy (AJ (n_ ⟨eC.M⟩)) n=jL co.M (AE n eC)
 |0=>rfl
 |n+1=>by rw[Dy,qd n];rfl
end
section
variable{V:Cb} {k:Nat} {l:Bo}
class eU (S:A9) (L:Nat):Prop extends eO S L where
 srt:S.a 300=I (Oz (λz:Int=>Vi z) (λz:List Int=>z.mergeSort λx y=>decide (x<=y)) 3)
def yw {dy o:Nat} {p:Option BD} (y:LB l<=100000) (i:Nat->Y->Prop) (m:∀k f,i k f->aC f b 0 (PA p (LB l) o)/\Rd f (PA p (LB l) o) 1 (LB l) (Bn l)) (h0:i 0 h)
 (s:∀k f,i k f->k<LB l->ZP S L dy (.yield n) [Vi (l.getD k 0)] f λu J=>u=CU Ag/\i (k+1) J):
 Bk S L (dy+1) 301 [l_ (.yield n) #[] #[],AG b 0] h λ_ J=>i (LB l) J:=
 Cn f301 λd t z=>by
  refine⟨_,ld B (m 0 h h0).1,λr A f=>∃k:Nat,A=[(0,l_ (.yield n) #[] #[]),(5,PA p (LB l) o),(6,Vi (LB l)),(7,Vi k)]/\k<=LB l/\r=LB l-k/\i k f,
   ⟨_,_,Sq,G,0,B,Al _,B,h0⟩,?_⟩
  rintro r A f ⟨k,rfl,C,rfl,j⟩ v;refine Bz (λe=>?_) (λe=>?_)
  .have g:k<LB l:=G
   let⟨a,c,w,_,q⟩:=(m k f j).2.at_ G;cases w;refine⟨G,_,Dz (ld B (q k _ (GH g))) xU,_,s k f j g d G,?_⟩;rintro _ D ⟨rfl,x⟩;exact⟨_,_,B,Pq,_,_,Sq,G,k+1,B,g,B,x⟩
  .obtain rfl:k=LB l:=G
   exact j
def yv (U:aC h b 0 v) (r:Rd h v 1 (LB l) (Bn l)) (V:LB l<=100000):
 iB S L 4 354 [sN,l_ (.func 301) #[] #[AG b 0]] h λw J=>AS J h.a 3 1 w l.length (Bn l):=
 Zd (fn:=f354) Kq B λd X=>by
  obtain⟨_,A0,c0,rfl,_⟩:=id r;obtain⟨c,t,x⟩:=(aH.nil h).box Ax 50 sN;have W:=x.nl h.a 3 1;refine⟨Dc B,_,_,t,XI (τ:=Ax) (f:=301) (fn:=f301) Kq B,T3 λg _ o=>?_⟩;have M:=W.n2 (.aq Ah) (g .ready Z)
  let Jx:Nat->Y->Prop:=λk z=>k<=l.length/\∃j:Aa,aH h z [aB (A3 c.a) (g .ready Z),aB c.a (.aq Ah),aS h.a 3 1 j k (Bn (kU k l)),aO h.a 50 [j]]
  have A:∀k p,Jx k p->k<LB l->ZP S L 1 (.yield (A3 c.a)) [Vi (l.getD k 0)] p λu J=>u=CU Ag/\Jx (k+1) J:=by
   rintro k p ⟨_,j,s⟩ C n hn';obtain⟨m,rfl⟩:∃m,n=m+1:=⟨n-1,G⟩;refine o m [(2,AG h.a 0)] _ p _ (Sq) (s.a7 0 B) ?_;refine⟨s.a7 0 B,?_⟩;have q:=s.pu 0 (g .busy Z) B;generalize p.put (A3 c.a) (g .busy Z)=g8 at q⊢;obtain⟨N,h9,I,O⟩:=q.ba Kq (i:=2) B (ys:=[Vi (l.getD k 0)]) B B q.e.a G (xs':=Bn (kU (k+1) l)) B (by rw[A5 C,Ak,Ab C];exact BS);obtain⟨h10,E,y⟩:=O.sT 50 3 _ _ B (by show 0<1;decide) (D5 (O.sl 2 B));have F:=y.pu 0 (g .ready Z) B;exact⟨_,ld B (q.q 3 _ B B),_,_,i3 50 _ 1 (Vi (l.getD k 0)) _,_,_,I,_,E,.busy,Z,y.a7 0 B,B,C,N,F⟩
  refine⟨_,yw V Jx (λk p ⟨_,j,s⟩=>⟨U.C s.e,Rd.C r s.e⟩) ⟨Al _,_,M⟩ A d G,?_⟩;rintro u P ⟨_,j,H⟩;refine⟨.ready,Z,H.a7 0 B,Jq,?_⟩;have K:=H.pu 0 (g .exhausted Z) B;generalize P.put (A3 c.a) (g .exhausted Z)=h7 at K⊢;rw[CS] at K;have q:=
   ((K.drop 1).perm (Gm _ _).symm)
  refine⟨_,ld B (q.q 1 _ B B),?_⟩;obtain⟨n1,n2,n3,Q⟩:=aH.aq (D:=[c.a]) q;exact JM _ n1 n2 λJ _ R=>⟨(Q J R).e,(Q J R).sl 0 B⟩
def yJ [g:eU S L] (q:aC h b 0 v) (r:Rd h v 1 (LB l) (Bn l)) (s:LB l<=100000) (c:l.Pairwise (.<.)):
 iB S L 12 211 [l_ (.func 301) #[] #[AG b 0]] h λw J=>AS J h.a 3 1 w (LB l) (Bn l):=
 Cn f211 λd i t=>by
  have f:iB S L 5 299 [l_ (.func 301) #[] #[AG b 0]] h λw J=>AS J h.a 3 1 w (LB l) (Bn l):=Cn f299 λd i t=>⟨_,yv q r s d G,λ_ _ h=>h⟩;refine⟨_,f d G,?_⟩;rintro w D ⟨u,o⟩;have e:∀d:List Nat,Bn d=(d.map AQ).map λz=>Vi z:=λd=>by unfold Bn;rw[O5];rfl
  refine⟨_,rH (λa b j=>by cases j;rfl) (λz=>mq z _) g.srt (e l▸o) G d G,?_⟩;rintro _ C ⟨x,_,_,rfl,y⟩;rw[List.mergeSort_of_pairwise (List.pairwise_map.2 (c.imp λh=>decide_eq_true (Int.ofNat_le.2 (Bf h))))] at y;exact⟨u.then x o.ai,by rw[e];exact y⟩
def yI {n:BI} (t:0<=n.f/\n.f<=1000000) (r:Rd h v 1 (LB l) (Bn l)) (u:LB l<=1000) (w:l.Pairwise (.<.)):iB S L 4 214 [n_ ⟨Bt n⟩,v] h λw J=>∃y,w=CU y/\(y=Ah->∀c∈l,(c:Int)<=n.f\/n.t<=c):=
 Cn f214 λd m x=>by
  obtain⟨_,z,A,rfl,_⟩:=id r;let⟨g,o,b⟩:=(aH.nil h).box Ax 109 (n_ ⟨Bt n⟩);have k:=b.dD 0 B;refine⟨_,_,o,_,ld B (k.cell B),Pq,_,yx (r.C b.e) G w d G,?_⟩;rintro _ g ⟨rfl,i,y,rfl,C,T⟩;refine⟨[],Kq,Bz (λp=>?_) (λp=>⟨b.e.trans (AT (AA.refl g)),_,B,λ_ c q=>by obtain⟨m,v,rfl⟩:=ra.1 q;have:=(T m v).1 G;rw[Ak,Ab v] at this;exact .inl (by change((l[m]:Nat):Int)<_ at this;omega)⟩)⟩;let⟨a,c,s,_,q⟩:=(r.C b.e).at_ G;cases s;refine⟨G,_,Dz (ld B (q i _ (GH G))) xU,_,ld B (k.cell B),b.e.trans (AT (AA.refl g)),_,B,λy c q=>?_⟩;obtain⟨m,v,rfl⟩:=ra.1 q;have y:=of_decide_eq_false y;have j:=(T m v).1;have D:=(List.pairwise_iff_getElem.1 w i m G v);rw[Ak,Ab v] at j;rw[Ak,Ab (show i<LB l by omega)] at y;change _->((l[m]:Nat):Int)<_ at j;change ¬((l[i]:Nat):Int)<_ at y;rcases A8 m i with e|e
  .have:=j e;omega
  .rcases gF e with rfl|e
   .omega
   .have:=D e;omega
end
section
variable{V:Cb} {k:Nat}
def yl:Bk S L 1 212 [v] h λw J=>w=l_ (.func 301) #[] #[AG h.a 0]/\aH h J [aO h.a 50 (AJ v)]:=
 Cn f212 λd b f=>by
  let⟨g,c,e⟩:=(aH.nil h).box Ax 50 v;exact⟨_,_,c,B,e⟩
def qc (l:List co):LB (l.flatMap co.M)=LB l*3:=HV (f:=co.M) (λ_=>B) l
def pW {l:List Ct} {a:List co} {r:co} (s:aH h0 h l) (d:l[i]?=I (aO b 238 (jL co.M a))) (c:x<LB a):∃J,BA Ax 238 h.ad b (x*3) (n_ ⟨r.M⟩)=I J/\aH h0 (h.M J) (l.set i (aO b 238 (jL co.M (a.set x r)))):=by
 obtain⟨J,e,o,u⟩:=aQ.bD (h:=h.ad) (k:=3) (i:=x*3) (vs:=r.M) Kq (s.dD _ d) B (by rw[qc];omega) B;rw[nY (f:=co.M) (λ_=>B) a c r] at o;exact⟨J,e,s.aZ _ d u.O o λx c=>.inl c⟩
def aQ.rdW (o:aQ h b e ys) (a:LB ys=n*k):Rd h (sL b n n) k n ys:=
 aQ.cV (pre:=[]) (post:=[]) (by simpa using o) a (Ae _)
def pU (k x c d a b e n f:Nat) (F g:Int) (i j v:Aa) (V:Cb) (l':Bo) (h:List co):List Ct:=
 [aO c 238 (jL co.M h),aO x 243 [AG k 0,i,sL c n n],aS a 109 7 i (LB V.ns) (V.ns.flatMap Bt),aS b 3 1 j f (Bn l'),aO e 50 [v],aO d 120 [Vi F,Vi g]]
def pT {g:Nat} {F l:Int} {i m:Aa} {l':Bo} {c:List co} (A:EI h lp V) (s:aH h H (pU lp x d g a b j (LB V.ns) k F l i m v V l' c)) (f:LB c=LB V.ns):fD V H lp x c:=
 ⟨A.C s.e,s.q 1 _ B B,⟨i,s.q 1 _ B B,(s.sl 2 B).rd⟩,⟨d,_,s.q 1 _ B B,(s.dD 0 B).rdW (by rw[qc,f])⟩,f⟩
def yh [eU S L] (A:EI h lp V) (D:V.O) {F p left:Int} {l:Bo} (r:Rd h v 1 (LB l) (Bn l)) (hl:LB l<=1000) (hp:l.Pairwise (.<.)):
 iB S L 16 129 [AG lp 0,n_ ⟨[Vi F,Vi p]⟩,Vi left,v] h λw J=>(w=.pointer Z\/∃(x:Nat) (g:List co) (a n:Nat),w=AG x 0/\F=a/\n<=10000000/\fD V J lp x g/\eL V (ZbQ V l p) a n g):=
 Cn f129 λd hd' hL=>by
  obtain⟨_,A0,c0,rfl,_⟩:=id r;obtain⟨g1,y1,E⟩:=(aH.nil h).box Ax 120 (n_ ⟨[Vi F,Vi p]⟩);obtain⟨M,hb1⟩:∃b,b=h.a:=⟨_,B⟩;rw[←hb1] at y1 E;have E:aH h g1 [aO M 120 [Vi F,Vi p]]:=E;have lF:∀{H:Y} {l':List Ct},aH h H (aO M 120 [Vi F,Vi p]::l')->aC H M 0 (Vi F)/\aC H M 1 (Vi p):=λs=>⟨s.q 0 _ B B,s.q 0 _ B B⟩;have X:∀{H:Y},AA h H->AA h H/\(Value.pointer Z=.pointer Z\/∃(x:Nat) (g:List co) (a n:Nat),Value.pointer Z=AG x 0/\F=a/\n<=10000000/\fD V H lp x g/\eL V (ZbQ V l p) a n g):=λx=>⟨x,.inl B⟩;have n1:=E.e.trans (AT (AA.refl g1));refine⟨_,_,y1,[],Kq,_,B,_,ld B (lF E).1,Bz (λ_=>X n1) (λk1=>⟨_,ld B (lF E).1,_,ld B (lF E).2,Bz (λ_=>X n1) (λk2=>⟨_,ld B (lF E).2,_,gh (A.C (E.e.trans (AA.ad g1))) d G,?_⟩)⟩)⟩;rintro _ _ ⟨rfl,rfl⟩;have s2:=E.C (AT (AA.refl g1));refine⟨B,Bz (λ_=>X s2.e) (λk3=>?_)⟩;obtain⟨a,rfl⟩:=B9 (show 0<=F by omega);have hN:=D.1.2;have hM:=D.len;refine⟨_,yl d G,?_⟩;rintro _ h3 ⟨rfl,N⟩;have N:=s2.add (a:=aO (nb g1).a 50 [PA A0 (LB l) c0]) N.e (N.dD 0 B) λi hi=>A2 hi.symm;obtain⟨b2,hb2⟩:∃b,b=(nb g1).a:=⟨_,B⟩;rw[←hb2] at N⊢;refine⟨_,yJ (N.q 0 _ B B) (r.C N.e) G hp d G,?_⟩;rintro lv h4 ⟨x4,o4⟩;have s4:=N.add (a:=aS h3.a 3 1 lv (LB l) (Bn l)) x4 o4 o4.ai;refine⟨_,iF (A.C s4.e) D d G,?_⟩;rintro nv h5 ⟨x5,o5⟩;have s5:=s4.add (a:=aS h4.a 109 7 nv (LB V.ns) _) x5 o5 o5.ai;obtain⟨_,O,c5,rfl,_⟩:=id o5.rd;obtain⟨g6,y6,s6⟩:=s5.box Ax 243 (n_ ⟨[AG lp 0,PA O (LB V.ns) c5,sN]⟩);obtain⟨x,hx⟩:∃b,b=h5.a:=⟨_,B⟩;rw[←hx] at y6 s6;obtain⟨g7,y7,x7,o7,_⟩:=YH (τ:=Ax) (t:=241) (e:=238) (k:=3) (z:=n_ ⟨eC.M⟩) Kq Kq (LB V.ns) (LB V.ns) (Ae _) G .i64 .i64 g6;rw[qd] at o7;have s7:=s6.add (a:=aO g6.a 238 _) x7 o7 λi hi=>A2 hi.symm;obtain⟨br,hbr⟩:∃b,b=g6.a:=⟨_,B⟩;rw[←hbr] at y7 s7;obtain⟨h8,y8,s8⟩:=s7.sT 241 1 2 (sL br (LB V.ns) (LB V.ns)) B (Ac B) B
  let P:List co->List Ct:=pU lp x br M h4.a h3.a b2 (LB V.ns) (LB l) a p (PA O (LB V.ns) c5) lv (PA A0 (LB l) c0) V l
  have s8:aH h h8 (P (AE (LB V.ns) eC)):=s8;have lP:∀{H:Y} {g:List co},aH h H (P g)->aC H M 0 (Vi a)/\aC H M 1 (Vi p):=λs=>⟨s.q 5 _ B B,s.q 5 _ B B⟩
  let F1x:Int->As:=λz=>[(0,AG lp 0),(2,Vi left),(3,lv),(5,AG M 0),(9,AG x 0),(10,Vi z)]
  let Ix:Nat->As->Y->Prop:=λμ A hh=>∃(z:Int) (g:List co) (w:Nat),A=F1x z/\(a:Int)-1<=z/\z<=p-1/\μ=(z-a+1).toNat/\w<=20000*(p-1-z).toNat/\eL V (ZbQ V l p) (z+1).toNat w g/\aH h hh (P g)
  refine⟨_,_,y6,_,ld B (s6.q 0 1 B B:aC g6 x 1 (PA O (LB V.ns) c5)),_,_,y7,_,y8,_,ld B (lP s8).2,Pq,Ix,⟨_,_,Sq (l:=F1x (p-1)),G,p-1,_,0,B,G,G,B,Al _,eL.zero V _ _,s8⟩,?_⟩;rintro μ A' hh ⟨z,g,w,rfl,z1,z2,rfl,hw,R,s⟩ hLt;refine⟨_,ld B (lP s).1,Bz (λk4=>?_) (λk4=>?_)⟩;rotate_left
  .exact⟨s.e,.inr ⟨x,g,a,w,B,B,G,pT A s R.len,by have e:(z+1).toNat=a:=G;exact e▸R⟩⟩
  refine⟨_,jB (A.C s.e) D d G,?_⟩;rintro u h9 ⟨x9,o9⟩;have fl:=Cb.aY D z;have fm:=λj h=>iL D (i:=z) (j:=j) h;obtain⟨o,hl2⟩:∃l,l=V.from_ z:=⟨_,B⟩;rw[←hl2] at o9 fm fl;obtain⟨_,A9x,c9,rfl,_⟩:=id o9.rd;have s9:=s.add (a:=aS hh.a 3 1 (PA A9x (LB o) c9) (LB o) (Bn o)) x9 o9 o9.ai
  let F2x:Nat->As:=λk=>[(0,AG lp 0),(2,Vi left),(3,lv),(5,AG M 0),(9,AG x 0),(10,Vi z),(63,PA A9x (LB o) c9),(64,Vi (LB o)),(65,Vi k)]
  let P2x:List co->List Ct:=λg=>aS hh.a 3 1 (PA A9x (LB o) c9) (LB o) (Bn o)::P g
  let I2x:Nat->As->Y->Prop:=λμ A hh=>∃(k:Nat) (g:List co) (w:Nat),A=F2x k/\k<=LB o/\μ=LB o-k/\w<=20000*(p-1-z).toNat+k/\eL V (ZbQ V l p) z.toNat w g/\aH h hh (P2x g)
  refine⟨I2x,⟨_,_,Sq (l:=F2x 0),G,0,g,w,B,Al _,B,hw,R.low G,s9⟩,?_⟩;rintro μ A' hk ⟨k,g,w,rfl,Q,rfl,hw,R,s⟩ hLt;refine Bz (λk5=>?_) (λk5=>?_);rotate_left
  .exact⟨Pq,_,_,Sq (l:=F1x (z-1)),(G:(z-1-a+1).toNat<_),z-1,g,w,B,G,G,B,G,by rw[show z-1+1=z by omega];exact R,s.drop 1⟩
  have Q:k<LB o:=G;obtain⟨b,c,e9,_,q⟩:=(s.sl 0 B).cell (i:=k) (GH Q);cases e9;obtain⟨j,hjj⟩:∃j,j=j_ o k 0:=⟨_,B⟩;have hjm:j∈o:=by rw[hjj,Ak,Ab Q];exact Bu Q
  rw[←hjj] at q;obtain⟨U,hf⟩:=fm j hjm;have gj:V.ns[j]?=I (bX V j):=by unfold bX;rw[Ak,Ab U];rfl
  obtain⟨⟨nf,_⟩,⟨nt,nt2⟩,nc,_⟩:=ig D U;have lx:∀{H:Y} {g:List co} {a1 a0:Ct},aH h H (a1::a0::P g)->aC H x 2 (sL br (LB V.ns) (LB V.ns)):=λs=>s.q 3 _ B B;have lc:aC hk x 1 (PA O (LB V.ns) c5):=s.q 2 _ B B;obtain⟨an,cn,en,_,qn⟩:=(s.sl 3 B).rd.el U;cases en;rw[flatK (f:=Bt) (λ_=>B) V.ns gj] at qn;obtain⟨g3,y3,g4,y4,sv⟩:=s.va 109 (Bt DS) (Bt (bX V j));have hw1:w<=20000*64+10000:=G;have nx:∀{A:As} {H:Y} {g:List co} {w':Nat},Sub (F2x (k+1)) A->w'<=w+1->eL V (ZbQ V l p) z.toNat w' g->aH h H (P2x g)->∃m' A0,Sub A0 A/\m'<LB o-k/\I2x m' A0 H:=λsub h1 R s=>⟨_,_,sub,(G:LB o-(k+1)<_),k+1,_,_,B,G,B,G,R,s⟩;have ov:∀{H:Y} {l:List Ct},aH h H (aO hk.a 109 (Bt (bX V j))::l)->aQ H hk.a 109 (Bt (bX V j)):=λs=>s.dD 0 B;have lT:∀{H:Y} {g:List co} {a1 a0:Ct},aH h H (a1::a0::P g)->aC H M 1 (Vi p):=λs=>s.q 7 _ B B;refine⟨G,_,Dz (ld B q) (by show 0+(k:Int).toNat*1=k;omega),_,ld B lc,G,_,EQ (k:=7) Kq qn B,_,_,y3 _,_,y4,_,ld B ((ov sv).cell (i:=1) B),_,ld B (lT sv),Bz (λk6=>⟨Pq,nx (Sq (l:=F2x (k+1))) (Yr _) R (sv.drop 1)⟩) (λk6=>⟨_,EQ (k:=7) Kq (ov sv).cells B,_,yI (n:=bX V j) ⟨nf,G⟩ (l:=l) (sv.sl 5 B).rd G hp d G,?_⟩)⟩;rintro _ h10 ⟨x10,y,rfl,cr⟩;have m:=sv.C x10;cases y with
  |true=>exact⟨Pq,nx (Sq (l:=F2x (k+1))) (Yr _) R (m.drop 1)⟩
  |false=>
  have lq:=lx m;refine⟨_,ld B ((ov m).cell (i:=1) B),_,ld B (lT m),Bz (λk7=>?_) (λk7=>?_)⟩
  .have lr:=Cb.bV D j left
   refine⟨[],Kq,_,ld B lq,_,ld B ((ov m).cell (i:=5) B),_,lA (A.C (m.e.trans (AA.ad _))) d G,?_⟩;rintro _ h11 ⟨C,rfl⟩;have W:=m.bz C;obtain⟨h12,e12,T⟩:=pW (i:=2) (x:=j) (r:=⟨-1,(bX V j).c+V.leave j left,Ag⟩) W B (by rw[R.len];exact U);exact⟨C.C,Pq,G,_,Jp e12 (by show 0+(j:Int).toNat*3=_;omega),Pq,nx (Sq (l:=F2x (k+1))) (Ae _) (R.set U G ⟨by show-_<=(bX V j).c+V.leave j left;omega,by show(bX V j).c+V.leave j left<=_;omega⟩ λ_=>⟨⟨cr B,λ_=>G⟩,.inl B⟩) (T.drop 1)⟩
  .have src:=pT A (m.drop 2) R.len
   refine⟨[],Kq,_,ld B lq,_,yA D (src.C (AA.ad _)) U (K:=100000*w) Pq R.b d G,?_⟩;rintro _ h11 ⟨C,r',rfl,hr',hb'⟩;have W:=m.bz C;obtain⟨h12,e12,T⟩:=pW (i:=2) (x:=j) (r:=r') W B (by rw[R.len];exact U);exact⟨C.C,G,_,Jp e12 (by show 0+(j:Int).toNat*3=_;omega),Pq,nx (Sq (l:=F2x (k+1))) (Ae _) (R.set U G ⟨by have:=hb'.1;omega,by have:=hb'.2;omega⟩ λho=>by
    obtain⟨j',q',e1,e2,e3,e4⟩:=hr' ho;have:=(iL D e4).2;exact⟨⟨cr B,λe=>by omega⟩,.inr ⟨j',q',e1,e2,e3,by omega,this⟩⟩) (T.drop 1)⟩
end
section
variable{V:Cb} {k:Nat}
def lM (V:Cb) (F T:Int) (s:Bo) (N:Nat) (h:Y) (w:Aa):Prop:=∃(u:Aa) (c:Int) (t:Bd) (y:Bool) (l:Bo),w=C4 #[n_ #[u,Vi c,Sg t],CU y]/\jJ V h N u l/\(y=Ag->0<LB l/\fE V l (LB l)/\ZbS V F T s l)
def yf [eU S L] (A:EI h lp V) (M:V.O) {fr Tx right left:Int} {l:Bo} (r:Rd h v 1 (LB l) (Bn l)) (hl:LB l<=1000) (hp:l.Pairwise (.<.)):
 iB S L 18 64 [AG lp 0,n_ ⟨[Vi fr,Vi Tx]⟩,Vi right,Vi left,v] h λw J=>lM V fr Tx l h.a J w:=
 Cn f64 λd hd' hL=>by
  have hN:=M.1.2;obtain⟨g1,y1,s1⟩:=(aH.nil h).box Ax 66 (AG lp 0);obtain⟨g2,y2,s2⟩:=s1.box Ax 120 (n_ ⟨[Vi fr,Vi Tx]⟩);obtain⟨g3,y3,s3⟩:=s2.box Ax 3 (Vi right);obtain⟨g4,y4,g⟩:=s3.O (z:=n_ #[sN,Vi 0,Sg ⟨#[]⟩]) Kq;obtain⟨b5,h5⟩:∃b,b=h.a:=⟨_,B⟩;obtain⟨b6,h6⟩:∃b,b=g1.a:=⟨_,B⟩;obtain⟨b7,h7⟩:∃b,b=g2.a:=⟨_,B⟩;obtain⟨D,ho⟩:∃b,b=g3.a:=⟨_,B⟩;rw[←h5] at y1 g;rw[←h6] at y2 g;rw[←h7] at y3 g;rw[←ho] at y4 g
  let P:List Ct:=[aO D 77 [sN,Vi 0,Sg ⟨#[]⟩],aO b7 3 [Vi right],aO b6 120 [Vi fr,Vi Tx],aO b5 66 [AG lp 0]]
  have c5:∀{H:Y},aH h H P->aC H b5 0 (AG lp 0)/\aC H b7 0 (Vi right):=λs=>⟨s.q 3 _ B B,s.q 1 _ B B⟩;have Da:∀{H:Y} {u:Aa} {c:Int} {t:Bd} {y:Bool} {l':Bo} {N:Nat},aH h H P->h.a<=N/\D<N->jJ V H N u l'->(y=Ag->0<LB l'/\fE V l' (LB l')/\ZbS V fr Tx l l')->∃J,BA Ax 77 H D 0 (n_ ⟨[u,Vi c,Sg t]⟩)=I J/\∃v,Bw Ax 77 J D 0=I v/\AA h J/\lM V fr Tx l h.a J (C4 #[v,CU y]):=λ{H u c t y l' N} s hN Z hy=>by
   obtain⟨J,e,o,up⟩:=aQ.bD Kq (s.dD 0 B) (vs:=[u,Vi c,Sg t]) B (by show 0+3<=3;decide) (by show(one u&&Ag)=Ag;rw[fu Z.1.1];rfl);have s':=s.ah 0 B up.O (a':=aO D 77 [u,Vi c,Sg t]) o λx hx=>.inl hx;exact⟨J,e,_,EQ Kq o.cells B,s'.e,u,c,t,y,l',B,⟨Z.1.app (up.O.mono λi p=>by subst p;exact hN.2) λi p=>.inl (AC p hN.1),Z.2⟩,hy⟩
  have bad:∀{H:Y},aH h H P->∃J,BA Ax 77 H D 0 (n_ ⟨[sN,Vi 0,Sg ⟨#[]⟩]⟩)=I J/\∃v,Bw Ax 77 J D 0=I v/\AA h J/\lM V fr Tx l h.a J (C4 #[v,CU Ah]):=λ{H} s=>
   Da (l':=[]) s ⟨s.e.a,(s.dD 0 B).1⟩ ⟨⟨(AS.nil _ 0 3 1).rd,λ_ h=>h.elim⟩,Al _,λ_ h=>by cases h⟩ λh=>by cases h
  refine⟨_,_,y1,_,_,y2,_,_,y3,_,_,y4 _,_,ld B (c5 g).1,_,EQ Kq (g.dD 2 B).cells B,_,yh (A.C g.e) M (r.C g.e) hl hp d G,?_⟩;rintro w h9 ⟨x9,hw⟩;have K:=g.C x9;rcases hw with rfl|⟨x,rs,a,n,rfl,rfl,hn,E,R⟩
  .exact⟨_,B,bad K⟩
  refine⟨_,B,_,ld B (K.q 2 _ B B),_,yD M E Pq R.b (c5 K).1 (c5 K).2 d G,?_⟩;rintro _ h10 ⟨k,r1,rfl,hr1⟩;have s10:=K.C k;obtain⟨g11,y11,C,y12,O⟩:=(aH.nil h10).va 238 eC.M r1.M;have T:=O.dD 0 B;have sP:=s10.C O.e;refine⟨_,_,y11 _,_,y12,_,ld B (T.cell B),_,_,B,Ad (λ_=>bad sP) (λk1=>?_)⟩;have hok:r1.ok=true:=by simpa using k1
  have go:∀(r:co) (m:Nat) (l':Bo),(r.a=-1/\ZbA (l'.map (bX V)) a Tx\/∃(j:Nat) (q:co),r.a=j/\rs[j]?=I q/\q.ok=Ag/\m<=(bX V j).f/\ZbA (l'.map (bX V)) a (bX V j).f)->r.a=-1\/∃(j:Nat) (q:co),r.a=j/\rs[j]?=I q/\q.ok=Ag/\j<LB V.ns/\m<64/\(∀c∈l,(c:Int)<=(bX V j).f\/(bX V j).t<=c)/\(q.a=-1/\ZbA ((l'++[j]).map (bX V)) a Tx\/∃(i:Nat) (q':co),q.a=i/\rs[i]?=I q'/\q'.ok=Ag/\((m+1))<=(bX V i).f/\ZbA ((l'++[j]).map (bX V)) a (bX V i).f):=λr m l' hr=>hr.imp And.left λ⟨j,q,e1,Q,e3,e4,e5⟩=>by
   have hj:j<LB V.ns:=by rw[←R.len];exact(cG.1 Q).1
   obtain⟨⟨_,nf⟩,_⟩:=ig M hj;obtain⟨k,⟨k1,k2⟩,k3⟩:=R.ok j q Q e3;have z:ZbA ((l'++[j]).map (bX V)) a (bX V j).t:=by rw[BS];exact ZbC.2 ⟨_,e5,B,B⟩
   exact⟨j,q,e1,Q,e3,hj,G,k1,k3.imp (λe=>⟨e,k2 e▸z⟩) λ⟨j',q',f1,f2,f3,f4,f5⟩=>⟨j',q',f1,f2,f3,G,f5▸z⟩⟩
  let F:Aa->Int->As:=λv z=>[(3,Vi left),(5,AG b5 0),(7,AG b7 0),(10,AG D 0),(12,AG x 0),(14,v),(15,Vi z)]
  let Ix:Nat->As->Y->Prop:=λμ A hh=>∃(v:Aa) (l':Bo) (r:co),A=F v r.a/\LB l'<=64/\μ=65-LB l'/\(∀i∈l',∀c∈l,(c:Int)<=(bX V i).f\/(bX V i).t<=c)/\(r.a=-1/\ZbA (l'.map (bX V)) a Tx\/∃(j:Nat) (q:co),r.a=j/\rs[j]?=I q/\q.ok=Ag/\(LB l')<=(bX V j).f/\ZbA (l'.map (bX V)) a (bX V j).f)/\aH C hh [aS C.a 3 1 v (LB l') (Bn l')]
  have E:=E.C (k.trans O.e);have s13:=(aH.nil C).add (a:=aS C.a 3 1 sN 0 (Bn [])) (AA.refl _) (AS.nil _ _ _ _) λi p=>p.elim;refine⟨_,ld B (T.cell B),Ix,⟨_,_,Sq,G,sN,[],r1,B,Al _,B,(λ_ h=>by cases h),.inr (by
   obtain⟨j,q,e1,Q,e3,e4⟩:=hr1 hok;have w:=iL M e4;exact⟨j,q,e1,Q,e3,(ig M w.1).1.1,w.2.symm⟩),s13⟩,?_⟩
  rintro μ A' hh ⟨v,U,r2,rfl,hl2,rfl,hm,hr2,s⟩ hLt;refine Bz (λk2=>?_) (λk2=>?_)
  .rcases go r2 _ _ hr2 with e|⟨j,q,e1,Q,e3,hj,h64,hc,hq⟩
   .omega
   obtain⟨v',J,t5,s5⟩:=s.ba Kq (i:=0) B (ys:=[Vi j]) B B s.e.a G (xs':=Bn (U++[j])) B (by simp[Bn]);have S5x:=E.C s5.e;obtain⟨br,cr,q0,W,at_⟩:=S5x.at_ hj;rw[Q] at W;obtain rfl:=I.inj W;have a1:=(at_ (AA.refl _)).1;have a2:=(at_ (AA.refl _)).2.at (i:=0) B;have nx:=λA  sub=>(⟨_,_,sub,(G:65-(LB U+1)<65-LB U),v',U++[j],q,B,by rw[Aj];exact h64,by rw[Aj];rfl,(λi p=>by
    rcases dF.1 p with p|p
    .exact hm i p
    .rw[bQ.1 p];exact hc),by rw[Aj];exact hq,by rw[Aj];exact s5⟩:∃m' A0,Sub A0 A/\m'<65-LB U/\Ix m' A0 J)
   rw[e1];exact⟨_,_,i3 50 _ 1 (Vi j) _,_,_,t5,_,ld B a1,G,_,Dz (ld B a2) B,nx _ (Sq)⟩
  .have X:=sP.C s.e
   have nn:h.a<=hh.a/\D<hh.a:=⟨X.e.a,(X.dD 0 B).1⟩;refine⟨_,ld B (c5 X).1,_,ld B (c5 X).2,_,qf (A.C X.e) M (s.sl 0 B).rd G d G,?_⟩;rintro _ h14 ⟨x14,u,c,t,y,l',rfl,Z,hy,_⟩;exact Da (X.C x14) nn Z λh=>by obtain⟨e,h1,h2,_⟩:=hy h;subst e;exact⟨h1,h2,hr2.elim And.right λ⟨_,_,e,_⟩=>G,λm w=>by obtain⟨i,p,rfl⟩:=dP.1 w;exact hm i p⟩
end
section
variable{V:Cb} {k:Nat}
def AA.bk2 (a:AA h0 h) (b:AA h0 J):AA h0 (h.M J):=
 ⟨by rw[CL];exact b.a,λi k=>by rw[DF];exact b.t i k,λN d c=>by rw[J7];exact Rx (a.lo N d c) (b.lo N d c),
  λN b0 d e c=>by rw[J7];exact YY e (a.g N b0 d e c) (b.g N b0 d e c),λn P j c=>by rw[J7];exact Zv (a.f n P j c) (b.f n P j c)⟩
def aH.bk2 {c:Y} {f l:List Ct} (s:aH h0 c f) (b:aH h0 J l):aH h0 (c.M J) l:=
 ⟨s.e.bk2 b.e,λi a d=>⟨a.M (b.2.1 i a d).1,(b.2.1 i a d).2⟩,b.2.2⟩
def xZ {a b:Int}:Bk S L 1 137 [Vi a,Vi b] h λw J=>J=h/\∃y,w=CU y:=
 Cn f137 λd e _=>Ad (λ_=>⟨B,_,B⟩) (λ_=>⟨B,_,B⟩)
def pS {D:Dt} {f:Nat} {n:BI} {p:Int} (A:DT h f D) (g:aC h b 0 (AG f 0)):iB S L 3 134 [n_ ⟨Bt n⟩,Vi p,AG b 0] h λw J=>∃z,w=Vi z:=
 Cn f134 λd j _=>by
  let⟨l,m,a⟩:=(aH.nil h).box Ax 109 (n_ ⟨Bt n⟩);refine⟨_,_,m,_,ld B (a.q 0 _ B B),Ad (λ_=>⟨a.e,_,B⟩) (λ_=>⟨_,ld B (g.C a.e),_,vX (A.C a.e) d G,?_⟩)⟩;rintro _ _ ⟨rfl,z,rfl,_⟩;exact⟨a.e,z,B⟩
def xY {o dy:Nat} {s:Option BD} {ns:List BI} (M:LB ns<=100000) (n:Nat->Y->Prop) (m:∀k g,n k g->aC g b 0 (PA s (LB ns) r)/\Rd g (PA s (LB ns) r) 7 (LB ns) (jL Bt ns)) (h0:n 1 h) (z:0<LB ns)
 (C:∀k g,n (k+1) g->k+1<LB ns->ZP S L dy (.yield o) [n_ ⟨Bt (j_ ns k DS)⟩,n_ ⟨Bt (j_ ns (k+1) DS)⟩] g.ad λu J=>u=CU Ag/\N5 g J.lo/\n (k+2) (g.M J)):
 Bk S L (dy+1) 222 [l_ (.yield o) #[] #[],AG b 0] h λ_ J=>n (LB ns) J:=
 Cn f222 λd D N=>by
  refine⟨λy A g=>∃k:Nat,A=[(0,l_ (.yield o) #[] #[]),(1,AG b 0),(3,Vi (k+1:Nat))]/\k+1<=LB ns/\y=LB ns-k/\n (k+1) g,
   ⟨_,_,Sq,G,0,B,z,B,h0⟩,?_⟩
  rintro y A g ⟨k,rfl,O,rfl,j⟩ E;have p:=(m _ g j).1;refine⟨_,ld B p,Bz (λe=>?_) (λe=>?_)⟩
  .have l:k+1<LB ns:=G
   obtain⟨a,c,q,_,t⟩:=(m _ g j).2.el (i:=k) G;cases q;obtain⟨a,c,q,_,v⟩:=(m _ g j).2.el l;cases q;have x:∀i,i<LB ns->ns[i]?=I (j_ ns i DS):=λi F=>by rw[Ak,Ab F];rfl
   rw[flatK (f:=Bt) (λ_=>B) ns (x k G)] at t;rw[flatK (f:=Bt) (λ_=>B) ns (x _ l)] at v;refine⟨[.w 10],Kq,_,ld B p,Pq,G,_,EQ Kq (by rw[show(((k+1:Nat):Int)-1).toNat=k by omega];exact t) B,_,ld B p,G,_,EQ Kq v B,_,C k g j l d G,?_⟩;rintro _ P ⟨rfl,H,K⟩;exact⟨H,_,_,B,Pq,_,_,Sq,G,k+1,B,l,B,K⟩
  .have e:k+1=LB ns:=G
   rw[e] at j;exact j
end
section
variable{V:Cb} {k:Nat}
def aH.zah {t:Ai} {z:Aa} (c:CP τ t=I z) {l:List Ct} (s:aH h0 h l) {v:Aa} (d:(match τ.b.get t with|some i=>Am (LB (AJ v)) i.size|none=>Ah)=Ag) (f:LB (AJ v)=LB (AJ z)) (m:(AJ v).all one=Ag):
 ∃b,(∀A,D9 τ A h (.alloc t)=I (AG h.a 0,b))/\∃a,BA τ t b h.a 0 v=I a/\AA h a/\aH h0 a (aO h.a t (AJ v)::l):=by
 let⟨b,g,a,j,q⟩:=(aH.nil h).var c d f m;exact⟨b,g,a,j,q.e,s.add q.e (q.dD 0 B) λi k=>A2 k.symm⟩
def yu:Bk S L 1 136 [v] h λw J=>w=l_ (.func 222) #[] #[AG h.a 0]/\aH h J [aO h.a 72 (AJ v)]:=
 Cn f136 λd b f=>by
  let⟨g,c,e⟩:=(aH.nil h).box Ax 72 v;exact⟨_,_,c,B,e⟩
def yt {e:Ai} {v:Aa} (a:N<=h.a):AS (BN h e [v]) N e 1 (sL h.a 1 1) 1 [v]:=⟨B,.inr ⟨h.a,1,[],B,a,Ae _,B,aQ.row _ _ _⟩⟩
def yr [Bx:aF S L] (A:EI h lp V) (ok:V.O) {l:Bo} {u:Aa} {c:Int} {x:Bd} (r:Rd h u 1 (LB l) (Bn l)) (hl:LB l<=1000) (hp:0<LB l) (hc:fE V l (LB l)) (h0:ZbA (l.map (bX V)) 0 n):
 iB S L 9 65 [AG V.a 0,AG lp 0,n_ ⟨[u,Vi c,Sg x]⟩] h λw J=>∃bs:Bo,AS J h.a 3 1 w (LB bs) (Bn bs)/\2<=LB bs/\LB bs<=LB l+1/\ZbH (l.map (bX V)) n bs:=
 Zd (fn:=f65) Kq B λd hd'=>by
  have hL:=Bx.a;obtain⟨_,A0,c0,rfl,_⟩:=id r;obtain⟨g1,y1,s1⟩:=(aH.nil h).box Ax 65 (AG V.a 0);obtain⟨g2,y2,s2⟩:=s1.box Ax 77 (n_ ⟨[PA A0 (LB l) c0,Vi c,Sg x]⟩);obtain⟨U,hb3⟩:∃b,b=h.a:=⟨_,B⟩;obtain⟨b5,hb5⟩:∃b,b=g1.a:=⟨_,B⟩;rw[←hb3] at y1 s2;rw[←hb5] at y2 s2;have s2:aH h g2 [aO b5 77 [PA A0 (LB l) c0,Vi c,Sg x],aO U 65 [AG V.a 0]]:=s2;refine⟨Dc B,_,_,y1,_,_,y2,_,EQ (k:=3) Kq (s2.dD 0 B:aQ g2 b5 77 [PA A0 (LB l) c0,Vi c,Sg x]).cells B,_,yB (A.C s2.e) ok (r.C s2.e) hl hc d G,?_⟩;rintro nv E ⟨x3,R⟩;obtain⟨j,hns⟩:∃j,j=l.map (bX V):=⟨_,B⟩;have nl:LB l=LB j:=by rw[hns,A4]
  rw[←hns] at R h0⊢;rw[nl] at R hl hp⊢;have lt:∀n∈j,n.f<n.t:=λn hn=>by
   rw[hns] at hn;obtain⟨i,o,rfl⟩:=dP.1 hn;exact(ig ok (hc.mem i o)).2.1.1
  have nok:∀n∈j,0<=n.f/\n.f<=1000000/\0<=n.t/\n.t<=1000000:=λn hn=>by
   rw[hns] at hn;obtain⟨i,o,rfl⟩:=dP.1 hn;obtain⟨⟨a1,a2⟩,⟨a3,a4⟩,_⟩:=ig ok (hc.mem i o);have:=ok.1.2;exact⟨a1,G,G,a4⟩
  obtain⟨bn,cn,rfl⟩:=R.lit hp;have s3:=s2.add (a:=aS g2.a 109 7 (sL bn (LB j) cn) (LB j) (jL Bt j)) x3 R R.ai;have gt:∀i,i<LB j->j[i]?=I (j_ j i DS)/\j_ j i DS∈j:=λi o=>by rw[Ak,Ab o];exact⟨B,Bu o⟩
  have nd:∀{H:Y},AA E H->∀i,i<LB j->BK H bn (0+i*7) (Bt (j_ j i DS)):=λX i o=>by
   obtain⟨a,c,e9,_,q1⟩:=(R.C X).rd.el o;cases e9
   rwa [flatK (f:=Bt) (λ_=>B) j (gt i o).1] at q1
  have l0:=(nd (AA.refl _) 0 hp).at (i:=0) B;obtain⟨n1,n2,n3,n4⟩:=nok _ (gt 0 hp).2;obtain⟨p0,hp0⟩:=B9 n1;have zp:p0=0:=by have h:(0:Int)=(j_ j 0 DS).f:=(ZbK h0 hp).1;omega
  refine⟨_,ld B (s3.q 2 0 B B:aC E U 0 (AG V.a 0)),_,B,Bz (λk=>by omega) (λ_=>?_)⟩;obtain⟨g4,y4,g5,y5,t5⟩:=(aH.nil E).var (τ:=Ax) (t:=245) (z:=.nilFunc) Kq (v:=l_ (.func 134) #[] #[AG U 0]) B B B;have t6:=t5.add (a:=aS E.a 3 1 (sL g5.a 1 1) 1 (Bn [p0])) (AA.row g5 3 _) (yt t5.e.a) λi o=>A2 o.symm;obtain⟨g7,y7,g8,y8,t8⟩:=t6.var (τ:=Ax) (t:=50) (z:=sN) Kq (v:=sL g5.a 1 1) B B B;obtain⟨b8,hb8⟩:∃b,b=E.a:=⟨_,B⟩;obtain⟨N,hb9⟩:∃b,b=(BN g5 3 (Bn [p0])).a:=⟨_,B⟩;have t8:aH E g8 [aO N 50 [sL g5.a 1 1],aS E.a 3 1 (sL g5.a 1 1) 1 (Bn [p0]),aO b8 245 [l_ (.func 134) #[] #[AG U 0]]]:=by rw[hb9,hb8];exact t8
  rw[←hb8] at y4 y5;have y7':∀A,D9 Ax A (BN g5 3 (Bn [p0])) (.alloc 50)=I (AG N 0,g7):=λA=>by rw[hb9];exact y7 A
  have y8':BA Ax 50 g7 N 0 (sL g5.a 1 1)=I g8:=by rw[hb9];exact y8
  have l0':=l0.C t5.e;rw[hp0] at l0';refine⟨_,_,y4 _,_,y5,G,_,Dz (ld B l0') B,_,_,i3 50 3 1 (Vi p0) _,_,_,y7' _,_,y8',_,yu d G,?_⟩;rintro _ h9 ⟨rfl,q9⟩;have t9:=t8.add (a:=aO g8.a 72 [sL bn j.length cn]) q9.e (q9.dD 0 B) λi o=>A2 o.symm;obtain⟨bb,hbb⟩:∃b,b=g8.a:=⟨_,B⟩;rw[←hbb] at t9⊢;refine⟨XI (τ:=Ax) (f:=222) (fn:=f222) Kq B,T3 λK hLp M=>?_⟩;have tb:=t9.n2 (.aq Ah) (K .ready Z);obtain⟨q,hG⟩:∃q,q=A3 h9.a:=⟨_,B⟩;rw[←hG] at tb M⊢;have c3:aC E U 0 (AG V.a 0):=s3.q 2 _ B B;have AD:∀{H:Y},AA E H->DT H V.a V.D/\aC H U 0 (AG V.a 0):=λX=>⟨A.D.C (s3.e.trans X),c3.C X⟩
  let P:LoopState->Aa->Bo->List Ct:=λst v bs=>[aB q (K st Z),aB h9.a (.aq Ah),aO bb 72 [sL bn (LB j) cn],aO N 50 [v],aS E.a 3 1 v (LB bs) (Bn bs),aO b8 245 [l_ (.func 134) #[] #[AG U 0]]]
  let Jx:Nat->Y->Prop:=λk C=>∃(v:Aa) (bs:Bo),1<=LB bs/\LB bs<=k/\ZbI j p0 k bs/\aH E C (P .ready v bs)
  have hy:∀k C,Jx (k+1) C->k+1<LB j->ZP S L 4 (.yield q) [n_ ⟨Bt (j_ j k DS)⟩,n_ ⟨Bt (j_ j (k+1) DS)⟩] C.ad λu J=>u=CU Ag/\N5 C J.lo/\Jx (k+2) (C.M J):=by
   rintro k C ⟨v,bs,q1,q2,q3,s⟩ hk n hn';obtain⟨m,rfl⟩:∃m,n=m+1:=⟨n-1,G⟩;have sm:=s.C (AA.ad C);refine M m [(8,AG b8 0),(9,AG N 0)] _ C.ad _ (Sq) (sm.a7 0 B) ?_;obtain⟨g7,y7,g8,y8,e8,s8⟩:=sm.zah (τ:=Ax) (t:=109) (z:=n_ ⟨Bt DS⟩) Kq (v:=n_ ⟨Bt (j_ j k DS)⟩) B B B;obtain⟨ga,ya,gb,yb,eb,sb⟩:=s8.zah (τ:=Ax) (t:=109) (z:=n_ ⟨Bt DS⟩) Kq (v:=n_ ⟨Bt (j_ j (k+1) DS)⟩) B B B;refine⟨_,_,y7 _,_,y8,_,_,ya _,_,yb,sb.a7 2 B,?_⟩;have u1:=Er.put gb q (K .busy Z);have sc:=sb.ah 2 (a':=aB q (K .busy Z)) B u1.O ⟨by rw[Cc];exact(sb.2.1 2 _ B).1.1,by rw[BQ,Bi B]⟩ (λx hx=>.inl hx);have cA:B0 (λi=>i=q\/i=N\/BY v i) C.ad (gb.put q (K .busy Z)):=((e8.trans eb).O _).trans (u1.O.mono λi o=>.inl o);generalize gb.put q (K .busy Z)=gc at sc cA⊢;have nk:Bt (j_ j k DS)=AJ (n_ ⟨Bt (j_ j k DS)⟩):=B;have fc:∀{H:Y},AA gc H->aC H b8 0 (l_ (.func 134) #[] #[AG U 0]):=λX=>(sc.q 7 _ B B).C X;have o1:aQ gc C.ad.a 109 (Bt (j_ j k DS)):=sc.dD 1 B;have o2:aQ gc g8.a 109 (Bt (j.getD (k+1) DS)):=sc.dD 0 B;refine⟨[],Kq,_,ld B (fc (AA.ad _)),_,EQ (k:=7) Kq o1.cells B,_,ld B (o1.cell (i:=4) B),_,pS (AD (sc.e.trans (AA.ad _))).1 (AD (sc.e.trans (AA.ad _))).2 m G,?_⟩;rintro _ gd ⟨xd,z1,rfl⟩;have sd:=sc.bz xd;have R:=o2.C xd.M;refine⟨xd.C,_,ld B (fc (xd.M.trans (AA.ad _))),_,EQ (k:=7) Kq R.cells B,_,ld B (R.cell (i:=3) B),_,pS (AD (sd.e.trans (AA.ad _))).1 (AD (sd.e.trans (AA.ad _))).2 m G,?_⟩;rintro _ ge ⟨xe,z2,rfl⟩;have se:=sd.bz xe;refine⟨xe.C,_,xZ m G,?_⟩;rintro _ _ ⟨rfl,y,rfl⟩;have nb2:AA ((gc.M gd).M ge) (((gc.M gd).M ge).M ((gc.M gd).M ge).ad):=AT (AA.refl _);have sf:=se.C nb2;have cB:=cA.trans ((xd.M.trans (xe.M.trans nb2)).O _);have o4:=(R.C xe.M).C nb2;refine⟨B,?_⟩;generalize((gc.M gd).M ge).M ((gc.M gd).M ge).ad=gf at sf cB o4⊢;have live:∀i,(i=q\/i=N\/BY v i)->∃F,C.t.get i=I F/\F.live=true:=λi o=>by
    rcases o with rfl|rfl|o
    .exact⟨_,s.a7 0 B,hLp _ _⟩
    .obtain⟨_,_,_,g,_⟩:=s.dD 3 B
     exact⟨_,g,B⟩
    .exact(s.sl 4 B).live o
   have done:∀{H:Y} {T O l2},B0 (λi=>i=q\/i=N\/BY v i) C.ad H->1<=LB O->LB O<=k+2->ZbI j p0 (k+2) O->aH E H (l2::aO C.ad.a 109 (Bt (j_ j k DS))::P .busy T O)->N5 C (H.put q (K .ready Z)).lo/\Jx (k+2) (C.M (H.put q (K .ready Z))):=λ{H T O l2} c p1 p2 p3 s'=>by
    have u2:=Er.put H q (K .ready Z);have sg:=s'.ah 2 (a':=aB q (K .ready Z)) B u2.O ⟨by rw[Cc];exact(s'.2.1 2 _ B).1.1,by rw[BQ,Bi B]⟩ (λx hx=>.inl hx);exact⟨(c.trans (u2.O.mono λi o=>.inl o)).O λi o=>.inl (live i o),T,O,p1,p2,p3,s.bk2 (sg.drop 2)⟩
   cases y with
   |false=>exact⟨.busy,Z,sf.a7 2 B,B,done cB q1 G (ZbJ h0 lt hk q3).1 sf⟩
   |true=>
   obtain⟨a1,a2,_⟩:=nok _ (gt (k+1) hk).2;obtain⟨p,hp⟩:=B9 a1;obtain⟨T,J,t5,o5,c5,f5⟩:=Tz (τ:=Ax) (st:=50) (t2:=50) (e:=3) (k:=1) Kq (sf.sl 6 B) (ys:=[Vi p]) B B (by have:=sf.e.a;omega) G;have s6:=sf.ah 6 B c5 (a':=aS E.a 3 1 T (LB bs+1) _) o5 f5;obtain⟨h6,e6,o6,u6⟩:=aQ.st (τ:=Ax) (t:=50) B (s6.dD 5 B) (i:=0) (v:=T) (by show 0<1;decide) (D5 o5);have W:=s6.ah 5 B u6.O (a':=aO N 50 [T]) o6 λx hx=>.inl hx;have W:aH E h6 (aO g8.a 109 (Bt (j_ j (k+1) DS))::aO C.ad.a 109 (Bt (j_ j k DS))::P .busy T (bs++[p])):=by
    show aH E h6 [aO g8.a 109 (Bt (j_ j (k+1) DS)),aO C.ad.a 109 (Bt (j_ j k DS)),aB q (K .busy Z),aB h9.a (.aq Ah),aO bb 72 [sL bn (LB j) cn],aO N 50 [T],aS E.a 3 1 T (LB (bs++[p])) (Bn (bs++[p])),aO b8 245 [l_ (.func 134) #[] #[AG U 0]]];rw[show Bn (bs++[p])=Bn bs++[Vi p] from BS,Aj];exact W
   have l4:aC gf g8.a 0 (Vi p):=hp▸o4.cell (i:=0) B;exact⟨_,ld B (sf.q 5 _ B B:aC gf N 0 v),_,ld B l4,_,_,i3 50 3 1 (Vi p) _,_,_,t5,_,e6,.busy,Z,W.a7 2 B,B,done ((cB.trans (c5.mono λi o=>.inr (.inr o))).trans (u6.O.mono λi o=>.inr (.inl o))) (by rw[Aj];omega) (by rw[Aj,Br];omega) ((ZbJ h0 lt hk q3).2 p hp q1) W⟩
  refine⟨_,xY G Jx (dy:=4) (λk C ⟨v,bs,_,_,_,s⟩=>⟨s.q 2 _ B B,Rd.C R.rd s.e⟩) ⟨_,[p0],Ae _,Ae _,⟨g_ _ _,λb F=>by rw[bQ.1 F];exact⟨dK hp0.symm,λm o=>.inl (by have:=((ZbE h0 lt).2 m o).1;omega)⟩,B⟩,tb⟩ hp hy d G,?_⟩;rintro u hz ⟨v,bs,q1,q2,q3,s⟩;refine⟨.ready,Z,s.a7 0 B,Jq,?_⟩;have W:=s.pu 0 (K .exhausted Z) B;generalize hz.put q (K .exhausted Z)=hw at W⊢;obtain⟨n5,n6,n7,n8⟩:=nok _ (gt (j.length-1) G).2;obtain⟨pl,hpl⟩:=B9 n7;have ll:=(nd W.e (LB j-1) G).at (i:=1) B;rw[hpl] at ll;obtain⟨gx,e1,v8,h8,t8,s8,_⟩:=W.bO 50 3 1 4 [Vi pl] (LB (bs++[pl])) (Bn (bs++[pl])) B (by have:=W.e.a;omega) G wl BS;subst e1;refine⟨[],Kq,_,ld B (W.q 3 0 B B:aC hw N 0 v),Pq,G,_,Dz (ld B ll) (by show 0+((LB j:Int)-1).toNat*7+1=_;omega),_,_,i3 50 3 1 (Vi pl) _,_,_,t8,?_⟩
  let Q:List Ct:=[aO bb 72 [sL bn (LB j) cn],aO N 50 [v],aS E.a 3 1 v8 (LB (bs++[pl])) (Bn (bs++[pl])),aO b8 245 [l_ (.func 134) #[] #[AG U 0]]]
  obtain⟨m1,m2,m3,m4⟩:=aH.aq (l:=Q) (D:=[h9.a]) ((s8.drop 1).perm (l':=Q++Oc [h9.a]) (Gm _ _).symm);exact JM _ m1 m2 λJ _ hc=>⟨s3.e.trans (m4 J hc).e,bs++[pl],((m4 J hc).sl 2 B).mono s3.e.a,by rw[Aj,Br];omega,by rw[Aj,Br];omega,by
   have e:pl=n:=by have:=ZbP h0 hp;omega
   rw[e];exact ZbF h0 lt hp (zp▸q3) q1⟩
end
section
variable{V:Cb} {k:Nat}
def jI (l:Bo) (a n:Nat):kU (n*1) ((Bn l).drop (a*1))=Bn (kU n (l.drop a)):=by
 unfold Bn;rw[BJ,BJ,g',List.map_drop]
def yq {P dy Q R V:Nat} {bv pv nv:Aa} {bs l:Bo} {ns:List BI} (hb:1<=LB bs/\LB bs<=100000) (hl:LB l<=1000) (hln:∀i∈l,i<LB ns) (hn:LB ns<=100000) (z0:ZbA (l.map λi=>j_ ns i DS) 0 n) (zh:ZbH (l.map λi=>j_ ns i DS) n bs) (s:Nat->Y->Prop)
 (b:∀k g,s k g->(aC g Q 0 bv/\aC g R 0 pv/\aC g V 0 nv)/\Rd g bv 1 (LB bs) (Bn bs)/\Rd g pv 1 (LB l) (Bn l)/\Rd g nv 7 (LB ns) (jL Bt ns))
 (X:∀k g H,AA g H->s k g->s k H) (h0:s 0 h)
 (hy:∀k g (w:Aa) (a c:Nat) (z1 z2:Int),s k g->k+1<LB bs->a<=c->c<=LB l->Rd g w 1 (c-a) (Bn (kU (c-a) (l.drop a)))->(∀i,BY w i->BY pv i)->ZbA ((kU (c-a) (l.drop a)).map λi=>j_ ns i DS) (j_ bs k 0:Nat) (j_ bs (k+1) 0:Nat)->j_ bs k 0<j_ bs (k+1) 0->ZP S L dy (.yield P) [w,n_ ⟨[Vi z1,Vi z2]⟩] g λu J=>u=CU Ag/\s (k+1) J):
 Bk S L (dy+1) 223 [l_ (.yield P) #[] #[],AG Q 0,AG R 0,AG V 0] h λ_ J=>s (LB bs-1) J:=
 Cn f223 λd hd' hL=>by
  obtain⟨⟨c1,_,_⟩,rb,rp,rn⟩:=b 0 h h0;obtain⟨_,A1,n1,rfl,_⟩:=id rb;obtain⟨_,A2x,n2,rfl,_⟩:=id rp;obtain⟨_,A3x,n3,rfl,_⟩:=id rn;obtain⟨w,e1,r1,_⟩:=Rd.slice Kq rb (lo:=I (Vi (1:Nat))) (U:=Z) B B hb.1 (Ae _);obtain⟨_,O,n4,rfl,_⟩:=id r1;have W:∀{H:Y},Rd H (PA A1 (LB bs) n1) 1 (LB bs) (Bn bs)->Rd H (PA O (LB bs-1) n4) 1 (LB bs-1) (Bn (kU (bs.length-1) (bs.drop 1))):=λrb=>by
   obtain⟨w,e2,r2,_⟩:=Rd.slice Kq rb (lo:=I (Vi (1:Nat))) (U:=Z) B B hb.1 (Ae _);rw[e1] at e2;cases e2
   rwa [jI] at r2
  have hbl:LB ((bs.drop 1).take (bs.length-1))=LB bs-1:=by rw[Cg,AV];omega
  let F:Nat->Int->Nat->As:=λa z k=>[(0,l_ (.yield P) #[] #[]),(1,AG Q 0),(2,AG R 0),(3,AG V 0),(5,Vi a),(6,Vi z),(12,PA O (LB bs-1) n4),(13,Vi (LB bs-1)),(14,Vi k)]
  let Ix:Nat->As->Y->Prop:=λm A g=>∃(k a:Nat) (z:Int),A=F a z k/\k<=LB bs-1/\(a<=LB l/\ZbA ((k_ a l).map λi=>j_ ns i DS) (j_ bs k 0:Nat) n)/\m=LB bs-1-k/\s k g
  refine⟨_,ld B c1,_,_,Cs (CN _) e1,Ix,⟨_,_,Sq,G,0,0,0,B,Al _,⟨Al _,by rw[Ak,zh.2.1];exact z0⟩,B,h0⟩,?_⟩;rintro m A g ⟨k,a,z,rfl,hk,⟨ha,za⟩,rfl,j⟩ hLt;refine Bz (λk1=>?_) (λk1=>?_);rotate_left
  .obtain rfl:k=LB bs-1:=G
   exact j
  have hkl:k<LB bs-1:=G;obtain⟨BL,MB⟩:=(ZbX zh).1 k G;obtain⟨⟨_,_,_⟩,rbh,_,_⟩:=b k g j;obtain⟨a4,c4,e9,_,q⟩:=(W rbh).at_ G;cases e9;have q1:=q k _ (GH (by rw[hbl];exact hkl));obtain⟨rt,hrt⟩:∃r,r=j_ ((bs.drop 1).take (bs.length-1)) k 0:=⟨_,B⟩;have RE:rt=j_ bs (k+1) 0:=by rw[hrt,Ak,Ak,LS,Bi hkl,Eg,Nat.add_comm]
  let F2x:Nat->As:=λc=>[(0,l_ (.yield P) #[] #[]),(1,AG Q 0),(2,AG R 0),(3,AG V 0),(5,Vi c),(6,Vi z),(8,Vi rt),(9,Vi a),(12,PA (I a4) (LB bs-1) n4),(13,Vi (LB bs-1)),(14,Vi k)]
  let I2x:Nat->As->Y->Prop:=λm A g=>∃c:Nat,A=F2x c/\a<=c/\(c<=LB l/\∃u:Int,ZbA ((kU (c-a) (l.drop a)).map λi=>j_ ns i DS) (j_ bs k 0:Nat) u/\ZbA ((k_ c l).map λi=>j_ ns i DS) u n/\u<=(j_ bs (k+1) 0:Nat))/\m=LB l-c/\s k g
  refine⟨G,_,Dz (ld B q1) xU,I2x,⟨_,_,Sq,G,a,B,Ae _,⟨ha,_,by rw[qY];exact B,za,G⟩,B,j⟩,?_⟩;rintro m A C ⟨c,rfl,v,⟨o,u,u1,u2,u3⟩,rfl,j⟩ hLt;have pc:∀{H:Y} {k},s k H->∀{i},i<LB l->∃(p:BD) (j:Nat) (n:BI) (N:BD),A2x=I p/\A3x=I N/\j<LB ns/\aC H p.block (p.off+(i:Int).toNat*1) (Vi j)/\BK H N.block (N.off+(j:Int).toNat*7) (Bt n)/\n=j_ ns (j_ l i 0) DS:=λ{H k} j {i} C=>by
   obtain⟨_,_,rp,rn⟩:=b k H j;obtain⟨p,c,e,_,q⟩:=rp.at_ G;cases e;have t:j_ l i 0<LB ns:=hln _ (by rw[Ak,Ab C];exact Bu C);obtain⟨N,c,e,_,qn⟩:=rn.el t;cases e;rw[flatK (f:=Bt) (λ_=>B) ns (Ab t)] at qn;exact⟨p,_,_,N,B,B,t,by rw[BJ];exact q i _ (GH C),qn,(λj h=>by rw[Ak,Ab h];rfl:∀j (h:j<LB ns),ns[j]=j_ ns j DS) _ t⟩
  obtain⟨⟨_,c2,c3⟩,_⟩:=b k C j;have x:=X _ _ _ (AT (AA.refl C)) j;refine⟨[],Kq,_,ld B c2,Bz (λq1=>?_) (λq1=>?_)⟩
  .obtain⟨p,jn,N9,N,rfl,rfl,t,qa,qb,en⟩:=pc j (i:=c) G
   have hc:c<LB l:=G;have ed:k_ c l=j_ l c 0::k_ (c+1) l:=by rw[Di hc,Ak,Ab hc];rfl
   have u5:=u2;rw[ed] at u5;have u6:N9.f=u:=en▸u5.1;have NC:=MB.2 N9 (dP.2 ⟨j_ l c 0,by rw[Ak,Ab hc];exact Bu _,en.symm⟩);refine⟨_,ld B c3,_,ld B c2,G,_,Dz (ld B qa) B,G,_,Dz (ld B (qb.at (i:=0) B)) B,Bz (λq2=>⟨Pq,_,_,Sq,G,c+1,B,G,⟨G,N9.t,by rw[show c+1-a=c-a+1 by omega,qU,Eg,show a+(c-a)=c by omega,Ab hc,BS];exact ZbC.2 ⟨u,u1,by rw[show j_ l c 0=l[c] by rw[Ak,Ab hc];rfl] at en;exact⟨(Cs BI.f en.symm).trans u6,Cs BI.t en.symm⟩⟩,en▸u5.2,G⟩,B,x⟩) (λq2=>?_)⟩;have XE:u=(j_ bs (k+1) 0:Nat):=G;obtain⟨⟨_,T,d3⟩,_⟩:=b k _ x;obtain⟨⟨_,f2,_⟩,_,D,_⟩:=b k _ x;refine⟨_,ld B T,Bz (λ_=>?_) (λh=>G)⟩;have x1:=AT (AA.refl C);have qa2:=qa.C x1;have qb2:=(qb.C x1).at (i:=3) B;refine⟨[],Kq,_,ld B d3,_,ld B T,G,_,Dz (ld B qa2) B,G,_,Dz (ld B qb2) B,?_⟩;obtain⟨w5,e5,E,k5⟩:=Rd.slice Kq D (lo:=I (Vi a)) (U:=I (Vi c)) B B v o;rw[jI] at E;refine⟨_,ld B f2,_,_,Cs (CN _) e5,_,hy k _ _ a c z _ x G v o E k5 (XE▸u1) BL d G,?_⟩;rintro _ H2x ⟨rfl,y⟩;obtain⟨⟨_,g2,g3⟩,_⟩:=b _ _ y;refine⟨_,_,B,Bz (λq3=>?_) (λq3=>⟨Pq,_,_,Sq,G,k+1,c,z,B,G,⟨o,XE▸u2⟩,B,y⟩)⟩;obtain⟨p3,jn3,n3,pn3,e3,e4,hj3,K,M,_⟩:=pc y (i:=c-1) G;cases e3;cases e4;exact⟨[],Kq,_,ld B g3,_,ld B g2,Pq,G,_,Dz (ld B K) (by show _+((c:Int)-1).toNat*1=_+((c-1:Nat):Int).toNat*1;omega),G,_,Dz (ld B (M.at B)) B,Pq,_,_,Sq,G,k+1,c,_,B,G,⟨o,XE▸u2⟩,B,X _ _ _ (AT (AA.refl _)) y⟩
  .have XE:u=(j_ bs (k+1) 0:Nat):=by
    have e:=u2;rw[qD G] at e;have e:u=n:=e;omega
   obtain⟨⟨_,T,d3⟩,_⟩:=b k _ x;obtain⟨⟨_,f2,_⟩,_,D,_⟩:=b k _ x;refine⟨_,ld B T,Bz (λh=>G) (λ_=>?_)⟩;obtain⟨w5,e5,E,k5⟩:=Rd.slice Kq D (lo:=I (Vi a)) (U:=I (Vi c)) B B v o;rw[jI] at E;refine⟨_,ld B f2,_,_,Cs (CN _) e5,_,hy k _ _ a c z 0 x G v o E k5 (XE▸u1) BL d G,?_⟩;rintro _ H2x ⟨rfl,y⟩;obtain⟨⟨_,g2,g3⟩,_⟩:=b _ _ y;refine⟨_,_,B,Bz (λq3=>?_) (λq3=>⟨Pq,_,_,Sq,G,k+1,c,z,B,G,⟨o,XE▸u2⟩,B,y⟩)⟩;obtain⟨p3,jn3,n3,pn3,e3,e4,hj3,K,M,_⟩:=pc y (i:=c-1) G;cases e3;cases e4;exact⟨[],Kq,_,ld B g3,_,ld B g2,Pq,G,_,Dz (ld B K) (by show _+((c:Int)-1).toNat*1=_+((c-1:Nat):Int).toNat*1;omega),G,_,Dz (ld B (M.at B)) B,Pq,_,_,Sq,G,k+1,c,_,B,G,⟨o,XE▸u2⟩,B,X _ _ _ (AT (AA.refl _)) y⟩
end
section
variable{V:Cb} {k:Nat}
structure dI where
 u:Aa
 d:Int
 b:Bd
 l:Bo
def dI.M (p:dI):AH:=[p.u,Vi p.d,Sg p.b]
def gl (V:Cb) (h:Y) (W:Nat->Prop) (a:List dI):Prop:=∀p∈a,dO h W p.u 1 (LB p.l) (Bn p.l)/\ZbO V p.l p.b
def gl.app {W':Nat->Prop} {a:List dI} (K:gl V h W a) (c:B0 W h J) (b:∀i,W' i->W i\/h.a<=i):gl V J W' a:=λp d=>⟨(K p d).1.app c b,(K p d).2⟩
def aH.zai {l l':List Ct} (s:aH h0 h l) (f:aH h J l'):aH h0 J (l'++l):=by
 have p:=s.C f.e;refine⟨p.1,λi a d=>?_,λi j a b q d g x m o=>?_⟩
 .rw[gM] at d
  split at d
  .exact⟨(f.2.1 i a d).1,λx m=>Ao s.1.a ((f.2.1 i a d).2 x m)⟩
  .exact p.2.1 _ a d
 .rw[gM] at d g
  have n:∀{k:Nat} {c:Ct},l[k]?=I c->c.C x->x<h.a:=λ{k c} r t=>c.lt (s.2.1 _ _ r).1 x t;split at d<;>split at g
  .exact f.2.2 i j a b q d g x m o
  .have:=(f.2.1 i a d).2 x m;have:=n g o;omega
  .have:=(f.2.1 j b g).2 x o;have:=n d m;omega
  .exact p.2.2 _ _ a b G d g x m o
def yp {i pv a:Aa} (t:one i=Ag/\one pv=Ag/\one a=Ag):Bk S L 1 138 [i,pv,a] h λw J=>∃b c f:Nat,w=l_ (.func 223) #[] #[AG f 0,AG c 0,AG b 0]/\aH h J [aO f 50 [a],aO c 50 [pv],aO b 72 [i]]:=
 Cn f138 λd j p=>by
  have e:∀{v},one v=Ag->AJ v=[v]:=λ{v} h=>by cases v<;>first|rfl|cases h
  let⟨q,k,l⟩:=(aH.nil h).box Ax 72 i;let⟨r,m,n⟩:=l.box Ax 50 pv;let⟨s,o,g⟩:=n.box Ax 50 a;rw[e t.1,e t.2.1,e t.2.2] at g;exact⟨_,_,k,_,_,m,_,_,o,_,_,_,B,g⟩
def yo [Bx:aF S L] (A:EI h lp V) (ok:V.O) {pv bv:Aa} {l bs:Bo} (rp:Rd h pv 1 (LB l) (Bn l)) (rb:Rd h bv 1 (LB bs) (Bn bs)) (hb:1<=LB bs/\LB bs<=100000) (hl:LB l<=1000) (hln:∀i∈l,i<LB V.ns) (z0:ZbA (l.map (bX V)) 0 n) (zh:ZbH (l.map (bX V)) n bs):
 iB S L 14 66 [AG lp 0,pv,bv] h λw J=>∃q:List dI,LB q=LB bs-1/\AS J h.a 77 3 w (LB q) (jL dI.M q)/\gl V J (λi=>BY w i\/i<h.a) q/\∀i p,q[i]?=I p->ZbR V bs i p.l:=
 Zd (fn:=f66) Kq B λd hd'=>by
  have hL:=Bx.a;have hM:=ok.len;obtain⟨g1,y1,s1⟩:=(aH.nil h).box Ax 66 (AG lp 0);obtain⟨g2,y2,s2⟩:=s1.O (τ:=Ax) (t:=92) (z:=sN) Kq;obtain⟨b3,hb3⟩:∃b,b=h.a:=⟨_,B⟩;obtain⟨R,hb7⟩:∃b,b=g1.a:=⟨_,B⟩;have s2:aH h g2 [aO R 92 [sN],aO b3 66 [AG lp 0]]:=by rw[hb3,hb7];exact s2
  rw[←hb3] at y1;rw[←hb7] at y2;refine⟨Dc B,_,_,y1,_,_,y2 _,_,ld B (s2.q 1 0 B B:aC g2 b3 0 (AG lp 0)),_,iF (A.C s2.e) ok d G,?_⟩;rintro nv h3 ⟨x3,o3⟩;refine⟨_,yp ⟨fu o3.rd,fu rp,fu rb⟩ d G,?_⟩;rintro _ O ⟨a1,a2,a3,rfl,q9⟩;have s3:=s2.add (a:=aS g2.a 109 7 nv (LB V.ns) _) x3 o3 o3.ai;have s4:=s3.zai q9;have s5:=s4.add (a:=aS h.a 77 3 sN 0 (([]:List dI).flatMap dI.M)) (AA.refl _) (AS.nil _ _ _ _) λi j=>j.elim;refine⟨XI (τ:=Ax) (f:=223) (fn:=f223) Kq B,T3 λr _ F=>?_⟩;have tb:=s5.n2 (.aq Ah) (r .ready Z);have hG1:h.a<=A3 O.a:=by have:=s4.e.a;omega
  obtain⟨o,hG⟩:∃o,o=A3 O.a:=⟨_,B⟩;rw[←hG] at tb F hG1⊢
  let P:LoopState->Aa->List dI->List Ct:=λst v q=>[aB o (r st Z),aB O.a (.aq Ah),aS h.a 77 3 v (LB q) (jL dI.M q),aO a3 50 [bv],aO a2 50 [pv],aO a1 72 [nv],aS g2.a 109 7 nv (LB V.ns) (V.ns.flatMap Bt),aO R 92 [v],aO b3 66 [AG lp 0]]
  have b7G:R<o+1/\O.a<o+1:=by
   obtain⟨c,_⟩:=s4.dD 4 B;omega
  let Jx:Nat->Y->Prop:=λk E=>∃(v:Aa) (q:List dI),LB q=k/\o<E.a/\(gl V E (λi=>BY v i\/i<o+1) q/\∀i p,q[i]?=I p->ZbR V bs i p.l)/\aH h E (P .ready v q)
  have hy:∀k E (w:Aa) (a c:Nat) (z1 z2:Int),Jx k E->k+1<LB bs->a<=c->c<=LB l->Rd E w 1 (c-a) (Bn (kU (c-a) (l.drop a)))->(∀i,BY w i->BY pv i)->ZbR V bs k (kU (c-a) (l.drop a))->j_ bs k 0<j_ bs (k+1) 0->ZP S L 10 (.yield o) [w,n_ ⟨[Vi z1,Vi z2]⟩] E λu J=>u=CU Ag/\Jx (k+1) J:=by
   rintro k E w a c z1 z2 ⟨v,q,rfl,hGn,⟨K,KR⟩,s⟩ hk hac hcl rw_ hwb zz zl n hn';obtain⟨m,rfl⟩:∃m,n=m+1:=⟨n-1,G⟩;refine F m [(3,AG b3 0),(7,AG R 0)] _ E _ (Sq) (s.a7 0 B) ?_;obtain⟨g7,y7,g8,y8,e8,s8⟩:=s.zah (τ:=Ax) (t:=253) (z:=n_ #[Vi 0,Vi 0]) Kq (v:=n_ ⟨[Vi z1,Vi z2]⟩) B B B;refine⟨_,_,y7 _,_,y8,s8.a7 1 B,?_⟩;have u1:=Er.put g8 o (r .busy Z);have s9:=s8.ah 1 (a':=aB o (r .busy Z)) B u1.O ⟨by rw[Cc];exact(s8.2.1 1 _ B).1.1,by rw[BQ,Bi B]⟩ (λx hx=>.inl hx);have cA:B0 (λi=>BY v i\/i<o+1) E (g8.put o (r .busy Z)):=(e8.O _).trans (u1.O.mono λi j=>.inr G);have W:Rd (g8.put o (r .busy Z)) w 1 (c-a) (Bn (kU (c-a) (l.drop a))):=(rw_.C e8).O u1.O λi j e=>by
    have:=rp.aw i (hwb i j);omega
   have n8:=e8.a;have n9:(g8.put o (r .busy Z)).a=g8.a:=Cc _ _ _;generalize g8.put o (r .busy Z)=g9 at s9 cA W n9⊢;obtain⟨l1,hl1⟩:∃l1,l1=kU (c-a) (l.drop a):=⟨_,B⟩;have ll:LB l1=c-a:=by rw[hl1,Cg,AV];omega
   have rg:∀i∈l1,i<LB V.ns:=λi m=>hln i (qk (jP (hl1▸m)));rw[←hl1] at zz;have zc:=ZbD zz rg;have ne:0<LB l1:=d_ λe=>by rw[BO e] at zz;have zz:((j_ bs (LB q) 0:Nat):Int)=_:=zz;omega
   rw[←hl1,←ll] at W;refine⟨_,ld B (s9.q 9 0 B B:aC g9 b3 0 (AG lp 0)),G,_,Dz (ld B (s9.q 0 0 B B:aC g9 E.a 0 (Vi z1))) B,G,_,Dz (ld B (s9.q 0 1 B B:aC g9 E.a 1 (Vi z2))) B,_,qf (A.C s9.e) ok W G m G,?_⟩;rintro _ ga ⟨xa,u,U,X,y,M,rfl,hp,hg,hb⟩;obtain⟨e,_,_,et,ez⟩:=hg (by cases y;exact(hb B ne zc).elim;rfl);subst e;obtain⟨_,C,I,rfl,_⟩:=id hp.1.1;have sa:=s9.C xa;obtain⟨gb,yb,gc,yc,ec,sc⟩:=sa.zah (τ:=Ax) (t:=77) (z:=n_ ⟨[sN,Vi 0,Sg ⟨#[]⟩]⟩) Kq (v:=n_ ⟨[PA C (LB M) I,Vi U,Sg X]⟩) B B B;have os:=sc.sl 4 B;have hna:=xa.a;have hnc:=ec.a;obtain⟨T,gd,td,od,cd,fd⟩:=Tz (τ:=Ax) (st:=92) (t2:=92) (e:=77) (k:=3) Kq os (ys:=[PA C (LB M) I,Vi U,Sg X]) B B (by have:=sc.e.a;omega) G;have sd:=sc.ah 4 B cd (a':=aS h.a 77 3 T (LB q+1) _) od fd;obtain⟨ge,ye,oe,ue⟩:=aQ.st (τ:=Ax) (t:=92) B (sd.dD 9 B) (i:=0) (v:=T) (by show 0<1;decide) (D5 od);have se:=sd.ah 9 B ue.O (a':=aO R 92 [T]) oe λx hx=>.inl hx;have u3:=Er.put ge o (r .ready Z);have sf:=se.ah 2 (a':=aB o (r .ready Z)) B u3.O ⟨by rw[Cc];exact(se.2.1 2 _ B).1.1,by rw[BQ,Bi B]⟩ (λx hx=>.inl hx);have n3:(ge.put o (r .ready Z)).a=ge.a:=Cc _ _ _;have hnd:=cd.a;have hne:=ue.a;have vlt:∀i,BY v i->i<E.a:=(s.sl 2 B).aw;have cB:B0 (λi=>BY v i\/i<o+1) gc (ge.put o (r .ready Z)):=((cd.mono λi j=>.inl j).trans (ue.O.mono λi j=>.inr G)).trans (u3.O.mono λi j=>.inr G);have K2x:gl V (ge.put o (r .ready Z)) (λi=>BY T i\/i<o+1) (q++[⟨PA C (LB M) I,U,X,M⟩]):=λp N=>by
    rcases dF.1 N with N|N
    .have k1:=(K.app cA λi j=>.inl j).app ((xa.trans ec).O _) λi j=>.inl j
     exact(k1.app cB λi j=>j.elim (λj=>(fd i j).imp .inl id) λj=>.inl (.inr j)) p N
    .cases bQ.1 N
     exact⟨(hp.1.app (ec.O _) λi j=>.inl j).app (cB.mono λi j=>j.elim (λj=>by have:=vlt i j;omega) λj=>by omega) λi j=>j.elim (λj=>(fd i j).imp (λj=>by have:=vlt i j;omega) id) λj=>.inl G,hp.2.2,hp.2.1,et,ez⟩
   have sg:aH h (ge.put o (r .ready Z)) (P .ready T (q++[⟨PA C (LB M) I,U,X,M⟩])):=by
    show aH h _ [_,_,aS h.a 77 3 T (q++[(⟨PA C (LB M) I,U,X,M⟩:dI)]).length ((q++[(⟨PA C (LB M) I,U,X,M⟩:dI)]).flatMap dI.M),_,_,_,_,_,_];rw[Aj,E0];exact sf.drop 2
   exact⟨_,_,yb _,_,yc,_,ld B (sc.q 9 0 B B:aC gc R 0 v),_,EQ (k:=3) Kq ((sc.dD 0 B).cells:BK gc ga.a 0 [PA C (LB M) I,Vi U,Sg X]) B,_,_,i3 92 77 3 (n_ ⟨[PA C (LB M) I,Vi U,Sg X]⟩) _,_,_,td,_,ye,.busy,Z,se.a7 2 B,B,T,_,by simp,by rw[Cc];omega,⟨K2x,λi p e=>by
    rcases A8 i (LB q) with h|h
    .rw[AB h] at e;exact KR i p e
    .have e2:=(cG.1 e).1;rw[Aj,Br] at e2;obtain rfl:i=LB q:=G
     rw[Bq h,qY] at e;cases e;exact zz⟩,sg⟩
  have hb1:LB bs-1+1=LB bs:=G;refine⟨_,yq hb hl hln (ns:=V.ns) G z0 zh Jx (dy:=10) (λk E ⟨v,q,_,_,_,s⟩=>⟨⟨s.q 3 _ B B,s.q 4 _ B B,s.q 5 _ B B⟩,Rd.C rb s.e,Rd.C rp s.e,(s.sl 6 B).rd⟩)
   (λk E H x ⟨v,q,e,g,K,s⟩=>⟨v,q,e,AC g x.a,⟨K.1.app (x.O _) λi j=>.inl j,K.2⟩,s.C x⟩) ⟨sN,[],B,by rw[Ck,Ck,hG];omega,⟨(λ_ h=>by cases h),λ_ _ h=>by simp at h⟩,tb⟩ hy d G,?_⟩
  rintro u hz ⟨v,q,e,g,K,s⟩;refine⟨.ready,Z,s.a7 0 B,Jq,?_⟩;have ux:=Er.put hz o (r .exhausted Z);have s7:=s.ah 0 (a':=aB o (r .exhausted Z)) B ux.O ⟨by rw[Cc];exact(s.2.1 0 _ B).1.1,by rw[BQ,Bi B]⟩ (λx hx=>.inl hx);have K7x:=K.1.app (ux.O.mono λi j=>.inr G) λi j=>.inl j;generalize hz.put o (r .exhausted Z)=hw at s7 K7x⊢
  let Q:List Ct:=[aS h.a 77 3 v (LB q) (jL dI.M q),aO a3 50 [bv],aO a2 50 [pv],aO a1 72 [nv],aS g2.a 109 7 nv (LB V.ns) (V.ns.flatMap Bt),aO R 92 [v],aO b3 66 [AG lp 0]]
  obtain⟨m1,m2,m3,m4⟩:=aH.aq (l:=Q) (D:=[O.a]) ((s7.drop 1).perm (l':=Q++Oc [O.a]) (Gm _ _).symm);refine⟨_,ld B (s7.q 7 0 B B:aC hw R 0 v),?_⟩;exact JM _ m1 m2 λJ _ hc=>⟨(m4 J hc).e,q,e,(m4 J hc).sl 0 B,K7x.app (hc.mono λi j=>.inr (by rw[bQ.1 j];exact b7G.2)) λi j=>.inl (j.imp id λj=>by omega),K.2⟩
end
section
variable{V:Cb} {k:Nat}
def xO {bs:Bo} (r:Rd h v 1 (LB bs) (Bn bs)) (C:LB bs<=100000) (D:n<=1000000):iB S L 1 63 [v,Vi n] h λw J=>∃y,w=CU y/\(y=Ag->2<=LB bs/\LB bs<=n+1):=
 Cn f63 λd l E=>by
  have b:∀{H:Y},AA h H->AA h H/\∃y,CU Ah=CU y/\(y=Ag->2<=LB bs/\LB bs<=n+1):=λx=>⟨x,_,B,λh=>by cases h⟩;obtain⟨_,F,m,rfl,_⟩:=id r;refine Bz (λ_=>b (AA.refl h)) (λK=>Bz (λ_=>b (AA.refl h)) (λM=>?_));have o:2<=LB bs:=G;obtain⟨a,c,e,_,q⟩:=r.at_ G;cases e;have q:∀{H:Y} {j:Nat},AA h H->j<LB bs->aC H a.block (a.off+j) (Vi (bs.getD j 0)):=λx p=>(q _ _ (GH p)).C x;refine⟨G,_,Dz (ld B (q (AA.refl h) (j:=0) G)) B,Ad (λ_=>b (AA.refl h)) (λN=>⟨Pq,G,_,Dz (ld B (q (AA.refl h) (j:=LB bs-1) G)) xU,Ad (λ_=>b (AA.refl h)) (λg=>?_)⟩)⟩;have g:((bs.getD (LB bs-1) 0):Int)=n:=by simpa using g
  refine⟨λi A f=>∃k:Nat,A=[(0,PA (I a) (LB bs) m),(5,Vi (k+1))]/\k+1<=LB bs/\i=LB bs-k/\k<=j_ bs k 0/\AA h f,⟨_,_,Sq,G,0,B,G,B,Al _,AA.refl h⟩,?_⟩;rintro i A f ⟨k,rfl,O,rfl,P,x⟩ s;refine Bz (λt=>?_) (λt=>⟨x,_,B,λ_=>⟨o,by
   obtain rfl:k=LB bs-1:=G;omega⟩⟩)
  have u:=q x (j:=k+1) G;have z:=q x (j:=k) G;refine⟨[],Kq,G,_,Dz (ld B u) xU,Pq,G,_,Dz (ld B z) xU,Bz (λ_=>b (x.trans (AT (AA.refl f)))) (λR=>⟨Pq,_,_,Sq,G,k+1,B,G,B,G,x.trans (AT (AA.refl f))⟩)⟩
def xN {j g:Aa} {bs:Bo} {a:AH} (r:Rd h j 1 bs.length (Bn bs)) (u:Rd h g 1 (LB a) a) (v:LB bs<=100000) (K:LB a<=100000) (A:n<=1000000):iB S L 2 41 [n_ ⟨[j,g]⟩,Vi n] h λw J=>∃z,w=Vi z/\(z=0->2<=LB bs/\LB bs<=n+1/\LB a+1=LB bs):=
 Cn f41 λd C M=>by
  obtain⟨_,l,m,rfl,_⟩:=id r;obtain⟨_,p,q,rfl,_⟩:=id u;obtain⟨s,f,b⟩:=(aH.nil h).box Ax 53 (n_ ⟨[PA l (LB bs) m,PA p (LB a) q]⟩);have o:∀{H:Y},AA s H->aQ H h.a 53 [PA l (LB bs) m,PA p (LB a) q]:=λx=>(b.dD 0 B).C x;have D:=o (AA.refl s);refine⟨_,_,f,_,ld B (D.cell B),_,xO (r.C b.e) v A d G,?_⟩;rintro _ N ⟨c,y,rfl,E⟩;have t:=o c;cases y with
  |false=>exact⟨_,_,B,b.e.trans c,1,B,λh=>Jq⟩
  |true=>
  let⟨f,F⟩:=E B;exact⟨_,_,B,_,ld B (t.cell B),_,ld B (t.cell B),Pq,Ad (λ_=>⟨b.e.trans c,1,B,λh=>Jq⟩) (λk=>⟨b.e.trans c,0,B,λ_=>⟨f,F,by
   have k:(LB a)=(LB bs)-1:=Jq;omega⟩⟩)⟩
end
section
variable{V:Cb} {k:Nat}
def gk (V:Cb) (N:Nat) (m:Bo->Prop) (h:Y) (d e pv:Aa) (y:Bool):Prop:=∃(bs:Bo) (a:AH) (c:List dI),(AS h N 3 1 d (LB bs) (Bn bs)/\AS h N 4 1 e (LB a) a/\AS h N 77 3 pv (LB c) (jL dI.M c)/\gl V h (λi=>BY pv i\/i<N) c)
 /\(y=Ag->m bs/\2<=LB bs/\LB a+1=LB bs/\LB c+1=LB bs/\LB bs<=2000/\a.all ZaA=Ag/\ZbH [] (LB V.fs) bs/\∀i p,c[i]?=I p->ZbR V bs i p.l)
def ia (V:Cb) (N:Nat) (m:Bo->Prop) (h:Y) (w:Aa):Prop:=∃(a b pv:Aa) (y:Bool),w=C4 #[n_ ⟨[a,b]⟩,pv,CU y]/\gk V N m h a b pv y
def gk.low {m:Bo->Prop} {M:Nat} {d f pv:Aa} {y:Bool} (s:gk V N m h d f pv y) (u:Er b h J) (o:b<N) (c:M<=N):gk V M m J d f pv y:=by
 let⟨bs,l,n,⟨g,j,k,K⟩,q⟩:=s;exact⟨bs,l,n,⟨(g.ah u λi a e=>by have:=g.ai i a;omega).mono c,(j.ah u λi a e=>by have:=j.ai i a;omega).mono c,(k.ah u λi a e=>by have:=k.ai i a;omega).mono c,K.app (u.O.mono λi a=>.inr G) λi a=>.inl (a.imp id λa=>G)⟩,q⟩
def gk.M {m:Bo->Prop} {b c pv:Aa} {y:Bool} (s:gk V N m J b c pv y):gk V N m (h.M J) b c pv y:=by
 let⟨bs,d,e,⟨f,g,i,K⟩,q⟩:=s;exact⟨bs,d,e,⟨f.M,g.M,i.M,λp a=>⟨⟨(K p a).1.1.M,(K p a).1.2⟩,(K p a).2⟩⟩,q⟩
def pP [eU S L] (A:EI h lp V) (ok:V.O) {l:Bo} (r:Rd h v 1 (LB l) (Bn l)) (hl:LB l<=900) (h0:l.Pairwise (.<.)/\(∀b∈l,b<=LB V.fs)/\∀x,l[0]?=I x->x=0):
 iB S L 20 42 [AG V.a 0,AG lp 0,v] h λw J=>ia V h.a (λs=>l<+:s) J w:=
 Cn f42 λd hd' hL=>by
  obtain⟨_,A0,c0,rfl,_⟩:=id r;have hN:=ok.1.2;obtain⟨g1,y1,s1⟩:=(aH.nil h).O (τ:=Ax) (t:=53) (z:=n_ #[sN,sN]) Kq;obtain⟨R,hb6⟩:∃b,b=h.a:=⟨_,B⟩;have s1:aH h g1 [aO R 53 [sN,sN]]:=by rw[hb6];exact s1
  rw[←hb6] at y1;have bad:∀{H:Y},aH h H [aO R 53 [sN,sN]]->∃J,BA Ax 53 H R 0 (n_ ⟨[sN,sN]⟩)=I J/\∃v,Bw Ax 53 J R 0=I v/\AA h J/\ia V h.a (λs=>l<+:s) J (C4 #[v,sN,CU Ah]):=λs=>by
   obtain⟨J,e,s'⟩:=s.cu (τ:=Ax) (t:=53) (K:=2) Kq (i:=0) B (vs:=[sN,sN]) B B B;exact⟨J,e,_,EQ (k:=2) Kq (s'.dD 0 B).cells B,s'.e,sN,sN,sN,Ah,B,[],[],[],⟨AS.nil _ _ _ _,AS.nil _ _ _ _,AS.nil _ _ _ _,λ_ h=>by cases h⟩,λh=>by cases h⟩
  refine⟨_,_,y1 _,_,B,_,B,_,gh (A.C s1.e) d G,?_⟩;rintro _ g1 ⟨rfl,rfl⟩;refine⟨_,yf (A.C s1.e) ok (r.C s1.e) G h0.1 d G,?_⟩;rintro _ n ⟨x3,u,c,t,y,l',rfl,hp,hy⟩;obtain⟨hr,hl',hlv⟩:=hp;have hr:=hr.1;obtain⟨_,D,c3,rfl,_⟩:=id hr;have T:=s1.C x3;obtain⟨g4,y4,g5,y5,O⟩:=(aH.nil n).va 77 [sN,Vi 0,Sg ⟨#[]⟩] [PA D (LB l') c3,Vi c,Sg t];obtain⟨U,hb9⟩:∃b,b=n.a:=⟨_,B⟩;have O:aH n g5 [aO U 77 [PA D (LB l') c3,Vi c,Sg t]]:=by rw[hb9];exact O
  rw[←hb9] at y4 y5;refine⟨_,_,y4 _,_,y5,?_⟩;cases y with
  |false=>exact⟨_,_,B,bad (T.C O.e)⟩
  |true=>
  obtain⟨hl0,hch,hf,hx⟩:=hy B;refine⟨_,_,B,_,hV (r.C (T.e.trans O.e)) G d G,?_⟩;rintro v6 h6 ⟨x6,o6⟩;have t6:=O.add (a:=aS n.a 3 1 v6 (LB l) (Bn l)) x6 (o6.mono O.e.a) o6.ai;obtain⟨_,A6x,c6,rfl,_⟩:=id o6.rd;obtain⟨g7,y7,g8,y8,t8⟩:=t6.va 53 [sN,sN] [PA A6x (LB l) c6,sN];obtain⟨g,hb11⟩:∃b,b=h6.a:=⟨_,B⟩;have t8:aH n g8 [aO g 53 [PA A6x (LB l) c6,sN],aS n.a 3 1 (PA A6x (LB l) c6) (LB l) (Bn l),aO U 77 [PA D (LB l') c3,Vi c,Sg t]]:=by rw[hb11];exact t8
  rw[←hb11] at y7 y8;refine⟨_,_,y7 _,_,y8,?_⟩;refine Bz (λk1=>?_) (λk1=>?_);obtain⟨ad,c',e9,_,q⟩:=r.at_ G;cases e9;have q9:=(q _ _ (GH (show LB l-1<LB l by omega))).C (T.e.trans t8.e);refine⟨Pq,G,_,Dz (ld B q9) xU,?_⟩
  all_goals
  refine⟨_,EQ (k:=3) Kq (t8.dD 2 B:aQ g8 U 77 [PA D (LB l') c3,Vi c,Sg t]).cells B,_,yr (A.C (T.e.trans t8.e)) ok (hr.C t8.e) hl' hl0 hch hf d G,?_⟩;rintro vb h9 ⟨x9,bs,o9,q1,q2,q3⟩;obtain⟨_,X,c9,rfl,_⟩:=id o9.rd;have t9:=t8.add (a:=aS g8.a 3 1 (PA X (LB bs) c9) (LB bs) (Bn bs)) x9 o9 o9.ai
  let P:Aa->Aa->Bo->List Ct:=λv M f=>[aS g8.a 3 1 (PA X (LB bs) c9) (LB bs) (Bn bs),aO g 53 [v,M],aS n.a 3 1 v (LB f) (Bn f),aO U 77 [PA D (LB l') c3,Vi c,Sg t]]
  let F:Option BD->Int->Nat->As:=λC z k=>[(1,AG lp 0),(2,PA C (LB l) c0),(6,AG R 0),(9,AG U 0),(11,AG g 0),(12,Vi z),(50,PA X (LB bs) c9),(51,Vi (LB bs)),(52,Vi k)]
  let Ix:Nat->As->Y->Prop:=λμ A hh=>∃(C:Option BD) (z:Int) (k:Nat) (v:Aa) (f:Bo),A=F C z k/\ZbL l z/\k<=LB bs/\μ=LB bs-k/\f=l++(kU k bs).filter (λb:Nat=>decide (z<b))/\aH n hh (P v sN f)
  refine⟨Ix,⟨_,_,(by first|exact Sq (l:=F A0 (-1) 0)|exact Sq (l:=F (I ad) ((j_ l (LB l-1) 0:Nat):Int) 0)),G,_,_,0,_,l,B,(by first|exact ZbM h0.1 G|exact⟨(λb m=>by rw[BO (show LB l=0 by omega)] at m;cases m),.inl rfl⟩),Al _,B,by simp,t9⟩,?_⟩
  rintro μ A' hh ⟨C,z,k,v,f,rfl,hz0,hk,rfl,e1,s⟩ hLt;have e2:LB f<=LB l+k:=by rw[e1,Aj];have:=List.length_filter_le (λb:Nat=>decide (z<b)) (kU k bs);rw[Cg] at this;omega
  refine Bz (λk2=>?_) (λk2=>?_)
  .have hkl:k<LB bs:=G
   obtain⟨b,c,e9,_,q⟩:=(s.sl 0 B).cell (i:=k) (GH hkl);cases e9;obtain⟨p,hp⟩:∃p,p=j_ bs k 0:=⟨_,B⟩;have ef:l++(kU (k+1) bs).filter (λb:Nat=>decide (z<b))=f++if z<p then[p] else[]:=by rw[e1,A5 hkl,O6,KA,show bs[k]=p by rw[hp,Ak,Ab hkl];rfl];by_cases q:z<p<;>simp[q]
   rw[←hp] at q;refine⟨G,_,Dz (ld B q) (by show 0+(k:Int).toNat*1=k;omega),Bz (λk3=>?_) (λk3=>⟨Pq,_,_,Sq (l:=F C z (k+1)),(G:LB bs-(k+1)<_),C,z,k+1,v,f,B,hz0,G,B,by rw[ef,Bm G,Fb],s⟩)⟩;obtain⟨j,J,O,Z,N,f5⟩:=Tz (τ:=Ax) (st:=50) (t2:=50) (e:=3) (k:=1) Kq (s.sl 2 B) (ys:=[Vi p]) B B s.e.a G;have s6:=s.ah 2 B N (a':=aS n.a 3 1 j (LB f+1) (Bn f++[Vi p])) Z f5;obtain⟨h7,y7,s7⟩:=s6.sT 50 1 0 j B (Ac rfl) (D5 Z);have s7:aH n h7 (P j sN (f++[p])):=by
    show aH n h7 [aS g8.a 3 1 _ (LB bs) (Bn bs),aO g 53 [j,sN],aS n.a 3 1 j (LB (f++[p])) (Bn (f++[p])),aO U 77 [PA D (LB l') c3,Vi _,Sg t]];rw[show Bn (f++[p])=Bn f++[Vi p] from BS,Aj];exact s7
   exact⟨_,ld B (s.q 1 0 B B:aC hh g 0 v),_,_,i3 50 3 1 (Vi p) _,_,_,O,_,y7,Pq,_,_,Sq (l:=F C z (k+1)),(G:LB bs-(k+1)<_),C,z,k+1,j,f++[p],B,hz0,G,B,by rw[ef,Bi G],s7⟩
  obtain rfl:k=LB bs:=G;rw[CS] at e1;have zh:=ZbN h0 hx q3 hz0;rw[←e1] at zh;have hn:2<=LB f:=by
   obtain⟨i,u,e⟩:=ra.1 zh.2.2.1;cases i with
   |zero=>have:=zh.2.1;rw[Ab u,e] at this;have:=I.inj this;have:=ok.1.1;omega
   |succ=>omega
  have hb1:=q2;obtain⟨_,E,N,rfl,_⟩:=(s.sl 2 B).rd;have s2:=s.nl n.a 4 1
  let Q:Aa->AH->List Ct:=λM o=>[aS n.a 4 1 M (LB o) o,aS g8.a 3 1 (PA X (LB bs) c9) (LB bs) (Bn bs),aO g 53 [PA E (LB f) N,M],aS n.a 3 1 (PA E (LB f) N) (LB f) (Bn f),aO U 77 [PA D (LB l') c3,Vi c,Sg t]]
  let F2x:Nat->As:=λk=>[(1,AG lp 0),(2,PA C (LB l) c0),(6,AG R 0),(9,AG U 0),(11,AG g 0),(69,Vi ((LB f:Int)-1)),(70,Vi k)]
  let I2x:Nat->As->Y->Prop:=λμ A hh=>∃(k:Nat) (M:Aa) (o:AH),A=F2x k/\k+1<=LB f/\μ=LB f-k/\LB o=k/\o.all ZaA=Ag/\aH n hh (Q M o)
  refine⟨_,ld B (s.q 1 0 B B:aC hh g 0 (PA E (LB f) N)),Pq,I2x,⟨_,_,Sq (l:=F2x 0),G,0,sN,[],B,G,B,B,B,s2⟩,?_⟩;rintro μ A' m ⟨_,M,o,rfl,hk,rfl,rfl,hx,s⟩ hLt;refine Bz (λk4=>?_) (λk4=>?_)
  .obtain⟨j,J,O,Z,N,f5⟩:=Tz (τ:=Ax) (st:=51) (t2:=51) (e:=4) (k:=1) Kq (s.sl 0 B) (ys:=[CU (decide (((LB o:Int)+1)<LB l))]) B B s.e.a G
   have s6:=s.ah 0 B N (a':=aS n.a 4 1 j (LB o+1) (o++[CU (decide (((LB o:Int)+1)<LB l))])) Z f5;obtain⟨h7,y7,s7⟩:=s6.sT 51 2 1 j B (Ac rfl) (D5 Z);have s7:aH n h7 (Q j (o++[CU (decide (((LB o:Int)+1)<LB l))])):=by
    show aH n h7 (aS n.a 4 1 j (LB (o++[CU (decide (((o.length:Int)+1)<l.length))])) _::_);rw[Aj];exact s7
   exact⟨_,ld B (s.q 2 1 B B:aC m g 1 M),Pq,_,_,i3 51 4 1 (CU _) _,_,_,O,_,y7,Pq,_,_,Sq (l:=F2x (LB o+1)),(G:LB f-(LB o+1)<_),LB o+1,j,_,B,G,B,by simp,by rw[Yqe,hx];rfl,s7⟩
  have hfx:LB o+1=LB f:=G;have xm:=s.e.trans (AA.ad m);refine⟨[],Kq,_,EQ (k:=2) Kq (s.dD 2 B:aQ m g 53 [PA E (LB f) N,M]).cells B,_,ld B (s.q 4 0 B B:aC m U 0 (PA D (LB l') c3)),_,ld B (s.q 2 0 B B:aC m g 0 (PA E (LB f) N)),_,yo (A.C (T.e.trans xm)) ok (hr.C xm) (Rd.C (s.sl 3 B).rd (AA.ad m)) Pq hl' hlv hf zh d G,?_⟩;rintro pv h5 ⟨x5,ps,hps,Z,K5x,KR⟩;have s5:=(T.C s.e).bz x5;obtain⟨h6,y6,o6,u6⟩:=aQ.bD (τ:=Ax) (h:=(m.M h5).ad) (t:=53) (k:=2) (i:=0) Kq (s5.dD 0 B) (vs:=[PA E (LB f) N,M]) B (by show 0+2<=2;decide) (by show(Ag&&(one M&&Ag))=Ag;rw[fu (s.sl 0 B).rd];rfl);have o6:aQ h6 R 53 [PA E (LB f) N,M]:=o6;have s6:=s5.aZ 0 B u6.O (a':=aO R 53 [PA E (LB f) N,M]) o6 λx hx=>.inl hx;have ub:=u6.M;have n1:R<n.a:=(T.dD 0 B).1;have n2:=s.e.a;have n3:=T.e.a;have xb:=x5.M;have nm:m.ad.a=m.a:=BF m;exact⟨x5.C,_,y6,_,EQ (k:=2) Kq (s6.dD 0 B).cells B,s6.e,_,M,pv,Ag,B,f,o,ps,⟨(((s.sl 3 B).C xb).ah ub λi m e=>by have:=(s.sl 3 B).ai i m;omega).mono n3,(((s.sl 0 B).C xb).ah ub λi m e=>by have:=(s.sl 0 B).ai i m;omega).mono n3,((Z.M).ah ub λi m e=>by have:=Z.ai i m;omega).mono G,λp hp=>⟨dO.app (W:=λi=>BY pv i\/i<m.ad.a) ⟨(K5x p hp).1.1.M,(K5x p hp).1.2⟩ (ub.O.mono λi m=>.inr G) λi m=>.inl (m.imp id λm=>by omega),(K5x p hp).2⟩⟩,λ_=>⟨⟨_,e1.symm⟩,hn,hfx,G,G,hx,⟨zh.1,zh.2.1,zh.2.2.1,λb m=>⟨(zh.2.2.2 b m).1,λ_ h=>by cases h⟩⟩,KR⟩⟩
end
section
variable{V:Cb} {k:Nat}
def lL {m:Bo->Prop} {l:List Ct} {a b pv:Aa} {y:Bool} (s:aH h0 h (aO c 53 [sN,sN]::l)) (P:gk V N m h a b pv y) (d:h0.a<=N/\c<N):∃J,BA Ax 53 h c 0 (n_ ⟨[a,b]⟩)=I J/\∃v,Bw Ax 53 J c 0=I v/\AA h0 J/\ia V h0.a m J (C4 #[v,pv,CU y]):=by
 obtain⟨J,e,o,u⟩:=aQ.bD Kq (s.dD 0 B) (vs:=[a,b]) B (by show 0+2<=2;decide) (by
  obtain⟨bs,p,q,⟨f,g,_,_⟩,_⟩:=P;show(one a&&(one b&&Ag))=Ag;rw[fu f.rd,fu g.rd];rfl)
 have j:=s.ah 0 B u.O (a':=aO c 53 [a,b]) o λx n=>.inl n;exact⟨J,e,_,EQ Kq o.cells B,j.e,a,b,pv,y,B,P.low u d.2 d.1⟩
def xM [eU S L] (A:EI h lp V) (j:V.O):iB S L 21 36 [AG V.a 0,AG lp 0] h λw J=>ia V h.a (λs=>([]:Bo)<+:s) J w:=
 Cn f36 λd k p=>by
  obtain⟨m,g,a⟩:=(aH.nil h).O (z:=n_ #[sN,sN]) Kq;obtain⟨n,c⟩:∃b,b=h.a:=⟨_,B⟩;have a:aH h m [aO n 53 [sN,sN]]:=c▸a;rw[←c] at g;refine⟨_,_,g _,_,pP (l:=[]) (A.C a.e) j (AS.nil _ 0 3 1).rd (Al _) ⟨.nil,(λ_ h=>by cases h),λ_ h=>by cases h⟩ d G,?_⟩;rintro _ q ⟨o,r,s,pv,y,rfl,P⟩;exact lL (a.C o) P ⟨a.e.a,(a.dD 0 B).1⟩
def gk.imp {m u:Bo->Prop} {b c pv:Aa} {y:Bool} (P:gk V N m h b c pv y) (w:∀s,m s->u s):gk V N u h b c pv y:=
 let⟨d,e,f,k,q⟩:=P;⟨d,e,f,k,λy=>⟨w _ (q y).1,(q y).2⟩⟩
def xL [eU S L] (A:EI h lp V) (ok:V.O) {bv fv:Aa} {bs:Bo} {o:AH} (r:Rd h bv 1 (LB bs) (Bn bs)) (rf:Rd h fv 1 (LB o) o) (hl:LB bs<=100000) (hf:LB o<=100000) (h0:ZbH [] (LB V.fs) bs) (hi:i<=100000):
 iB S L 21 30 [AG V.a 0,AG lp 0,n_ ⟨[bv,fv]⟩,Vi i,Vi z] h λw J=>ia V h.a (λs=>∃p,bs.take (i+1)++[p]<+:s) J w:=
 Cn f30 λd hd' hL=>by
  have hN:=ok.1.2;obtain⟨_,A0,D,rfl,_⟩:=id r;obtain⟨_,Q,R,rfl,_⟩:=id rf;obtain⟨g1,y1,s1⟩:=(aH.nil h).box Ax 53 (n_ ⟨[PA A0 (LB bs) D,PA Q (LB o) R]⟩);obtain⟨E,y2,K⟩:=s1.O (z:=n_ #[sN,sN]) Kq;obtain⟨M,X⟩:∃b,b=h.a:=⟨_,B⟩;obtain⟨W,n⟩:∃b,b=g1.a:=⟨_,B⟩;have K:aH h E [aO W 53 [sN,sN],aO M 53 [PA A0 (LB bs) D,PA Q (LB o) R]]:=by rw[n,X];exact K
  rw[←X] at y1;rw[←n] at y2;have g:∀{H:Y} {l},aH h H (aO W 53 [sN,sN]::l)->∃J,BA Ax 53 H W 0 (n_ ⟨[sN,sN]⟩)=I J/\∃v,Bw Ax 53 J W 0=I v/\AA h J/\ia V h.a (λs=>∃p,kU (i+1) bs++[p]<+:s) J (C4 #[v,sN,CU Ah]):=λ{H l} s=>
   lL s ⟨[],[],[],⟨AS.nil _ _ _ _,AS.nil _ _ _ _,AS.nil _ _ _ _,λ_ h=>by cases h⟩,λh=>by cases h⟩ ⟨s.e.a,(s.dD 0 B).1⟩
  refine⟨_,_,y1,_,_,y2 _,_,gh (A.C K.e) d G,?_⟩;rintro _ E ⟨rfl,rfl⟩;have x0:=K.e.trans (AA.ad E);have o7:∀{H:Y} {a},aH h H [a,aO M 53 [PA A0 (LB bs) D,PA Q (LB o) R]]->aQ H M 53 [PA A0 (LB bs) D,PA Q (LB o) R]:=λs=>s.dD 1 B;refine⟨[],Kq,_,EQ Kq (o7 K).cells B,_,xN (r.C x0) (rf.C x0) hl hf G d G,?_⟩;rintro _ h3 ⟨x3,zc,rfl,hz⟩;have f:=K.bz x3;refine⟨x3.C,Ad (λ_=>g f) (λk1=>?_)⟩;obtain⟨q1,q2,q3⟩:=hz (by simpa using k1);obtain⟨C,c',e9,_,q⟩:=r.at_ G;cases e9;have q:∀{H:Y} {j:Nat},AA h H->j<LB bs->aC H C.block (C.off+j) (Vi (bs.getD j 0)):=λx hj=>(q _ _ (GH hj)).C x;have c7:∀{H:Y} {a},aH h H [a,aO M 53 [PA (I C) (LB bs) D,PA Q (LB o) R]]->aC H M 0 (PA (I C) (LB bs) D):=λs=>(o7 s).cell B;have cz:=c7 f;refine⟨_,ld B ((o7 f).cell B),Bz (λ_=>g f) (λk2=>?_)⟩;have h1:i+1<LB bs:=G;have N:∀{j},j<LB bs->j_ bs j 0<=LB V.fs:=λhj=>(h0.2.2.2 _ (by rw[Ak,Ab hj];exact Bu hj)).1;have b1:=N (show i<LB bs by omega);have b2:=N h1;have l1:=q f.e (show i<LB bs by omega);have l2:=q f.e h1;have a2:C.off+((i:Int)+1).toNat*1=C.off+(i+1):=G;refine⟨_,ld B cz,G,_,Dz (ld B l1) xU,_,ld B cz,Pq,G,_,Dz (ld B l2) a2,Pq,Bz (λ_=>g f) (λk3=>⟨_,ld B cz,Pq,G,_,Dz (ld B l2) a2,Pq,Bz (λ_=>g f) (λk4=>?_)⟩)⟩;obtain⟨p,hp⟩:=B9 (show 0<=((bs.getD (i+1) 0))+z by omega);obtain⟨w5,e5,T,_⟩:=Rd.slice Kq (Rd.C r (f.e.trans (AA.ad _))) (lo:=Z) (U:=I (Vi (i+1))) (m:=i+1) B B (Al _) G;rw[jI] at T;have tl:LB ((bs.drop 0).take (i+1-0))=i+1:=by rw[dQ,Cg];omega
  obtain⟨F,t⟩:∃l,l=kU (i+1-0) (bs.drop 0):=⟨_,B⟩;rw[←t] at T tl;rw[DL,←tl] at T;refine⟨[],Kq,_,ld B cz,Pq,_,_,Cs (CN _) e5,_,hV T G d G,?_⟩;rintro u h6 ⟨x6,o6⟩;have s6:=f.cf (a:=aS (E.M h3).ad.a 3 1 u (LB F) (Bn F)) x6 o6 o6.ai;have nm:(E.M h3).ad.a=(E.M h3).a:=BF _;have nn:=x6.M.a;obtain⟨gx,e1,v8,h8,t8,k,_⟩:=s6.bo Kq (i:=0) B (ys:=[Vi (((j_ bs (i+1) 0))+z)]) B B G G (n':=LB (F++[p])) (xs':=Bn (F++[p])) wl (by rw[hp];exact BS);subst e1;have e:LB (F++[p])=i+2:=by rw[Aj,tl];rfl
  have c6:aC ((E.M h3).M h6) M 0 (PA (I C) bs.length D):=s6.q 2 _ B B;have l6:=q s6.e h1;refine⟨x6.C,_,ld B c6,Pq,G,_,Dz (ld B l6) a2,Pq,_,_,i3 50 _ 1 (Vi _) _,_,_,t8,_,pP (A.C k.e) ok (k.sl 0 B).rd G ⟨?_,λb c=>?_,λx e=>?_⟩ d G,?_⟩
  .rw[t,dQ];exact List.pairwise_append.2 ⟨h0.1.sublist (kM _ _),g_ _ _,λb m c d=>by have:=ZbU h0.1 (show i<LB bs by omega) m;rw[bQ.1 d];omega⟩
  .rcases dF.1 c with c|c
   .rw[t,dQ] at c;exact(h0.2.2.2 b (jP c)).1
   .rw[bQ.1 c];omega
  .rw[AB G,t,DL,LS,dQ,h0.2.1] at e;cases e;rfl
  rintro _ h9 ⟨x9,bv,xv,pv,y,rfl,P⟩;have P:=P.imp (u:=λs=>∃p,kU (i+1) bs++[p]<+:s) λs h=>⟨p,by rwa[t,dQ,DL] at h⟩;have s9:=(k.drop 1).C x9;exact lL s9 P ⟨k.e.a,(k.dD 1 B).1⟩
end
section
variable{V:Cb} {k:Nat}
def pN {x:Eu} (c:aC h b 0 (Sg s)):iB S L 1 47 [n_ ⟨ME x⟩,AG b 0] h λw J=>∃y,w=CU y/\(y=Ag↔x.1=s):=
 Cn f47 λd f _=>by
  let⟨g,y,o⟩:=(aH.nil h).box Ax 48 (n_ ⟨ME x⟩);exact⟨_,_,y,_,ld B (o.q 0 _ B B),_,ld B (c.C o.e),_,B,o.e,_,B,CJ⟩
def xK {g:List Eu} (r:Rd h v 2 (LB g) (jL ME g)) (C:LB g<=100000) (o:aC h b 0 (Sg s)):
 iB S L 2 72 [v,l_ (.func 47) #[] #[AG b 0]] h λw J=>∃z:Int,w=Vi z/\Acn (λx=>x.1=s) g z:=
 Cn f72 λd p D=>by
  obtain⟨_,t,u,rfl,_⟩:=id r;refine⟨λl A m=>∃k:Nat,A=[(0,PA t (LB g) u),(1,l_ (.func 47) #[] #[AG b 0]),(7,Vi (LB g)),(8,Vi k)]/\k<=LB g/\l=LB g-k/\AA h m/\∀y∈g.take k,¬y.1=s,⟨_,_,Sq,G,0,B,Al _,B,AA.refl h,λ_ h=>by cases h⟩,?_⟩;rintro l A m ⟨k,rfl,E,rfl,x,W⟩ z;refine Bz (λF=>?_) (λ_=>⟨x,_,B,.inl ⟨B,by rwa[Bj G] at W⟩⟩);have j:k<g.length:=G;obtain⟨a,c,e,_,q⟩:=(r.C x).el j;cases e;rw[flatK (f:=ME) (λ_=>B) g (Ab j)] at q;refine⟨G,_,EQ Kq q B,_,pN (o.C x) d G,?_⟩;rintro _ H ⟨n,y,rfl,T⟩;cases y with
  |true=>exact⟨x.trans n,k,B,.inr ⟨k,_,B,Ab j,T.1 B,W⟩⟩
  |false=>exact⟨Pq,_,_,Sq,G,k+1,B,j,B,x.trans n,Tk j W λe=>by cases T.2 e⟩
def pM:∀(vs xs:AH) (i j:Nat),j<=i->kU j (I2 xs i vs)=kU j xs
 |[],_,_,_,_=>rfl
 |v::vs,xs,i,j,h=>by
  rw[I2,pM vs _ (i+1) j (UF h),q_ h]
def aQ.zaj {K:Nat} (o:aQ h b e ys) (f:N<=b) (a:LB ys=c*K) (d:n<=c):AS h N e K (sL b n c) n (kU (n*K) ys):=
 ⟨Jq,.inr ⟨b,c,k_ (n*K) ys,B,f,d,Jq,Jq⟩⟩
def hZ (l:List Eu):LB (l.flatMap ME)=LB l*2:=HV (f:=ME) (λ_=>B) l
def AS.stC {a:List Eu} {x:Eu} (o:AS h N 48 2 (sL b n c) n (jL ME a)) (m:j<LB a):∃J,BA Ax 48 h b (j*2) (n_ ⟨ME x⟩)=I J/\AS J N 48 2 (sL b n c) n (jL ME (a.set j x))/\Er b h J:=by
 obtain⟨h0,⟨e,_⟩|⟨y,c,d,e,p,q,r,s⟩⟩:=o
 .cases e
 cases e;have z:=hZ a;obtain⟨J,v,g,u⟩:=aQ.bD (k:=2) (i:=j*2) Kq s (vs:=ME x) B (by rw[Aj];omega) B;have w:I2 (jL ME a++d) (j*2) (ME x)=jL ME (a.set j x)++d:=by
  rw[←nY (f:=ME) (λ_=>(B:_=2)) a m x];show((jL ME a++d).set (j*2) _).set (j*2+1) _=((jL ME a).set (j*2) _).set (j*2+1) _++d;rw[Hj,Bi G,Hj,Bi (by rw[B4];omega)]
 rw[w] at g;have l:LB ((a.set j x).flatMap ME)=LB (a.flatMap ME):=by rw[hZ,hZ,B4]
 exact⟨J,v,⟨by rw[l];exact h0,.inr ⟨b,c,d,B,p,q,by rw[Aj,l,←Aj];exact r,g⟩⟩,u⟩
def pL:∀n,Dy (AJ (n_ ⟨ME iK⟩)) n=jL ME (AE n iK)
 |0=>rfl
 |n+1=>by rw[Dy,pL n];rfl
def xJ (a:List Eu) (j:Nat) (b:j<=LB a):kU (j*2) (a.flatMap ME)=jL ME (a.take j):=by
 have e:jL ME a=jL ME (a.take j)++jL ME (a.drop j):=by rw[←E0,FO]
 have l:LB ((a.take j).flatMap ME)=j*2:=by rw[hZ,Cg];omega
 rw[e,←l,iT]
def lK {l:Nat} {lo U:Option Aa} (a:RO 0 lo=I l) (d:RO n U=I m) (j:l<=m) (e:m<=c):C7 Ax 44 (sL b n c) lo U Z=I (PA (I ⟨b,0+l*2,Z⟩) (m-l) (c-l)):=by
 have f:Ax.ds.get 44=I (.slice 48):=B;obtain⟨i,g,h⟩:∃i,Ax.b.get 48=I i/\i.size=2:=⟨_,B,B⟩;unfold C7;simp only[f];rw[a,d,g];simp only[h];rw[Aq j,Aq e];rfl
def xI {a:List Eu} (o:AS h N 48 2 (sL b n c) n (jL ME a)) (x:LB a=n) (y:j<n):∃J,Bx Ax .clear [44] [PA (I ⟨b,0+j*2,Z⟩) (n-j) (c-j)] h=I (C4 #[],J)/\Er b h J/\AS J N 48 2 (sL b j c) j (jL ME (a.take j)):=by
 obtain⟨h0,⟨d,_⟩|⟨z,A,C,d,e,D,f,g⟩⟩:=o
 .cases d
 cases d;obtain⟨m,k⟩:∃m,n-j=m+1:=⟨n-j-1,G⟩;have l:LB ((AE (m+1) iK).flatMap ME)=(m+1)*2:=by rw[hZ,iV]
 obtain⟨J,p,q,u⟩:=aQ.bb g (i:=0+j*2) (by rw[Aj,l];omega) (mc _);refine⟨J,?_,u,?_⟩
 .rw[k,←pL] at*
  have r:Ax.ds.get 44=I (.slice 48):=by rfl
  have s:CP Ax 48=I (n_ ⟨ME iK⟩):=Kq;obtain⟨i,t,v⟩:∃i,Ax.b.get 48=I i/\i.size=2:=⟨_,B,B⟩;simp only[Bx,QQ,r,t,s,v];have w:(Am (AJ (.agg ⟨ME iK⟩)).length 2&&AD 0 2)=true:=B;rw[w,D1,p]
 .have:=aQ.zaj q e (by rw[LH];exact f) (show j<=c by omega)
  rw[pM _ _ _ _ G,UR G,xJ a j G] at this;exact this
def xG {g:List Eu} (o:AS h N 48 2 v (LB g) (jL ME g)) (hn:LB g<=100000) (K:aC h b 0 (Sg s)) (hv:¬BY v b):
 Bk S L 4 46 [v,l_ (.func 47) #[] #[AG b 0]] h λw J=>∃m:List Eu,m=g.filter (λx=>!decide (x.1=s))/\AS J N 48 2 w (LB m) (jL ME m)/\LB m<=LB g/\B0 (BY v) h J/\∀i,BY w i->BY v i:=
 Cn f46 λd hd' hL=>by
  refine⟨_,xK o.rd hn K d G,?_⟩;rintro _ h1 ⟨C,z,rfl,hz⟩;rcases hz with⟨rfl,hf⟩|⟨j,x0,rfl,hx,hs,hf⟩
  .exact⟨g,(List.filter_eq_self.2 λx m=>by simp[hf x m]).symm,o.C C,Ae _,C.O _,λ_ h=>h⟩
  have hj:=(cG.1 hx).1;obtain⟨a,c,rfl⟩:=o.lit G
  let n:=LB g
  let Ix:Nat->As->Y->Prop:=λH A D=>∃(k j:Nat) (l:List Eu),A=[(0,sL a (LB g) c),(1,l_ (.func 47) #[] #[AG b 0]),(5,Vi j),(6,Vi k)]/\j<k/\k<=LB g/\H=LB g-k/\LB l=LB g/\AS D N 48 2 (sL a (LB g) c) (LB g) (jL ME l)/\B0 (.=a) h D/\kU j l=(kU k g).filter (λx=>!decide (x.1=s))/\k_ k l=k_ k g
  refine⟨Pq,Ix,⟨_,_,Sq,G,j+1,j,g,B,HL j,hj,B,B,o.C C,C.O _,by rw[A5 hj,O6,List.filter_eq_self.2 λx m=>by simp[hf x m],show g[j]=x0 from I.inj ((Ab hj).symm.trans hx)];simp[hs],B⟩,?_⟩;rintro H A D ⟨k,j,l,rfl,p,hk,rfl,r,o,E,F1,F2⟩ hLt;have M:=K.O E hv;refine Bz (λk1=>?_) (λk1=>?_)
  .have u:k<LB g:=G
   obtain⟨a',c',e,_,q⟩:=o.rd.el u;cases e;rw[flatK (f:=ME) (λ_=>B) l (Ab G)] at q;have F3:l[k]=g[k]:=by have:=Cs (λz=>z[0]?) F2;simpa[Eg,Ab u,Ab (show k<LB l by omega)] using this
   have F4:=A5 u;rw[←F3] at F4;have F5:k_ (k+1) l=k_ (k+1) g:=by have:=Cs (List.drop 1) F2;rwa[GR,GR] at this
   generalize l[k]=x at q F4;obtain⟨g1,y1,g2,W,R,s2⟩:=(aH.nil D).zah (τ:=Ax) (t:=48) (z:=n_ ⟨[Sg ⟨#[]⟩,Vi 0]⟩) Kq (v:=.agg ⟨ME x⟩) B B B;have V:=s2.dD 0 B;refine⟨G,_,EQ Kq q B,_,_,y1 _,_,W,_,EQ Kq V.cells B,_,pN (M.C R) d G,?_⟩;rintro _ h3 ⟨X,y,rfl,T⟩;have F:=R.trans X;cases y with
   |true=>exact⟨_,_,B,Pq,_,_,Sq,G,k+1,j,l,B,G,u,B,r,o.C F,E.trans (F.O _),by rw[F4,O6,F1];simp[T.1 B],F5⟩
   |false=>
   obtain⟨h4,O,P,Q⟩:=(o.C F).stC (j:=j) G;exact⟨_,_,B,_,EQ Kq (V.C X).cells B,G,_,Jp O (by show 0+(j:Int).toNat*2=_;omega),Pq,Pq,_,_,Sq,G,k+1,j+1,l.set j x,B,G,u,B,by rw[B4];exact r,P,(E.trans (F.O _)).trans Q.O,by rw[F4,O6,←F1,qU,q_ (Ae j),O4 G];simp[show x.1≠s from λe=>by cases T.2 e],by rw[List.drop_set_of_lt G];exact F5⟩
  .obtain rfl:k=LB g:=G
   obtain⟨h4,O,Q,P⟩:=xI o r p;obtain⟨_,_,c',e,T,_⟩:=o.rd;cases e;have e5:=lK (b:=a) (lo:=I (Vi j)) (U:=Z) B B (Bf p) T;have e6:=lK (b:=a) (n:=LB g) (lo:=Z) (U:=I (Vi j)) B B (Al j) (Ao (Bf p) T);have tl:LB (l.take j)=j:=by rw[Cg];omega
   exact⟨_,_,Cs (CN _) e5,_,_,O,_,_,Cs (CN _) e6,kU j l,by rw[F1,CS],by rw[tl];exact P,G,E.trans Q.O,λ_ h=>h⟩
end
section
variable{V:Cb} {k:Nat}
def xF {i:Int} {y:Bool} {F H:Nat} {pv T:Aa} {k:List dA} (s:aC h F 0 pv) (r:Rd h pv 5 (LB k) (jL dA.M k)) (X:∀p∈k,Rd h p.c 1 (LB p.nl) (Bn p.nl)/\LB p.nl<=1000/\∀i∈p.nl,i<LB V.ns) (K:aC h H 0 (AG c 0)) (M:aC h c 2 T) (N:Rd h T 7 (LB V.ns) (V.ns.flatMap Bt)):
 iB S L 1 44 [Vi i,CU y,AG F 0,AG H 0] h λw J=>∃z,w=Vi z:=
 Cn f44 λd W hL=>by
  obtain⟨_,A0,c0,rfl,_⟩:=id r;obtain⟨_,A1,c1,rfl,_⟩:=id N;have t:AA h h/\∃z,Vi 0=Vi z:=⟨AA.refl h,0,B⟩;refine Bz (λ_=>t) (λk1=>⟨_,ld B s,Bz (λ_=>t) (λk2=>?_)⟩);obtain⟨j,rfl⟩:=B9 (show 0<=i by omega);have u:j<LB k:=G;obtain⟨a,ca,e,_,q⟩:=r.el u;cases e;rw[flatK (f:=dA.M) (λ_=>B) k (Ab u)] at q;obtain⟨o,v,l⟩:=X _ (Bu u);generalize k[j]=p at q o v l;obtain⟨_,A2x,c2,Z,_⟩:=id o;unfold dA.M at q;rw[Z] at q o;have O:=q.at (i:=0) B;refine⟨_,ld B s,G,_,Dz (ld B O) B,Bz (λ_=>t) (λk3=>?_)⟩;obtain⟨A,c3,Y,_,U⟩:=o.at_ G;cases Y;have P:∀x,x<LB p.nl->∃(m:Nat) (n:BI) (g:BD),A1=I g/\m<LB V.ns/\aC h A.block (A.off+x) (Vi m)/\BK h g.block (g.off+(m:Int).toNat*7) (Bt n):=λx C=>by
   have b:p.nl.getD x 0<LB V.ns:=l _ (by rw[Ak,Ab C];exact Bu C);obtain⟨g,cn,e,_,Q⟩:=N.el b;cases e;rw[flatK (f:=Bt) (λ_=>B) V.ns (Ab b)] at Q;exact⟨_,_,g,B,b,U x _ (GH C),Q⟩
  have R:=AT (AA.refl h);refine⟨_,ld B s,G,_,Dz (ld B O) B,?_⟩;cases y with
  |
   true=>
   obtain⟨m,n,g,rfl,b,D,E⟩:=P (LB p.nl-1) G;exact⟨[],Kq,_,ld B K,_,ld B M,Pq,G,_,Dz (ld B D) xU,G,_,Dz (ld B (E.at B)) B,R,_,B⟩
  |
   false=>
   obtain⟨m,n,g,rfl,b,D,E⟩:=P 0 G;exact⟨[],Kq,_,ld B K,_,ld B M,G,_,Dz (ld B D) B,G,_,Dz (ld B (E.at B)) B,R,_,B⟩
end
section
variable{V:Cb} {k:Nat}
def xD (l:List dA):LB (l.flatMap dA.M)=LB l*5:=HV (f:=dA.M) (λ_=>B) l
def lJ {i:Type} {f:i->AH} {K:Nat} (b:∀a,LB (f a)=K) (l:List i) (a n:Nat):kU (n*K) ((l.flatMap f).drop (a*K))=jL f ((l.drop a).take n):=by
 rcases A8 (LB l) a with h|h
 .rw[qD (by rw[HV b];exact Ci K (Bf h)),qD (Bf h),qX,qX];rfl
 have e:jL f l=jL f (l.take a)++jL f (l.drop a):=by rw[←E0,FO]
 have j:LB ((l.take a).flatMap f)=a*K:=by rw[HV b,Cg,N4 h]
 rw[e,←j,List.drop_left];generalize l.drop a=l2;rcases A8 (LB l2) n with c|c
 .rw[Bj (by rw[HV b];exact Ci K (Bf c)),Bj (Bf c)]
 have d:jL f l2=jL f (l2.take n)++jL f (l2.drop n):=by rw[←E0,FO]
 have g:LB ((l2.take n).flatMap f)=n*K:=by rw[HV b,Cg,N4 c]
 rw[d,←g,iT]
def dI.O (p:dI):dA:=⟨p.u,p.l,p.d,p.b,sN,[],0⟩
def pJ [eU S L] (HB:MD S) (U:Ce h0) (pw:Jx h0) (NG:Mo h0) (A:EI h0 lp V) (ok:V.O) {X:dJ} {fr:Nat} (s:aH h0 h [aO c 75 X.M]) (hl:X.l=lp) (kn:dO h (.=c) X.c 7 (LB V.ns) (V.ns.flatMap Bt))
 (ro:Rd h X.pv 5 (LB X.ps) (X.ps.flatMap dA.M)) (kp:∀p∈X.ps,gG h (.=c) p/\pK V p) (hX:LB X.ps<=3000)
 {bv xv pv:Aa} {bs:Bo} {fx:AH} {ps:List dI} (rb:dO h (.=c) bv 1 (LB bs) (Bn bs)) (rf:dO h (.=c) xv 1 (LB fx) fx) (hfx:fx.all ZaA=Ag/\ZbH [] (LB V.fs) bs/\(∀i p,ps[i]?=I p->ZbR V bs i p.l)/\∀i p,i<fr->X.ps[i]?=I p->ZbR V bs i p.nl) (rp:Rd h pv 3 (LB ps) (jL dI.M ps)) (kps:gl V h (.=c) ps) (hb:LB bs=LB ps+1/\LB fx=LB ps/\LB ps<=3000) (hf1:fr<=LB X.ps) (hf2:fr<=LB ps) (hfo:X.a<LB ps):
 Bk S L 20 31 [AG c 0,.agg ⟨[bv,xv]⟩,pv,Vi fr] h λ_ J=>∃X':dJ,cY V h0 J c X'/\X'.a=X.a/\X'.l=X.l/\X'.d=X.d/\B0 (.=c) h J:=
 Cn f31 λd hd' hL=>by
  obtain⟨_,A0,c0,eX,_⟩:=id ro;obtain⟨_,A1,c1,rfl,_⟩:=id rb.1;obtain⟨_,A2x,c2,rfl,_⟩:=id rf.1;obtain⟨_,A3x,c3,rfl,_⟩:=id rp;obtain⟨g1,y1,q1⟩:=(aH.nil h).box Ax 33 (AG c 0);obtain⟨O,y2,q2⟩:=q1.box Ax 53 (n_ ⟨[PA A1 (LB bs) c1,PA A2x (LB fx) c2]⟩);obtain⟨b4,hb4⟩:∃b,b=h.a:=⟨_,B⟩;obtain⟨b5,hb5⟩:∃b,b=g1.a:=⟨_,B⟩;have q2:aH h O [aO b5 53 [PA A1 (LB bs) c1,PA A2x (LB fx) c2],aO b4 33 [AG c 0]]:=by rw[hb5,hb4];exact q2
  rw[←hb4] at y1;rw[←hb5] at y2;have cP:aC h c 6 (PA A0 (LB X.ps) c0):=eX▸s.q 0 6 B B;obtain⟨w5,e5,r5,_⟩:=Rd.slice (τ:=Ax) (t:=73) (k:=5) Kq (eX▸ro) (lo:=Z) (U:=I (Vi fr)) (l:=0) (m:=fr) B B (Al _) hf1;obtain⟨w6,e6,r6,_⟩:=Rd.slice (τ:=Ax) (t:=92) (k:=3) Kq rp (lo:=I (Vi fr)) (U:=Z) (l:=fr) (m:=LB ps) B B hf2 (Ae _);rw[lJ (f:=dA.M) (λ_=>(B:_=5))] at r5;rw[lJ (f:=dI.M) (λ_=>(B:_=3))] at r6;obtain⟨T,hl5⟩:∃l,l=kU (fr-0) (X.ps.drop 0):=⟨_,B⟩;obtain⟨E,hl6⟩:∃l,l=kU (ps.length-fr) (ps.drop fr):=⟨_,B⟩;have n5:LB T=fr:=by rw[hl5,dQ,Cg];omega
  have n6:LB E=LB ps-fr:=by rw[hl6,Cg,AV];omega
  rw[←hl5,DL] at r5;rw[←hl6,←n6] at r6;have m5:∀p∈T,p∈X.ps:=λp Q=>by rw[hl5,dQ] at Q;exact jP Q
  have m6:∀p∈E,p∈ps:=λp Q=>by rw[hl6] at Q;exact qk (jP Q)
  have one5:(jL dA.M T).all one=true:=Jf.2 λv hv=>by
   obtain⟨p,Q,hv⟩:=iq.1 hv;exact Jf.1 (yW (kp p (m5 p Q)).1) v hv
  refine⟨_,_,y1,_,_,y2,_,ld B (q2.q 1 0 B B:aC O b4 0 (AG c 0)),_,ld B (cP.C q2.e),_,_,Cs (CN _) e5,_,md (.inr (.inr ⟨B,B,B,B,B⟩)) (Rd.C (n5.symm▸r5) q2.e) one5 G d G,?_⟩;rintro v8 h3 ⟨x3,o3⟩;have q3:=q2.add (a:=aS h.a 79 5 v8 (LB T) (jL dA.M T)) x3 (o3.mono q2.e.a) o3.ai;obtain⟨_,A8x,c8,rfl,_⟩:=id o3.rd;obtain⟨g4,y4,g5,y5,q5⟩:=q3.var (τ:=Ax) (t:=73) (z:=sN) Kq (v:=PA A8x (LB T) c8) B B B;obtain⟨b8,hb8⟩:∃b,b=h3.a:=⟨_,B⟩;have q5:aH h g5 [aO b8 73 [PA A8x (LB T) c8],aS h.a 79 5 (PA A8x (LB T) c8) (LB T) (jL dA.M T),aO b5 53 [PA A1 (LB bs) c1,PA A2x (LB fx) c2],aO b4 33 [AG c 0]]:=by rw[hb8];exact q5
  rw[←hb8] at y4 y5;obtain⟨_,A6x,c6,rfl,_⟩:=id r6
  let cur:Nat->List dA:=λk=>T++(kU k E).map dI.O
  let P:Aa->List dA->List Ct:=λv ps=>[aO b8 73 [v],aS h.a 79 5 v (LB ps) (jL dA.M ps),aO b5 53 [PA A1 (LB bs) c1,PA A2x (LB fx) c2],aO b4 33 [AG c 0]]
  let F:Nat->As:=λk=>[(3,Vi fr),(4,AG b4 0),(5,AG b5 0),(8,AG b8 0),(26,PA A6x (LB E) c6),(27,Vi (LB E)),(28,Vi k)]
  let Ix:Nat->As->Y->Prop:=λμ A hh=>∃(k:Nat) (v:Aa),A=F k/\k<=LB E/\μ=LB E-k/\aH h hh (P v (cur k))
  have cur0:cur 0=T:=by show T++[]=T;rw[Fb]
  refine⟨_,_,y4 _,_,y5,_,_,Cs (CN _) e6,Ix,⟨_,_,Sq (l:=F 0),G,0,_,B,Al _,B,by rw[cur0];exact q5⟩,?_⟩;rintro μ A' hh ⟨k,v,rfl,hk,rfl,q⟩ hLt;refine Bz (λk1=>?_) (λk1=>?_)
  .have hkl:k<LB E:=G
   obtain⟨a,ca,e,_,z⟩:=(r6.C q.e).el hkl;cases e;rw[flatK (f:=dI.M) (λ_=>B) E (Ab hkl)] at z;have kq:=kps _ (m6 _ (Bu hkl));have ec:cur (k+1)=cur k++[E[k].O]:=by
    show T++(kU (k+1) E).map dI.O=T++(kU k E).map dI.O++[E[k].O];rw[A5 hkl,BS,KA];rfl
   rw[show dI.M E[k]=[E[k].u,Vi E[k].d,Sg E[k].b] from B] at z;have hpp:E[k].O.M=[E[k].u,Vi E[k].d,Sg E[k].b,sN,Vi 0]:=B;generalize E[k]=p at z kq ec hpp;obtain⟨_,A9x,c9,e9,_⟩:=id kq.1.1;rw[e9] at z hpp;obtain⟨h6,y6,h7,y7,s7⟩:=q.va 77 [sN,Vi 0,Sg ⟨#[]⟩] [PA A9x (LB p.l) c9,Vi p.d,Sg p.b];have ck:LB (cur k)=LB T+k:=by show(LB (T++(E.take k).map dI.O))=_;rw[Aj,A4,Cg];omega
   obtain⟨v',h8,t8,s8⟩:=s7.bA 73 79 5 2 [PA A9x (LB p.l) c9,Vi p.d,Sg p.b,sN,Vi 0] (LB (cur (k+1))) (jL dA.M (cur (k+1))) B s7.e.a G (by rw[ec,Aj];rfl) (by rw[ec,E0,List.flatMap_singleton,hpp]);obtain⟨h9,y9,s9⟩:=s8.sT 73 1 0 v' B (Ac B) (D5 (s8.sl 2 B));exact⟨G,_,EQ (k:=3) Kq z B,_,_,y6 _,_,y7,_,ld B (s7.q 1 0 B B:aC h7 b8 0 v),_,EQ (k:=3) Kq ((s7.dD 0 B).cells:BK h7 hh.a 0 [PA A9x (LB p.l) c9,Vi p.d,Sg p.b]) B,_,_,i3 73 79 5 (n_ ⟨[PA A9x (LB p.l) c9,Vi p.d,Sg p.b,sN,Vi 0]⟩) _,_,_,t8,_,y9,Pq,_,_,Sq (l:=F (k+1)),(G:LB E-(k+1)<_),k+1,v',B,hkl,B,s9.drop 1⟩
  obtain rfl:k=LB E:=G;obtain⟨C,hqs⟩:∃C,C=cur (LB E):=⟨_,B⟩;have nq:LB C=LB ps:=by rw[hqs];show(LB (T++(E.take E.length).map dI.O))=_;rw[CS,Aj,A4];omega
  have TT:∀i p,C[i]?=I p->ZbR V bs i p.nl:=λi p e=>by
   rw[hqs] at e;have e:(T++(kU E.length E).map dI.O)[i]?=I p:=e;rcases A8 i fr with D|D
   .rw[AB G,hl5,dQ,LS,Bi G] at e;exact hfx.2.2.2 i p D e
   .rw[Bq G,CS,n5,AX] at e;cases q:E[i-fr]? with
    |none=>rw[q] at e;cases e
    |some r=>
     rw[q] at e;cases e;rw[hl6,LS] at q;split at q
     .rw[Eg,show fr+(i-fr)=i by omega] at q;exact hfx.2.2.1 i r q
     .cases q
  rw[←hqs] at q;obtain⟨g,o,rfl⟩:=(q.sl 1 B).lit G;have cg0:B0 (.=c) h hh:=q.e.O _;have kq:∀p∈C,gG hh (λi=>i=c\/BY (sL g (LB C) o) i) p/\ZbO V p.nl p.b:=λp Q=>by
   have vg:=(q.sl 1 B).ai;have up:∀{x:Aa} {k n:Nat} {xs:AH},dO h (.=c) x k n xs->dO hh (λi=>i=c\/BY (sL g (LB C) o) i) x k n xs:=λK=>K.app (q.e.O _) λi D=>D.imp id (vg i);rw[hqs] at Q;rcases dF.1 Q with Q|Q
   .obtain⟨⟨k1,k2⟩,k3,_⟩:=kp p (m5 p Q)
    exact⟨⟨up k1,up k2⟩,k3⟩
   .obtain⟨r,hr,rfl⟩:=dP.1 Q
    obtain⟨k1,k2⟩:=kps r (m6 r (jP hr));exact⟨⟨up k1,⟨(AS.nil hh 0 48 2).rd,λ_ h=>h.elim⟩⟩,k2⟩
  have SA:=s.zai q;obtain⟨ha,ya,oa,ua⟩:=aQ.bD (τ:=Ax) (h:=hh.ad) (t:=53) (k:=2) (i:=4) Kq (SA.dD 4 B) (vs:=[PA A1 (LB bs) c1,PA A2x (LB fx) c2]) B (by show 4+2<=8;decide) B;have fM:=SA.aZ 4 B ua.O (a':=aO c 75 [AG X.d 0,AG X.l 0,X.c,Vi X.day,PA A1 (LB bs) c1,PA A2x (LB fx) c2,X.pv,Vi X.a]) oa λx hx=>.inl hx;obtain⟨hb2,yb,ob,ub⟩:=aQ.st (τ:=Ax) (h:=(hh.M ha).ad) (t:=73) B (fM.dD 4 B) (i:=6) (v:=sL g (LB C) o) (by show 6<8;decide) B
  let X1x:List dA->dJ:=λl=>{X with f:=PA A1 (LB bs) c1,b:=bs,g:=PA A2x (LB fx) c2,e:=fx,pv:=sL g (LB C) o,ps:=l}
  let P2x:List dA->List Ct:=λl=>[aO b8 73 [sL g (LB C) o],aS h.a 79 5 (sL g (LB C) o) (LB l) (jL dA.M l),aO b5 53 [PA A1 (LB bs) c1,PA A2x (LB fx) c2],aO b4 33 [AG c 0],aO c 75 (X1x C).M]
  have R:aH h0 ((hh.M ha).M hb2) (P2x C):=fM.aZ 4 B ub.O (a':=aO c 75 (X1x C).M) ob λx hx=>.inl hx;have cg2:B0 (.=c) h ((hh.M ha).M hb2):=(cg0.trans ua.M.O).trans ub.M.O;have kq2:∀p∈C,gG ((hh.M ha).M hb2) (λi=>i=c\/BY (sL g (LB C) o) i) p/\ZbO V p.nl p.b:=λp Q=>by
   obtain⟨⟨k1,k2⟩,k3⟩:=kq p Q;have cc:B0 (λi=>i=c\/BY (sL g (LB C) o) i) hh ((hh.M ha).M hb2):=(ua.M.O.trans ub.M.O).mono λi D=>.inl D;exact⟨⟨k1.O cc,k2.O cc⟩,k3⟩
  have l4:=q.q 3 0 B B;have hc1:=(s.dD 0 B).1;have n4:=(q.dD 3 B).1;have n8:=(q.dD 0 B).1;have p8:h.a<=b8:=q.ge 0 B b8 B;have w4:=ua.O.hasB (x:=b4) (λi D=>D) n4 G;have w8:=ua.O.hasB (x:=b8) (λi D=>D) n8 G;refine⟨[.x 6 1,.x 6 3],Kq,_,ld B l4,_,ld B l4,_,EQ (k:=2) Kq (q.dD 2 B:aQ hh b5 53 [PA A1 (LB bs) c1,PA A2x (LB fx) c2]).cells B,_,ld B (q.q 0 0 B B:aC hh b8 0 (sL g (LB C) o)),_,ya,w8,w4,_,yb,?_⟩
  let W:Nat->Prop:=λi=>i=c\/BY (sL g (LB C) o) i
  let F3x:Nat->As:=λj=>[(4,AG b4 0),(5,AG b5 0),(8,AG b8 0),(11,l_ (.func 44) #[] #[AG b8 0,AG b4 0]),(12,Vi j)]
  let I3x:Nat->As->Y->Prop:=λμ A H=>∃(j:Nat) (M:List dA),A=F3x j/\fr<=j/\j<=LB C/\μ=LB C-j/\LB M=LB C/\aH h0 H (P2x M)/\B0 (.=c) h H/\(∀p∈M,gG H W p/\ZbO V p.nl p.b)/\(∀i p,i<j->M[i]?=I p->pK V p)/\(∀i p,j<=i->M[i]?=I p->p.C=0)/\∀i p,M[i]?=I p->ZbR V bs i p.nl
  refine⟨I3x,⟨_,_,Sq (l:=F3x fr),G,fr,C,B,Ae _,G,B,B,R,cg2,kq2,λi p D e=>?_,λi p D e=>?_,TT⟩,?_⟩
  .rw[hqs] at e
   have e:(T++(E.take (LB E)).map dI.O)[i]?=I p:=e;rw[AB G] at e;exact(kp p (m5 p (AZ e))).2
  .rw[hqs] at e
   have e:(T++(kU E.length E).map dI.O)[i]?=I p:=e;rw[Bq G] at e;obtain⟨r,_,rfl⟩:=dP.1 (AZ e);rfl
  have kw:∀{H:Y} {x:Aa} {k n:Nat} {xs:AH},B0 (.=c) h H->dO h (.=c) x k n xs->(∀i,BY (sL g (LB C) o) i->h.a<=i)->dO H W x k n xs:=λcg K hg=>K.app cg λi D=>D.imp id (hg i);rintro μ A' H ⟨j,M,rfl,hj1,hj2,rfl,hls,S0,cg,kk,po,pz,pt⟩ hLt;have hg:∀i,BY (sL g (LB C) o) i->h.a<=i:=(S0.sl 1 B).ai;refine⟨_,ld B (S0.q 0 0 B B:aC H b8 0 (sL g (LB C) o)),Bz (λk2=>?_) (λk2=>?_)⟩;rotate_left
  .obtain rfl:j=LB C:=G
   have Tx:=(S0.perm (List.Perm.cons _ (Gm _ [aO b5 53 [PA A1 (LB bs) c1,PA A2x (LB fx) c2],aO b4 33 [AG c 0],aO c 75 (X1x C).M]).symm)).drop 3;have T2x:=Tx.ah 1 B ((AA.refl H).O _) (a':=aS h0.a 79 5 (sL g (LB C) o) (LB M) (jL dA.M M)) ((S0.sl 1 B).mono s.e.a) λx hx=>.inl hx;rw[hls] at T2x;exact⟨X1x M,⟨by show aH h0 H [aO c 75 (X1x C).M,aS h0.a 79 5 (sL g (LB C) o) (LB M) (jL dA.M M)];rw[hls];exact T2x,⟨kw cg kn hg,kw cg rb hg,kw cg rf hg,λp Q=>(kk p Q).1⟩,⟨hfx.1,by show LB bs=LB M+1/\LB fx=LB M/\LB M<=3000;rw[hls,nq];exact hb,by show X.a<LB M;omega,hfx.2.1,pt,λp Q=>by
    obtain⟨i,D,rfl⟩:=ra.1 Q;have D:i<LB M:=D;exact po i _ G (Ab D)⟩⟩,B,B,B,cg⟩
  have hj:j<LB M:=G;obtain⟨a,ca,e,_,z⟩:=(S0.sl 1 B).rd.el hj;rw[hls] at e;cases e;rw[flatK (f:=dA.M) (λ_=>B) M (Ab hj)] at z;have hpm:=Bu hj;have hpj:=Ab hj;generalize M[j]=p at z hpm hpj;obtain⟨adb,cb,e9,_,qb⟩:=((rb.app cg (W':=λ_=>False) λ_ h=>h.elim).1).at_ G;cases e9;obtain⟨g1,y13,O,y14,x1,fM⟩:=S0.zah (τ:=Ax) (t:=9) (z:=Sg ⟨#[]⟩) Kq (v:=Sg p.b) B B B;have qb:∀{H':Y} {i:Nat},AA H H'->i<LB bs->aC H' adb.block (adb.off+i) (Vi (bs.getD i 0)):=λx D=>(qb _ _ (GH D)).C x;obtain⟨g3,y15,g4,y16,T2x⟩:=(aH.nil (O.M O.ad)).cx (τ:=Ax) (t:=120) (z:=n_ ⟨[Vi 0,Vi 0]⟩) Kq (v:=n_ ⟨[Vi (bs.getD j 0),Vi (bs.getD (j+1) 0)]⟩) B B B;have xg:AA O (O.M O.ad):=AT (AA.refl O);have R:=(fM.C xg).zai T2x;have x2:=(x1.trans xg).trans T2x.e;have l1:=qb x1 (i:=j) G;have l2:=qb x1 (i:=j+1) G;have f5:aC O b5 0 (PA (I adb) (LB bs) c1):=fM.q 3 _ B B;refine⟨_,ld B (S0.q 0 0 B B:aC H b8 0 (sL g (LB C) o)),G,_,Dz (ld B (z.at (i:=2) B)) B,_,_,y13 _,_,y14,[],Kq,_,ld B f5,G,_,Dz (ld B l1) xU,_,ld B f5,Pq,G,_,Dz (ld B l2) xU,_,_,y15 _,_,y16,?_⟩;have b4c:∀{H'},AA (((O.M O.ad).M g3).M g4) H'->aC H' b4 0 (AG c 0):=λx=>(R.q 5 _ B B).C x;have b8c:∀{H'},AA (((O.M O.ad).M g3).M g4) H'->aC H' b8 0 (sL g (LB C) o):=λx=>(R.q 2 _ B B).C x;have cc:∀{H'},AA (((O.M O.ad).M g3).M g4) H'->aQ H' c 75 (X1x C).M:=λx=>(R.dD 6 B).C x;have edge:∀{H'} {i:Int} {y:Bool},AA (((O.M O.ad).M g3).M g4) H'->iB S L 1 44 [Vi i,CU y,AG b8 0,AG b4 0] H' λw J=>∃z,w=Vi z:=λ{H' i y} x=>
   xF (V:=V) (b8c x) (hls▸(((R.sl 3 B).C x).rd)) (λp Q=>⟨(kk p Q).1.1.1.C (x2.trans x),(kk p Q).2.2.1,(kk p Q).2.1⟩) (b4c x) ((cc x).cell (i:=2) B) ((kn.app cg (W':=λ_=>False) λ_ h=>h.elim).1.C (x2.trans x))
  have xm:=AA.ad (((O.M O.ad).M g3).M g4);have lcl:aC (((O.M O.ad).M g3).M g4) c 1 (AG X.l 0):=(cc (AA.refl _)).cell B;rw[hl] at lcl;refine⟨[],Kq,_,ld B (b4c xm),_,ld B lcl,_,EQ (k:=2) Kq (R.dD 0 B:aQ _ (O.M O.ad).a 120 [Vi (bs.getD j 0),Vi (bs.getD (j+1) 0)]).cells B,Pq,_,edge xm d G,?_⟩;rintro _ h5 ⟨x5,z1,rfl⟩;have e5:=x5.M;refine⟨x5.C,Pq,_,edge (e5.trans (AA.ad _)) d G,?_⟩;rintro _ h6 ⟨x6,z2,rfl⟩;have e6:=e5.trans x6.M;have X0x:=(R.e.trans e6).trans (AA.ad _);have l46:=b4c e6;refine⟨x6.C,_,ld B l46,_,ld B ((cc e6).cell (i:=3) B:aC _ c 3 (Vi X.day)),_,jF HB (U.C X0x) (pw.C X0x) (NG.C X0x) (A.C X0x) ok d G,?_⟩;rintro _ h7 ⟨x7,cs,o7,hcs⟩;have X7x:=e6.trans x7.M;have n2:=(R.dD 1 B).1;have n6:=e6.a;have hv:∀i,BY _ i->H.a<i:=λi D=>by have:=o7.ai i D;rw[BF] at this;omega
  have S7x:=R.C X7x;have Sx:=(R.C e6).cf x7 (a:=aS _ 48 2 _ (LB cs) (jL ME cs)) o7 o7.ai;have c13:=S7x.q 1 0 B (xs:=[Sg p.b]) B;refine⟨x7.C,_,xG o7.M G c13 (λh=>W7 _ (hv _ h)) d G,?_⟩;rintro v15 h8 ⟨N,hN,o8,hc8,cg8,bk8⟩;have c13':=c13.O cg8 (λh=>W7 _ (hv _ h));have n8:=cg8.a;have o95:AS (BN h8 48 [Sg p.b,Vi 1]) h8.a 48 2 (sL h8.a 1 1) 1 [Sg p.b,Vi 1]:=⟨B,.inr ⟨h8.a,1,[],B,Ae _,Ae _,B,aQ.row _ _ _⟩⟩;have r8:=o8.rd.C (AA.row h8 48 [Sg p.b,Vi 1]);obtain⟨v16,h9,t9,o9,c9,f9⟩:=UN (τ:=Ax) (st:=44) (t2:=44) (e:=48) (k:=2) Kq o95 (x:=v15) r8.bu r8.src (hZ N) (mc N) (AA.row h8 48 [Sg p.b,Vi 1]).a G;obtain⟨b16,PT,rfl⟩:=o9.lit G;have es:[Sg p.b,Vi 1]++jL ME N=jL ME ((p.b,(1:Int))::N):=B;have Sy:=Sx.ah 0 B cg8 (a':=aS _ 48 2 v15 (LB N) (jL ME N)) o8 λx hx=>.inl (bk8 x hx);have Sr:=Sy.add (a:=aS h8.a 48 2 (sL h8.a 1 1) 1 [Sg p.b,Vi 1]) (AA.row h8 48 [Sg p.b,Vi 1]) o95 λi D=>A2 D.symm;have S9x:=Sr.ah 0 B c9 (a':=aS h8.a 48 2 (sL b16 (1+LB N) PT) (1+LB N) _) o9 f9;have nH:H.a<=h8.a:=by have:=(x2.trans X7x).a;omega
  have xH:AA H h9:=(((x2.trans X7x).then cg8 λi D=>Bf (hv i D)).trans (AA.row h8 48 [Sg p.b,Vi 1])).then c9 λi D=>by cases D;exact nH
  have cg9:=cg.trans (xH.O _);have f8:aC h9 b8 0 (sL g (LB C) o):=S9x.q 4 _ B B;have nb9:=AT (AA.refl h9);refine⟨_,ld B c13',_,_,i3 44 48 2 (n_ ⟨[Sg p.b,Vi 1]⟩) _,_,_,t9,[],Kq,_,ld B f8,λz hz=>?_⟩;obtain⟨m,rfl⟩:=B9 (show 0<=z by omega);have hm:m<=1+LB N/\m<=60/\1<=m:=G;obtain⟨_,_,c',e,hc16,_⟩:=o9.rd;cases e;have e10:=lK (b:=b16) (n:=1+LB N) (c:=PT) (lo:=Z) (U:=I (Vi m)) B B (Al m) G;obtain⟨w10,e11,r10,_⟩:=Rd.slice (τ:=Ax) (t:=44) (k:=2) Kq o9.rd (lo:=Z) (U:=I (Vi m)) (l:=0) (m:=m) B B (Al _) hm.1;rw[e10] at e11;cases e11;have r10:Rd h9 (sL b16 m PT) 2 m (kU ((m-0)*2) ((((p.b,(1:Int))::N).flatMap ME).drop (0*2))):=r10;rw[lJ (f:=ME) (λ_=>(B:_=2)),dQ,DL] at r10;obtain⟨ds,hds⟩:∃ds,ds=kU m ((p.b,(1:Int))::N):=⟨_,B⟩;rw[←hds] at r10;have dl:LB ds=m:=by rw[hds,Cg,AO];omega
  have o5:AS h9 h.a 79 5 (sL g (LB C) o) (LB M) (jL dA.M M):=S9x.sl 5 B;rw[hls] at o5;obtain⟨h10,y10,o10,u10⟩:=AS.stM (h:=h9.ad) (t:=44) B o5 (j:=j*5+3) (by rw[xD];omega) (v:=sL b16 m PT) B
  let p':dA:={p with e:=sL b16 m PT,cs:=ds}
  rw[qy (f:=dA.M) (a:=p) (a':=p') (λ_=>(B:_=5)) M hpj xc B] at o10;have l10:LB (M.set j p')=LB C:=by rw[B4];exact hls
  have u:=u10.M;have S10:=(S9x.aZ 5 B u10.O (a':=aS h.a 79 5 (sL g (LB C) o) (LB (M.set j p')) (jL dA.M (M.set j p'))) (by show AS _ _ _ _ _ _ _;rw[l10];exact o10) λx hx=>.inl hx).drop 4;have hbv:=hg g B;have hbH:g<H.a:=(S0.sl 1 B).aw g B;have hb16:=o9.ai b16 B;have hcH:c<h.a:=hc1;have cgW:B0 W h9 (h9.M h10):=u.O.mono λi D=>.inr D;refine⟨_,_,Cs (CN _) e10,G,_,Jp y10 (by show 0+(j:Int).toNat*5+3=_;omega),Pq,_,_,Sq (l:=F3x (j+1)),(G:LB C-(j+1)<_),j+1,M.set j p',B,G,G,B,l10,S10,cg9.then u.O λi D=>.inr (by rw[D];exact hbv),λq hq=>?_,λi q D hq=>?_,λi q D hq=>?_,λi q hq=>?_⟩
  .rcases BT hq with hq|rfl
   .obtain⟨⟨k1,k2⟩,k3⟩:=kk q hq
    exact⟨⟨(k1.O (xH.O _)).O cgW,(k2.O (xH.O _)).O cgW⟩,k3⟩
   .obtain⟨⟨k1,_⟩,k3⟩:=kk p hpm
    have kc:dO h9 W (sL b16 m PT) 2 m (jL ME ds):=⟨r10,λi D hw=>by
     have D:i=b16:=D;rcases hw with hw|hw
     .omega
     .have hw:i=g:=hw
      omega⟩
    exact⟨⟨(k1.O (xH.O _)).O cgW,by show dO _ W (sL b16 m PT) 2 (LB ds) (jL ME ds);rw[dl];exact kc.O cgW⟩,k3⟩
  .rcases qB.1 D with D|rfl
   .rw[fT G] at hq
    exact po i q D hq
   .rw[O4 G] at hq
    cases hq;have hz:p.C=0:=pz _ p (Ae _) hpj;exact⟨(kk p hpm).2,by show p.C<LB ds;omega,by show LB ds<=60;omega,by show(ds.map Eh).Nodup;rw[hds,g'];exact(List.nodup_cons.2 ⟨λc=>by obtain⟨x,y,z⟩:=dP.1 c;rw[hN] at y;have:=(List.mem_filter.1 y).2;simp[show x.1=p.b from z] at this,hN▸hcs.2.1.sublist (List.filter_sublist.map Eh)⟩).sublist (kM _ _),by show(ds.map Eh)[0]?=_;rw[hds,show m=m-1+1 by omega];rfl,λc h=>by
     have h:c∈ds:=h;rw[hds] at h;rcases List.mem_cons.1 (jP h) with rfl|h
     .exact(kk p hpm).2.2.2.2
     .rw[hN] at h;exact hcs.2.2 c (List.mem_filter.1 h).1⟩
  .rw[fT G] at hq
   exact pz i q G hq
  .rw[Iu] at hq
   split at hq
   .rename_i e
    subst e;cases hq;exact pt _ p hpj
   .exact pt i q hq
end
section
variable{V:Cb} {k:Nat}
def cY.M {X d:dJ} {g:Y} (e:cY V h0 g c d) (C:cY V h0 J c X):cY V h0 (g.M J) c X:=
 ⟨e.1.bk2 C.1,⟨⟨C.2.1.n.1.M,C.2.1.n.2⟩,⟨C.2.1.b.1.M,C.2.1.b.2⟩,⟨C.2.1.f.1.M,C.2.1.f.2⟩,λp a=>⟨⟨(C.2.1.p p a).1.1.M,(C.2.1.p p a).1.2⟩,⟨(C.2.1.p p a).2.1.M,(C.2.1.p p a).2.2⟩⟩⟩,C.2.2⟩
def xz [eU S L] (HB:MD S) (U:Ce h0) (pw:Jx h0) (NG:Mo h0) (A:EI h0 lp V) (Z:V.O) {X:dJ} (C:cY V h0 h c X) (hl:X.l=lp) (hd:X.d=V.a):
 Bk S L 22 17 [AG c 0,Vi z] h λ_ J=>∃r:dJ,cY V h0 J c r/\r.l=X.l/\r.d=X.d:=
 Cn f17 λd hd' hL=>by
  have s:=C.2.2.b;have hfo:=C.2.2.a;have c0:=hd▸C.cell (i:=0) B;have c1:=hl▸C.cell (i:=1) B;refine⟨_,B,[],Kq,_,ld B c0,_,ld B c1,_,yU (C.C (AA.ad h)) d G,?_⟩;rintro _ f ⟨F,bv,fv,rfl,rb,rf⟩;have C2:=C.C F.M;refine⟨F.C,_,ld B (C2.cell B),_,xL (A.C (C2.1.e.trans (AA.ad _))) Z (Rd.C rb.rd.M (AA.ad _)) (Rd.C rf.rd.M (AA.ad _)) G G C.2.2.z G d G,?_⟩;rintro _ j ⟨Y,bv,xv,pv,y,rfl,P⟩;have u:=F.M.trans Y.M;have M:=P.M (h:=h.M f);obtain⟨bs,fx,ps,⟨N,O,o3,K⟩,q⟩:=M;obtain⟨_,A1,Q,rfl,_⟩:=id N.rd;obtain⟨_,R,k,rfl,_⟩:=id O.rd;have W:AA ((h.M f).M j) (((h.M f).M j).M ((h.M f).M j).ad):=AT (AA.refl _);obtain⟨g,y1,g2,y2,E⟩:=(aH.nil (((h.M f).M j).M ((h.M f).M j).ad)).cx (τ:=Ax) (t:=53) (z:=n_ ⟨[sN,sN]⟩) Kq (v:=n_ ⟨[PA A1 (LB bs) Q,PA R (LB fx) k]⟩) B B B;refine⟨Y.C,_,_,y1 _,_,y2,?_⟩;have m:=u.trans (W.trans E.e);have b:=C.C m;cases y with
  |false=>exact⟨_,_,B,X,b,B,B⟩
  |true=>
  obtain⟨⟨p0,t0,q1⟩,q2,q3,q4,q5,q6,q7,q8⟩:=q B;have oT:=(E.dD 0 B);have qe:X.a<LB ps:=by have:=Cs HD q1;rw[Aj,Aj,Cg,Br] at this;omega
  have H:=W.trans (E.e.trans (AA.ad _));have nN:(h.M f).ad.a=(h.M f).a:=BF _;have nh:=F.M.a;have cl:=(C.1.dD 0 B).1;have o:=b.C (AA.ad _);have sC:=((b.C (AA.ad _)).1.perm (List.Perm.swap _ _ [])).drop 1;refine⟨_,_,B,[.w 7],Kq,_,EQ Kq oT.cells B,_,ld B (b.cell B),_,pJ HB U pw NG A Z sC hl ⟨o.2.1.n.1,λi a e=>o.2.1.n.2 i a (.inl e)⟩ (o.1.sl 1 B).rd
   (λp x=>⟨⟨⟨(o.2.1.p p x).1.1,λi a e=>(o.2.1.p p x).1.2 i a (.inl e)⟩,⟨(o.2.1.p p x).2.1,λi a e=>(o.2.1.p p x).2.2 i a (.inl e)⟩⟩,C.2.2.p p x⟩) s.2.2
   ⟨N.rd.C H,λi a e=>by have:=N.ai i a;omega⟩ ⟨O.rd.C H,λi a e=>by have:=O.ai i a;omega⟩ ⟨q6,q7,q8,λi p a e=>?_⟩ (o3.rd.C H) (K.app (H.O _) λi a=>.inl (.inr G)) ⟨G,G,G⟩ G (Bf qe) qe d G,?_⟩
  rotate_left;rintro _ h5 ⟨r,T,e1,e2,e3,cg⟩;have D:∃s,((((((h.M f).M j).M ((h.M f).M j).ad).M g).M g2)).t.get c=I s/\s.live=true:=by
   obtain⟨_,_,_,gt,_⟩:=b.1.dD 0 B;exact⟨_,gt,B⟩
  exact⟨cg.ok (λi a=>a) D,r,b.M T,e2,e3⟩;have y:∀j,j<=X.a->j_ bs j 0=X.b.getD j 0:=λj m=>by rw[←q1,Ak,Ak,AB (by rw[Aj,Cg];omega),AB (by rw[Cg];omega),LS,Bi G]
  have:=C.2.2.q i p e;unfold ZbR at*;rw[y i G,y (i+1) a];exact this
end
section
variable{V:Cb} {k:Nat}
def Zey (a:Nat×Int):AH:=[.int .u8 (a.1),Vi a.2]
def xy [eU S L] (O:MD S) (U:Ce h0) (P:Jx h0) (Q:Mo h0) (A:EI h0 lp V) (R:V.O) {X:dJ} (C:cY V h0 h c X) (g:X.l=lp) (j:X.d=V.a) {b:List (Nat×Int)} (r:Rd h0 v 2 (LB b) (jL Zey b)) (hn:LB b<=1000):
 Bk S L 24 7 [AG c 0,v] h λ_ J=>∃w:dJ,cY V h0 J c w/\w.l=lp/\w.d=V.a:=
 Cn f7 λd Z hL=>by
  obtain⟨_,A0,y,rfl,_⟩:=id r;refine⟨λo A M=>∃(k:Nat) (X:dJ),A=[(0,AG c 0),(1,PA A0 (LB b) y),(4,Vi k)]/\k<=LB b/\o=LB b-k/\cY V h0 M c X/\X.l=lp/\X.d=V.a,⟨_,_,Sq,G,0,X,B,Al _,B,C,g,j⟩,?_⟩;rintro o A' M ⟨k,X,rfl,hk,rfl,C,g,j⟩ hLt;refine Bz (λk1=>?_) (λ_=>⟨X,C,g,j⟩);have m:k<LB b:=G;obtain⟨a,ca,e,_,q⟩:=(r.C C.1.e).el m;cases e;rw[flatK (f:=Zey) (λ_=>B) b (Ab m)] at q;generalize b[k]=x at q;have T:=q.at (i:=0) B;have t:=q.at (i:=1) B;obtain⟨p,W⟩:∃p,X.ps[X.a]?=I p:=⟨_,Ab C.2.2.a⟩;have u:∀{A:As} {H:Y} {X:dJ},Sub [(0,AG c 0),(1,PA (I a) (LB b) y),(4,Vi ((k+1)))] A->cY V h0 H c X->X.l=lp->X.d=V.a->∃N s,Sub s A/\N<LB b-k/\∃(k:Nat) (X:dJ),s=[(0,AG c 0),(1,PA (I a) (LB b) y),(4,Vi k)]/\k<=LB b/\N=LB b-k/\cY V h0 H c X/\X.l=lp/\X.d=V.a:=λz C g j=>⟨_,_,z,G,k+1,_,B,m,B,C,g,j⟩;refine⟨G,_,Dz (ld B T) B,Pq,Bz (λ_=>?_) (λ_=>Bz (λ_=>?_) (λ_=>Bz (λ_=>?_) (λ_=>?_)))⟩
  .refine⟨G,_,Dz (ld B t) B,_,yP C d G,?_⟩
   rintro _ D ⟨⟨f,n⟩,_⟩;exact⟨Pq,u (Sq) n g j⟩
  .refine⟨G,_,Dz (ld B t) B,_,yZ C d G,?_⟩
   rintro _ D ⟨⟨E,n,F,K⟩,_⟩;exact⟨Pq,u (Sq) n (F.trans g) (K.trans j)⟩
  .refine⟨G,_,Dz (ld B t) B,_,jN C W d G,?_⟩
   rintro _ D ⟨n,_⟩;exact⟨Pq,u (Sq) n g j⟩
  .refine⟨G,_,Dz (ld B t) B,_,xz O U P Q A R C g j d G,?_⟩
   rintro _ D ⟨E,n,F,K⟩;exact⟨Pq,u (Sq) n (F.trans g) (K.trans j)⟩
end
section
variable{V:Cb} {k:Nat}
def xW [eU S L] (HB:MD S) (U:Ce h) (pw:Jx h) (NG:Mo h) {D:Dt} {tx:Bd} {lv qv:Aa} {Q rs:List RT} (DK:lQ h b D) (hs:tx.size<=400) (p:Ls h lv Q) (R:LB Q<=40) (hlz:Oq Q) (pp:Ls h qv rs) (hrs:LB rs<=40):
 PE S L 33 20 [AG b 0,Sg tx,lv,qv,Vi day] h λw J=>AA h J/\∃(o:Aa) (z:Int),w=C4 #[o,Vi z]/\(z=0->∃(h0:Y) (r c:Nat) (V:Cb) (X:dJ),o=AG c 0/\AA h h0/\EI h0 r V/\V.O/\cY V h0 J c X/\X.l=r/\X.d=V.a/\V.b=tx):=
 GU (fn:=f20) Kq B λd hd'=>by
  have s:∀{H:Y} {o:Aa} {z:Int},AA h H->z≠0->AA h H/\∃(o':Aa) (z':Int),C4 #[o,Vi z]=C4 #[o',Vi z']/\(z'=0->∃(h0:Y) (r c:Nat) (V:Cb) (X:dJ),o'=AG c 0/\AA h h0/\EI h0 r V/\V.O/\cY V h0 H c X/\X.l=r/\X.d=V.a/\V.b=tx):=λx hz=>⟨x,_,_,B,λh=>Cf h hz⟩;obtain⟨k1,k2,k3,k4,k5,k6⟩:=DK;refine⟨Dc B,_,Sn U k1 k2 k3 k4 hs k5 k6 p R hlz pp hrs d G,?_⟩;rintro _ h2 ⟨x2,o,z,rfl,hz⟩;refine Ad (λk=>s x2 (by simpa using k)) (λk=>?_);obtain⟨r,V,rfl,A,M,hdb,hvb⟩:=hz (by simpa using k);subst hdb;refine⟨_,(xM A M d G).any,?_⟩;rintro _ u ⟨x3,bv,xv,pv,y,rfl,bs,fx,ps,⟨Z,W,o3,K⟩,q⟩;obtain⟨_,N,O,rfl,_⟩:=id Z.rd;obtain⟨_,g,c2,rfl,_⟩:=id W.rd;obtain⟨g4,y4,g5,y5,I,s5⟩:=(aH.nil u).zah (τ:=Ax) (t:=53) (z:=n_ ⟨[sN,sN]⟩) Kq (v:=n_ ⟨[PA N (LB bs) O,PA g (LB fx) c2]⟩) B B B;have a:=x2.trans (x3.trans I);refine⟨_,_,y4 _,_,y5,?_⟩;cases y with
  |false=>exact⟨_,_,B,s a xc⟩
  |true=>
  obtain⟨q1,q2,q3,q4,q5,q6,q7,q8⟩:=q B;have j:=A.C (x3.trans I);refine⟨_,_,B,_,(iF j M d G).any,?_⟩;rintro nv E ⟨f,T⟩;obtain⟨_,A6x,c6,rfl,_⟩:=id T.rd
  let X:dJ:=⟨V.a,r,PA A6x (LB V.ns) c6,day,sN,[],sN,[],sN,[],0⟩
  obtain⟨g7,y7,m⟩:=(aH.nil E).box Ax 75 (n_ ⟨X.M⟩);have F:=I.trans f;have P:=F.trans m.e;have U6x:=U.C (a.trans f);have n6:=F.a;have o4:=(s5.dD 0 B).C (f.trans m.e);have b1:=Z.aw;have b2:=W.aw;refine⟨_,_,y7,_,EQ Kq o4.cells B,_,(pJ HB U6x (pw.C (a.trans f)) (NG.C (a.trans f)) (j.C f) M m B ⟨T.rd.C m.e,λi n e=>by have:=T.aw i n;omega⟩ (AS.nil _ 0 79 5).rd (λ_ h=>by cases h) (Al _)
   ⟨Z.rd.C P,λi n e=>by have:=b1 i n;omega⟩ ⟨W.rd.C P,λi n e=>by have:=b2 i n;omega⟩ ⟨q6,q7,q8,λ_ _ h=>by cases h⟩ (o3.rd.C P) (λp hp=>⟨⟨(K p hp).1.1.C P,λi n e=>by have:=(K p hp).1.1.aw i n;omega⟩,(K p hp).2⟩) ⟨G,G,G⟩ (Al _) (Al _) (by show 0<LB ps;omega) d G).any,?_⟩
  rintro _ h8 ⟨X',C,e1,e2,e3,_⟩;exact⟨(a.trans f).trans C.1.e,_,_,B,λ_=>⟨E,r,_,V,X',B,a.trans f,j.C f,M,C,e2,e3,hvb⟩⟩
end
section
variable{V:Cb} {k:Nat}
def pR (h J:Y) (e:Bd) (w:Aa):Prop:=AA h J/\∃(o:Aa) (z:Int),w=C4 #[o,Vi z]/\(z=0->∃(h0:Y) (b c:Nat) (V:Cb) (X:dJ),o=AG c 0/\AA h h0/\EI h0 b V/\V.O/\cY V h0 J c X/\X.l=b/\X.d=V.a/\V.b=e)
def xV [eU S L] (u:MD S) (U:Ce h) (y:Jx h) (C:Mo h) (E:G3 h) {s:Lf} (a:Lt L h s) (j:s.C):
 PE S L 35 6 [n_ ⟨s.cells⟩,Vi day] h λw J=>pR h J s.ctx w:=
 GU (fn:=f6) Kq B λd F=>by
  obtain⟨⟨pv,df,cv,W,K,M,N⟩,f,n,m,O,P⟩:=s;obtain⟨g,Q,l⟩:=(aH.nil h).box Ax 30 (n_ ⟨[pv,.int .i64 df,cv,W,.string f,n,m]⟩);have o:=l.dD 0 B;have p:∀{H:Y} {z:Int},AA h H->z≠0->pR h H f (C4 #[.pointer Z,Vi z]):=λx q=>⟨x,_,_,B,λh=>Cf h q⟩;refine⟨Dc B,_,_,Q,_,EQ Kq o.cells B,_,c8 (U.C l.e) (E.C l.e) (a.C l.e) j d G,?_⟩;rintro _ R ⟨t,o2,p2,z,rfl,q⟩;have b:=l.e.trans t;refine Ad (λk=>p b (by simpa using k)) (λk=>?_);obtain⟨T,V,rfl,A,ok,D,rfl,DK⟩:=q (by simpa using k);have c:∀(i:Nat) v,[pv,.int .i64 df,cv,W,.string f,n,m][i]?=I v->aC R h.a i v:=λi v hi=>(o.cell hi).C t;refine⟨_,ld B (c 4 _ B),_,ld B (c 5 _ B),_,ld B (c 6 _ B),_,xW u (U.C b) (y.C b) (C.C b) DK j.2.2.2.1 (Rd.C a.2.1.1 b) j.2.2.2.2.1 j.2.1 (Rd.C a.2.1.2 b) j.2.2.2.2.2 d G,?_⟩;rintro _ h4 ⟨x4,o4,z4,rfl,r⟩;exact⟨b.trans x4,_,_,B,λh0=>by
   obtain⟨h5,T,c,V,X,e1,e2,e3⟩:=r h0;exact⟨h5,T,c,V,X,e1,b.trans e2,e3⟩⟩
end
section
variable{P:AN} {τ:Bb} {ρ:Ren} {w:AM} {id n e lo hi:Nat} {x:Bool}
def xR {c l:T Aa} (y:∀i v,l.get i=I v->c.get i=I v) (a:C5 P τ ρ (h.put id (.cells c n e lo hi x)) w):C5 P τ ρ (h.put id (.cells l n e lo hi x)) w:=by
 have g:∀{j d},(h.put id (.cells l n e lo hi x)).t.get j=I d->(j=id/\d=.cells l n e lo hi x)\/(h.put id (.cells c n e lo hi x)).t.get j=I d:=λ{j d} f=>by
  rw[BQ] at f⊢;split at f
  .cases f;exact .inl ⟨‹_›,B⟩
  .rw[Bm ‹_›];exact .inr f
 have o:(h.put id (.cells c n e lo hi x)).t.get id=I (.cells c n e lo hi x):=by rw[BQ,Bi B]
 refine⟨⟨a.1.fresh,λj M d p f=>?_,a.1.b,λi j q r b s u m k d=>?_,a.1.a⟩,a.2⟩
 .rcases g f with⟨rfl,rfl⟩|f
  .let⟨C,z,A,D,E,F,H⟩:=a.1.hr _ _ _ p o
   exact⟨C,z,A,D,E,λi v K=>F i v (y i v K),H⟩
  .exact a.1.hr _ _ _ p f
 .rcases g m with⟨rfl,rfl⟩|m
  .exact a.1.ord i j q r (.cells c n e lo hi x) s u o k d
  .exact a.1.ord i j q r _ s u m k d
open Classical in
def xQ {f:Au} {g E:Be->AH->Y->Jl} (H:MO P τ f g) (z:∀A args h v t,E A args h=I (v,t)->∃(j:Be) (h0:Y) (l:Nat) (c y:T Aa) (n e lo m:Nat) (x:Bool),C8 P τ j/\g j args h=I (v,h0.put l (.cells c n e lo m x))/\t=h0.put l (.cells y n e lo m x)/\∀i u,y.get i=I u->c.get i=I u):MO P τ f E:=⟨λA _ args o h t v ρ w K M N k O p C=>by
 obtain⟨j,h0,l,c,y,n,e,lo,m,x,Q,U,rfl,z⟩:=z A args h v t N;refine(H.go j Q args o h _ v ρ w K M U (λu g=>if u=v/\g=h0.put l (.cells c n e lo m x) then k v (h0.put l (.cells y n e lo m x)) else Z) O p (by rw[Bi ⟨B,B⟩];exact C)).mono λV w' R=>?_
 cases V with
 |
  returned v'=>
  obtain⟨D,u,g1,X,a,b,r,d,s⟩:=R;dsimp only at d;split at d
  .rename_i q
   obtain⟨rfl,rfl⟩:=q;refine⟨D,_,_,X,a,xR z b,⟨r.a,r.b.1,r.b.2.1,λi m F=>?_⟩,d,s⟩;have:=r.b.2.2 i m F;rw[BQ] at this⊢;by_cases q:i=l
   .exact(F (q▸(h0.C l).2)).elim
   .rwa[Bm q] at this⊢
  .cases d
 |panicked ch=>exact R
 |outgrown=>exact R⟩
def xP {a:Be} {f:Au} {M:E2} {b:Bo} (c:C8 P τ a) (e:dZ τ a f M b=Ag):JZ P τ f M:=by
 unfold dZ at e;split at e
 .exact Tm c ‹_› λv h d=>⟨b,Jf.1 e _ d⟩
 .cases e
end
def xw {l m:AH} (h:dL l m=Ag):l=m:=by
 fun_induction dL l m<;>first|rfl|(rename_i i;let⟨p,q⟩:=Dh h;rw[i q];first|rw[Af p]|rw[CJ.1 p])|cases h
def pI {x:AH}:∀{D r:List BI},dT x D=I r->∃d,x=Bt d/\D.Perm (d::r)
 |d::D,r,h=>by
  unfold dT at h;cases e:dL x (Bt d) with
  |true=>rw[e] at h;cases h;exact⟨d,xw e,.refl _⟩
  |false=>
   rw[e] at h;cases g:dT x D with
   |none=>simp only[g,I0] at h;cases h
   |some s=>
    simp only[g,I0] at h;cases h;let⟨y,a,b⟩:=pI g;exact⟨y,a,(b.cons d).trans (.swap _ _ _)⟩
def pH:∀{l:List AH} {D:List BI},eG l D=Ag->∃a:List BI,l=a.map Bt/\a.Perm D
 |[],[],_=>⟨[],B,.refl _⟩
 |x::l,D,h=>by
  unfold eG at h;cases e:dT x D with
  |none=>simp only[e] at h;cases h
  |some r=>
   simp only[e] at h;obtain⟨d,rfl,p⟩:=pI e;obtain⟨a,rfl,q⟩:=pH h;exact⟨d::a,B,(q.cons d).trans p.symm⟩
def xu {D:List BI} (o:D.Pairwise λa b=>Ty a b≠0) (q:H0 Ty D=D):MO prog Ax 126 (fI D):=xQ (TW ui) λ_ args h v F d=>by
 unfold fI at d;split at d
 case h_2=>cases d
 rename_i r l H g;split at d
 case h_2=>cases d
 rename_i c N e x s;split at d
 case h_2=>cases d
 rename_i K j;replace d:=C1 d;obtain⟨f,d⟩:=d;obtain⟨f,t⟩:=Dh f;obtain⟨f,w⟩:=Dh f;obtain⟨f,y⟩:=Dh f;obtain⟨f,z⟩:=Dh f;obtain⟨A,C⟩:=Dh f;obtain rfl:=Af A;obtain rfl:=Af C;cases d;cases l with
 |zero=>cases z
 |
  succ n=>
  obtain⟨M,rfl,p⟩:=pH t;have m:=(LK j).1;rw[A4] at m;obtain⟨p,E⟩:=Wb lm p o;rw[q] at p;refine⟨_,h,r,T.laid (D.map Bt).flatten 0 c,_,N,109,0,0,x,oG 5,?_,B,λi u k=>?_⟩
  .rw[←p];exact SU lm Kq (i:=t109) Kq (λ_=>⟨B,B⟩) m (Ac y) E (λa _ b _=>Zu (sk (S:=Xj [] []) (L:=1125899906842624)) xc) s (Ac w) j
  .rw[T.O] at k⊢
   split at k
   .rw[Bi ‹_›];exact k
   .cases k
def xt:MO prog Ax 126 (fI eZ):=xu (Fp Kq) Kq
end
section
def ZfX (s:Bd) (a b:Int):Bl:=kU (jl s b.toNat-jl s a.toNat) (s.data.toList.drop (jl s a.toNat))
def ZfY {s:Bd} {a b:Int} (h:0<=a) (i:a<=b) (j:b<=El s):(RV s a b).1.data.toList=ZfX s a b:=by
 unfold RV;rw[Bm G];rfl
def ZfM {l:Bl} {x y z:Nat} (h:x<=y\/LB l<=y) (k:y<=z\/LB l<=z):kU (z-x) (l.drop x)=kU (y-x) (l.drop x)++kU (z-y) (l.drop y):=by
 apply List.ext_getElem?;intro i;grind
def ZfZ {s:Bd} {a b c:Int} (i:a<=b) (k:b<=c):ZfX s a c=ZfX s a b++ZfX s b c:=by
 have f:∀i j:Int,i<=j->jl s i.toNat<=jl s j.toNat\/LB s.data.toList<=jl s j.toNat:=λi j h=>by
  have:=Ti s i.toNat (j.toNat-i.toNat);rw[Nat.add_sub_cancel' G] at this;have e:LB s.data.toList=s.size:=B;grind[jl]
 exact ZfM (f a b i) (f b c k)
def ZfQ {s:Bd} {l:List BI} {a b:Int} (z:ZbA l a b) (h:0<=a) (w:∀n∈l,n.f<n.t) (j:b<=El s):jL (λn=>(RV s n.f n.t).1.data.toList) l=ZfX s a b:=by
 induction l generalizing a with
 |nil=>cases (show a=b from z);simp[ZfX]
 |cons n l i=>
  obtain⟨rfl,z⟩:=z;have w:=List.forall_mem_cons.1 w;have v:=(ZbE z w.2).1;rw[Dg,ZfY h G G,i z G w.2,←ZfZ G v]
def ZfF {s:Bd} (h:1<=El s):ZfX s 0 (El s)=s.data.toList:=by
 have e:LB s.data.toList=s.size:=B
 grind[El,ZfX,jl,Jn]
abbrev ZfT:=Bd×Bd
def ZfW (p:ZfT):AH:=[Sg p.1,Sg p.2]
def ZfC (V:Cb) (i:Nat):ZfT:=((RV V.b (bX V i).f (bX V i).t).1,(bX V i).s)
end
section
variable{S:A9} {L:Nat} {h h0:Y} {v:Aa} {k c lp:Nat} {V:Cb} {X:dJ} [aF S L]
def ZfG {b n:Nat} {xs ys:AH} (c:BK h b n (xs++ys)):BK h b n xs:=let⟨y,c,_,_,_,_,_,q,z⟩:=c;⟨y,c,_,_,_,_,_,q,λi u a=>z i u ((AB (cG.1 a).1).trans a)⟩
def ZfA {l:List Eu} (r:Rd h v 2 (LB l) (jL ME l)) (b:(l.map Eh).Nodup) (C:LB l<=1000) (j:k<LB l):iB S L 1 11 [v,Sg l[k].1] h λw J=>w=Vi k:=
 Cn f11 λd D H=>by
  obtain⟨_,t,u,rfl,_⟩:=id r;refine⟨λo A m=>∃i:Nat,A=[(0,PA t (LB l) u),(1,Sg l[k].1),(5,Vi i)]/\i<=k/\o=k-i/\AA h m,⟨_,_,Sq (l:=[(0,PA t (LB l) u),(1,Sg l[k].1),(5,Vi (0:Nat))]),G,0,B,Al _,B,AA.refl h⟩,?_⟩;rintro o A m ⟨i,rfl,E,rfl,x⟩ z;refine Bz (λF=>?_) (λ_=>G);have y:i<LB l:=G;obtain⟨a,c,e,_,q⟩:=(r.C x).el y;cases e;rw[flatK (f:=ME) (λ_=>B) l (Ab y)] at q;have K:l[i].1=l[k].1->i=k:=λe=>by
   rcases gF E with h|h
   .exact h
   .exact((List.pairwise_iff_getElem.1 b i k (by simpa using y) (by simpa using j) h) (by simpa using e)).elim
  refine⟨G,_,Dz (ld B (q.at (i:=0) B)) B,_,B,Ad (λe=>?_) (λe=>?_)⟩
  .exact⟨x,by rw[K (CJ.1 e)];rfl⟩
  .have:i≠k:=λf=>by subst f;rw[CJ.2 B] at e;cases e
   exact⟨Pq,_,_,Sq,(by omega:k-(i+1)<k-i),i+1,B,G,B,x⟩
def ZfB [cJ S L] (A:EI h lp V) (R:V.O) (U:Ce h) {l:Bo} {u:Aa} {c:Int} {x:Bd} (r:Rd h u 1 (LB l) (Bn l)) (hl:LB l<=1000) (hc:fE V l (LB l)):
 iB S L 9 23 [AG lp 0,n_ ⟨[u,Vi c,Sg x]⟩] h λw J=>AS J h.a 43 2 w (LB l) (jL ZfW (l.map (ZfC V))):=
 Cn f23 λd hd' hL=>by
  have tx:aL V.b<=256:=by have h1:=R.cL;have h2:=R.N;have:=VD (s:=V.b) G;omega
  obtain⟨m,n,rfl⟩:∃A c,u=PA A (LB l) c:=by obtain⟨_,A,c,e,_⟩:=r;exact⟨A,c,e⟩
  obtain⟨D,W,g⟩:=(aH.nil h).box Ax 77 (n_ ⟨[PA m (LB l) n,Vi c,Sg x]⟩);refine⟨_,_,W,_,EQ (k:=3) Kq (g.dD 0 B).cells B,_,yB (A.C g.e) R (r.C g.e) hl hc d G,?_⟩;rintro w h2 ⟨Y,H⟩;obtain⟨_,b,p,rfl,_⟩:=id H.rd;have s2:=((g.add (a:=aS D.a 109 7 (PA b (LB l) p) (LB l) (jL Bt (l.map (bX V)))) Y H H.ai).nl h.a 43 2);refine⟨λt A K=>∃(k:Nat) (v:Aa),A=[(0,AG lp 0),(5,v),(12,PA b (LB l) p),(13,Vi (LB l)),(14,Vi k)]/\k<=LB l/\t=LB l-k/\aH h K [aS h.a 43 2 v k (jL ZfW ((l.take k).map (ZfC V))),aS D.a 109 7 (PA b (LB l) p) (LB l) (jL Bt (l.map (bX V))),aO h.a 77 [PA m (LB l) n,Vi c,Sg x]],
   ⟨_,_,Sq,G,0,_,B,Al _,B,s2⟩,?_⟩
  rintro t A' K ⟨k,v,rfl,hk,rfl,s⟩ hLt;refine Bz (λk1=>?_) (λk1=>?_);rotate_left
  .obtain rfl:k=LB l:=G
   have o:=s.sl 0 B;rw[CS] at o;exact⟨s.e,o⟩
  have y:k<LB l:=G;obtain⟨C,c',e9,_,q⟩:=(s.sl 1 B).rd.el y;cases e9;rw[flatK (f:=Bt) (λ_=>B) _ (show(l.map (bX V))[k]?=I (bX V l[k]) by rw[AX,Ab y];rfl)] at q;have Q:(kU (k+1) l).map (ZfC V)=(kU k l).map (ZfC V)++[ZfC V l[k]]:=by rw[A5 y,BS];rfl
  unfold ZfC at Q;generalize bX V l[k]=N at q Q;obtain⟨g1,F,E,z,j⟩:=s.va 109 (Bt DS) (Bt N);have X:AA h E:=j.e;have P:=j.C (AT (AA.refl E));refine⟨G,_,EQ (k:=7) Kq q B,_,_,F _,_,z,[],Kq,_,PT (A.C (X.trans (AA.ad _))) d G,?_⟩;rintro _ _ ⟨rfl,rfl⟩;refine⟨B,_,ld B (P.q 0 0 B B),_,ld B (P.q 0 1 B B),_,xl (h:=(nb E).ad) (U.C (P.e.trans (AA.ad _))) G d G,?_⟩;rintro _ h5 ⟨x5,rfl⟩;have j5:=P.C x5.M;obtain⟨v',J,T,W5⟩:=j5.ba Kq (i:=1) B (ys:=ZfW ((RV V.b N.f N.t).1,N.s)) B B j5.e.a G (n':=k+1) (xs':=jL ZfW ((l.take (k+1)).map (ZfC V))) B (by unfold ZfC;rw[Q,E0];rfl);exact⟨x5.C,_,ld B (j5.q 0 2 B B),_,_,i3 38 43 2 (n_ ⟨ZfW ((RV V.b N.f N.t).1,N.s)⟩) _,_,_,T,Pq,_,_,Sq,G,k+1,_,B,G,B,W5.drop 1⟩
def ZfD [cJ S L] (A:EI h0 lp V) (R:V.O) (U:Ce h0) (C:cY V h0 h c X) (hl:X.l=lp):
 iB S L 12 8 [AG c 0] h λw J=>∃ws:List ZfT,AS J h.a 43 2 w (LB ws) (jL ZfW ws)/\LB ws<=1000*LB X.ps/\jL (λp=>p.1.data.toList) ws=V.b.data.toList/\jL (λp=>p.2.data.toList) ws=X.ps.flatMap λp=>(ZbV p).data.toList:=
 Cn f8 λd hd' hL=>by
  have hN:=R.N;have cL:=R.cL;have tx:aL V.b<=256:=by have:=VD (s:=V.b) G;omega
  obtain⟨b,m,e⟩:=C.lit;have hb:=C.2.2.b;have hz:=C.2.2.z;obtain⟨_,P1,c1,ec1,_⟩:=id C.2.1.b.1;have N:=e▸C.cell (i:=6) B;have z0:ZfX V.b 0 (X.b.getD 0 0:Nat)=[]:=by
   rw[Ak,hz.2.1];show ZfX V.b 0 0=[];simp[ZfX]
  have hx:=ZbX hz
  let Ix:Nat->As->Y->Prop:=λt A l=>∃(k:Nat) (v:Aa) (ws:List ZfT),A=[(0,AG c 0),(3,v),(13,sL b (LB X.ps) m),(14,Vi (LB X.ps)),(15,Vi k)]/\k<=LB X.ps/\t=LB X.ps-k/\(LB ws<=1000*k/\jL (λp=>p.1.data.toList) ws=ZfX V.b 0 (X.b.getD k 0:Nat)/\jL (λp=>p.2.data.toList) ws=(X.ps.take k).flatMap λp=>(ZbV p).data.toList)/\aH h l [aS h.a 43 2 v (LB ws) (jL ZfW ws)]
  refine⟨_,B,_,ld B N,Ix,
   ⟨_,_,Sq,G,0,_,[],B,Al _,B,⟨Al _,z0.symm,B⟩,(aH.nil h).nl h.a 43 2⟩,?_⟩
  rintro t A' l ⟨k,v,ws,rfl,hk,rfl,⟨w1,w2,w3⟩,s⟩ O;refine Bz (λP=>?_) (λP=>?_);rotate_left
  .obtain rfl:k=LB X.ps:=G
   rw[hx.2 _ hb.1.symm,←cL,ZfF G] at w2;rw[CS] at w3;exact⟨s.e,ws,s.sl 0 B,w1,w2,w3⟩
  have n:k<LB X.ps:=G;have q:=(C.C s.e).O e n;have et:=A5 n;have Q:=C.2.2.q k _ (Ab n);obtain⟨p,u⟩:∃p,p=X.ps[k]:=⟨_,B⟩;rw[←u] at q et Q;have o:=u▸Bu _;obtain⟨⟨o1,o2,o3,_⟩,g,o4,_,o5,_⟩:=C.2.2.p p o;obtain⟨b1,b2,_⟩:=hx.1 k G;have vb:ZbV p=p.cs[p.C].1:=by unfold ZbV;rw[Ak,Ab g];rfl
  have Yr:=(C.2.1.p p o).2.1;have Y1:=(C.2.1.p p o).1.1;obtain⟨_,r,c3,en,_⟩:=id Y1;obtain⟨x,y,ec,_,D⟩:=Yr.el g;rw[flatK (f:=ME) (λ_=>B) p.cs (Ab g)] at D;unfold dA.M at q;rw[en,ec] at q;rw[en] at Y1;obtain⟨g1,F,E,z,j⟩:=s.va 79 [sN,Vi 0,Sg ⟨#[]⟩,sN,Vi 0] [PA r (LB p.nl) c3,Vi p.d,Sg p.b,PA (I x) (LB p.cs) y,Vi p.C];have f3:aC E l.a 3 (PA (I x) (LB p.cs) y):=j.q 0 _ B B;have f4:aC E l.a 4 (Vi p.C):=j.q 0 _ B B;have CE:=C.C j.e;have K:=CE.cell (i:=1) B;rw[hl] at K;have nx:∀{A:As} {H:Y} {v':Aa} {us:List ZfT},Sub [(0,AG c 0),(3,v'),(13,sL b (LB X.ps) m),(14,Vi (LB X.ps)),(15,Vi ((k+1:Nat):Int))] A->LB us<=1000->jL (λp=>p.1.data.toList) us=ZfX V.b (X.b.getD k 0:Nat) (X.b.getD (k+1) 0:Nat)->jL (λp=>p.2.data.toList) us=(ZbV p).data.toList->aH h H [aS h.a 43 2 v' (LB (ws++us)) (jL ZfW (ws++us))]->∃m' a,Sub a A/\m'<LB X.ps-k/\Ix m' a H:=λa i u1 u2 s=>
   ⟨_,_,a,(by omega:LB X.ps-(k+1)<_),k+1,_,ws++_,B,n,B,⟨by rw[Aj];omega,by rw[E0,w2,u1,←ZfZ G G],by rw[E0,w3,u2,et,E0];simp⟩,s⟩
  refine⟨G,_,EQ Kq q B,_,_,F _,_,z,_,ld B f4,Bz (λk1=>?_) (λk1=>?_)⟩
  .have k1:p.C=0:=G
   have zp:ZbV p=p.b:=by
    have:=o5;rw[AX] at this;unfold ZbV;rw[k1,Ak];cases q:p.cs[0]? with
    |none=>rw[q] at this;cases this
    |some x=>rw[q] at this;exact I.inj this
   refine⟨[],Kq,_,ld B K,_,EQ (k:=3) Kq (ZfG (xs:=[PA r (LB p.nl) c3,Vi p.d,Sg p.b]) (j.dD 0 B).cells) B,_,ZfB (A.C (CE.1.e.trans (AA.ad _))) R (U.C (CE.1.e.trans (AA.ad _))) (Y1.C (j.e.trans (AA.ad _))) o2 (ZbD Q o1) d G,?_⟩;rintro w8 h8 ⟨x8,o8⟩;have s6:=j.cf (a:=aS E.a 43 2 w8 (LB p.nl) _) x8 (o8.mono (by rw[BF];exact Ae _)) (λi a=>by have:=o8.ai i a;rwa[BF] at this);have r6:=(s6.sl 0 B).rd.C (AA.ad _);have lw:LB ((p.nl.map (ZfC V)).flatMap ZfW)=LB p.nl*2:=by rw[HV (f:=ZfW) (λ_=>(B:_=2)),A4]
   obtain⟨v',J,T,o9,ch,f9⟩:=UN (st:=38) (t2:=38) (e:=43) (k:=2) Kq ((s6.sl 2 B).C (AA.ad _)) (x:=w8) r6.bu r6.src lw (Jf.2 λv a=>by obtain⟨n,_,a⟩:=iq.1 a;exact Jf.1 (B:(ZfW n).all one=true) v a) (by rw[BF];exact s6.e.a) G;have s7:=(s6.aZ 2 B ch (a':=aS h.a 43 2 v' (LB ws+LB p.nl) _) o9 f9).drop 2;refine⟨x8.C,_,_,T,Pq,nx (us:=p.nl.map (ZfC V)) (Sq) (by rw[A4];exact o2) ?_ ?_ (by rw[Aj,A4,E0];exact s7)⟩
   .rw[UM,←ZfQ Q G (λn a=>by obtain⟨i,w,rfl⟩:=dP.1 a;exact(ig R (o1 i w)).2.1.1) G,UM];rfl
   .rw[UM,zp,o3];rfl
  refine⟨[],Kq,_,ld B K,_,PT (A.C (CE.1.e.trans (AA.ad _))) d G,?_⟩;rintro _ _ ⟨rfl,rfl⟩;have j2:=j.C (AT (AA.refl E));have C2:=C.C j2.e;have cb:=C2.cell (i:=4) B;rw[ec1] at cb;obtain⟨a4,c4,e4,_,qb⟩:=((ec1▸C.2.1.b.1).C j2.e).at_ G;cases e4;refine⟨B,_,ld B cb,G,_,Dz (ld B (qb k _ (GH G))) xU,_,ld B cb,Pq,G,_,Dz (ld B (qb (k+1) _ (GH G))) xU,_,xl (h:=(nb E).ad) (U.C (C2.1.e.trans (AA.ad _))) G d G,?_⟩;rintro _ h5 ⟨x5,rfl⟩;have j5:=j2.C x5.M;obtain⟨v',J,T,W5⟩:=j5.ba Kq (i:=1) B (ys:=ZfW ((RV V.b (X.b.getD k 0:Nat) (X.b.getD (k+1) 0:Nat)).1,p.cs[p.C].1)) B B j5.e.a G (n':=LB (ws++[((RV V.b (X.b.getD k 0:Nat) (X.b.getD (k+1) 0:Nat)).1,p.cs[p.C].1)])) (xs':=jL ZfW (ws++[((RV V.b (X.b.getD k 0:Nat) (X.b.getD (k+1) 0:Nat)).1,p.cs[p.C].1)])) wl (by rw[E0];rfl);refine⟨x5.C,_,ld B (j5.q 0 3 B B),_,ld B (j5.q 0 4 B B),G,_,ld B ((D.C j5.e).at B),_,_,i3 38 43 2 (n_ ⟨ZfW ((RV V.b (X.b.getD k 0:Nat) (X.b.getD (k+1) 0:Nat)).1,p.cs[p.C].1)⟩) _,_,_,T,Pq,nx (Sq) (by show 1<=1000;decide) (by rw[←ZfY (by omega) G G];simp) (by rw[vb];simp) (W5.drop 1)⟩
def ZfS {α:Type} {m:Nat} {l:List α} {g:α->Bl} (h:∀a∈l,LB (g a)<=m):LB (l.flatMap g)<=m*LB l:=by
 induction l with
 |nil=>exact Al _
 |cons a l i=>rw[Dg,Aj,AO,Nat.mul_succ];have:=h a (Av ..);have:=i λb c=>h b (Az _ c);omega
def ZfU {α:Type} {l:List α} {g:α->Bl} (k:Nat):LB ((l.take k).flatMap g)<=LB (l.flatMap g):=by
 have e:jL g l=jL g (l.take k)++jL g (l.drop k):=by rw[←E0,FO]
 rw[e,Aj];omega
def ZfV {a b:Bd}:(a++b).data.toList=a.data.toList++b.data.toList:=by rw[←AEt]
def ZfP {a b:Bd} (h:a.data.toList=b.data.toList):a=b:=by cases a;cases b;exact Cs ByteArray.mk (Array.ext' h)
end
section
variable{S:A9} {L:Nat} {h:Y} {v:Aa} {day:Int}
def ZfL [zx:eU S L] (HB:MD S) (U:Ce h) (pw:Jx h) (NG:Mo h) (qq:G3 h) (hw:∀J:Y,AA h J->iB S L 1 5 [] J λw g=>w=CU Ag) {s:Lf} (a:Lt L h s) {R:List (Nat×Int)} (r:Rd h v 2 (LB R) (jL Zey R)):
 PE S L 40 3 [n_ ⟨s.cells⟩,Vi day,v] h λw g=>AA h g/\w=CU Ag:=
 GU (fn:=f3) Kq B λd hd'=>by
  obtain⟨_,A0,c0,rfl,_⟩:=id r;obtain⟨⟨pv,df,cv,ev,ps,cs,es⟩,E,lv,rv,ls,rs⟩:=s;obtain⟨g,y1,s1⟩:=(aH.nil h).box Ax 30 (n_ ⟨[pv,.int .i64 df,cv,ev,.string E,lv,rv]⟩);have o:=s1.dD 0 B;have hL:=zx.a;refine⟨Dc B,_,_,y1,_,EQ Kq o.cells B,_,(c7 (a.C s1.e) d G).any,?_⟩;rintro _ h2 ⟨x2,y,rfl,hl⟩;have j:=s1.e.trans x2;have t:=λ{H:Y} (x:AA h H)=>(hw H x d G).any;have T:∀{H w g},AA h H->AA H g/\w=Value.bool Ag->AA h g/\w=CU Ag:=λx h=>⟨x.trans h.1,h.2⟩;cases y with
  |false=>exact⟨_,_,B,_,t j,λ_ _=>T j⟩
  |true=>
  have hl:=hl B;refine⟨_,_,B,Bz (λ_=>⟨_,t j,λ_ _=>T j⟩) (λk1=>?_)⟩;refine⟨_,EQ Kq (o.C x2).cells B,_,xV HB (U.C j) (pw.C j) (NG.C j) (qq.C j) (a.C j) hl d G,?_⟩;rintro _ h3 ⟨x3,_,z,rfl,hz⟩;have X3:=j.trans x3;refine Ad (λ_=>⟨_,t X3,λ_ _=>T X3⟩) (λk4=>?_);obtain⟨h0,lp,c,V,X,rfl,x0,A,ok,C,hl1,hd1,hv⟩:=hz (by simpa using k4);have D:=j.trans x0;refine⟨_,(xy HB (U.C D) (pw.C D) (NG.C D) A ok C hl1 hd1 (r.C D) G d G).any,?_⟩;rintro _ h4 ⟨f,q,hl2,hd2⟩;have fb:=q.2.2.b;have fz:=q.2.2.z;have tx:aL V.b<=256:=by have h1:=ok.cL;have h2:=ok.N;have:=VD (s:=V.b) G;omega
  refine⟨_,(ZfD A ok (U.C D) q hl2 d G).any,?_⟩;rintro w1 h5 ⟨x5,ws,o5,wl,wa,wb⟩;refine⟨_,(yO (q.C x5) d G).any,?_⟩;rintro w2 h6 ⟨x6,o6⟩;obtain⟨P6,c6,rfl⟩:∃A c,w2=PA A (LB f.ps) c:=by obtain⟨_,A,c,e,_⟩:=o6.rd;exact⟨A,c,e⟩
  obtain⟨P5,c5,rfl⟩:∃A c,w1=PA A (LB ws) c:=by obtain⟨_,A,c,e,_⟩:=o5.rd;exact⟨A,c,e⟩
  have vz:∀p∈f.ps,LB (ZbV p).data.toList<=1100000:=λp m=>by
   obtain⟨_,g,_,_,_,z⟩:=q.2.2.p p m;unfold ZbV;rw[Ak,Ab g];exact z _ (Bu _)
  have vs:=ZfS vz;refine⟨λμ A Q H=>∃(k:Nat) (O F:Bd),A=[(3,AG h.a 0),(7,AG c 0),(9,Sg O),(10,Sg F),(11,Sg ⟨#[]⟩),(12,PA P5 (LB ws) c5),(13,PA P6 (LB f.ps) c6),(14,Vi k)]/\Q=[]/\k<=LB ws/\μ=LB ws-k/\O.data.toList=jL (λp=>p.1.data.toList) (ws.take k)/\F.data.toList=jL (λp=>p.2.data.toList) (ws.take k)/\AA h6 H,⟨_,_,Sq,G,0,⟨#[]⟩,⟨#[]⟩,B,B,Al _,B,B,B,AA.refl _⟩,?_⟩;rintro μ A _ H ⟨k,O,F,rfl,rfl,hk,rfl,e1,e2,K⟩ Ub;refine Bz (λk2=>?_) (λk2=>?_)
  .have n:k<LB ws:=G
   obtain⟨a5,c5',e9,_,z⟩:=((o5.rd.C x6).C K).el n;cases e9;rw[flatK (f:=ZfW) (λ_=>B) ws (Ab n)] at z;have f1:=ZfU (l:=ws) (g:=λp=>p.1.data.toList) (k+1);have f2:=ZfU (l:=ws) (g:=λp=>p.2.data.toList) (k+1);rw[wa] at f1;rw[wb] at f2;have et:=A5 n;have g1:(O++ws[k].1).data.toList=jL (λp=>p.1.data.toList) (ws.take (k+1)):=by rw[ZfV,e1,et,E0];simp
   have g2:(F++ws[k].2).data.toList=jL (λp=>p.2.data.toList) (ws.take (k+1)):=by rw[ZfV,e2,et,E0];simp
   have q1:LB O.data.toList+LB ws[k].1.data.toList<=256:=by rw[←Aj,←ZfV,g1];exact Ao f1 tx
   have q2:LB F.data.toList+LB ws[k].2.data.toList<=3300000000:=by rw[←Aj,←ZfV,g2];omega
   exact⟨[],Kq,G,_,Dz (ld B (z.at (i:=0) B)) B,Sg (O++ws[k].1),ZS _ _ (by show LB O.data.toList+LB ws[k].1.data.toList<=_;omega),G,_,Dz (ld B (z.at (i:=1) B)) B,Sg (F++ws[k].2),ZS _ _ (by show LB F.data.toList+LB ws[k].2.data.toList<=_;omega),Pq,_,_,Sq,(by omega:LB ws-(k+1)<_),k+1,_,_,B,B,n,B,g1,g2,K.trans (AT (AA.refl H))⟩
  obtain rfl:k=LB ws:=G;rw[CS,wa] at e1;rw[CS,wb] at e2;obtain rfl:=ZfP e1;refine⟨λμ A Q H=>∃(k:Nat) (M:Bd),A=[(3,AG h.a 0),(7,AG c 0),(9,Sg V.b),(10,Sg F),(11,Sg M),(13,PA P6 (LB f.ps) c6),(15,Vi k)]/\Q=[]/\k<=LB f.ps/\μ=LB f.ps-k/\M.data.toList=jL (λp=>(ZbV p).data.toList) (f.ps.take k)/\AA h6 H,⟨_,_,Sq,G,0,⟨#[]⟩,B,B,Al _,B,B,K⟩,?_⟩;rintro μ A _ H ⟨k,M,rfl,rfl,hk,rfl,e3,K⟩ Ub;refine Bz (λk2=>?_) (λk2=>?_)
  .have n:k<LB f.ps:=G
   have P:=(x5.trans x6).trans K;have p0:=q.2.2.p _ (Bu n);have f1:=ZfU (l:=f.ps) (g:=λp=>(ZbV p).data.toList) (k+1);have et:=A5 n;obtain⟨a6,c,e,_,z⟩:=(o6.rd.C K).at_ G;cases e;have l6:aC H a6.block (a6.off+(k:Int).toNat*1) (Sg (ZbV f.ps[k])):=by rw[BJ];exact z k _ (by unfold AR;rw[AX,AX,Ab n];rfl)
   have g3:(M++ZbV f.ps[k]).data.toList=jL (λp=>(ZbV p).data.toList) (f.ps.take (k+1)):=by rw[ZfV,e3,et,E0];simp
   have q3:LB M.data.toList+LB (ZbV f.ps[k]).data.toList<=3300000000:=by rw[←Aj,←ZfV,g3];omega
   refine⟨G,_,ld B l6,Sg (M++ZbV f.ps[k]),ZS _ _ (by show LB M.data.toList+LB (ZbV f.ps[k]).data.toList<=_;omega),_,(qs (q.C P) n d G).any,?_⟩;rintro _ hc ⟨xc,u,rfl,ou⟩;generalize f.ps[k]=p at g3 l6 p0 ou;obtain⟨_,pg,p6,pn,_⟩:=p0;obtain⟨Au,cu,rfl⟩:∃A c,u=PA A (LB p.cs) c:=by obtain⟨_,A,c,e,_⟩:=ou.rd;exact⟨A,c,e⟩
   obtain⟨au,cu',eu,_,zu⟩:=ou.rd.el pg;cases eu;rw[flatK (f:=ME) (λ_=>B) p.cs (Ab pg)] at zu;have vb:ZbV p=p.cs[p.C].1:=by unfold ZbV;rw[Ak,Ab pg];rfl
   have l7:=l6.C xc;refine⟨[],Kq,Bz (λ_=>G) (λ_=>Bz (λ_=>G) (λ_=>⟨G,_,Dz (ld B (zu.at (i:=0) B)) B,G,_,ld B l7,_,B,Ad (λe=>by rw[vb,CJ.2 B] at e;cases e) (λ_=>?_)⟩))⟩;have xd:=(K.trans xc).trans (AT (AA.refl hc));refine⟨λμ A Q D=>∃i:Nat,A=[(3,AG h.a 0),(7,AG c 0),(9,Sg V.b),(10,Sg F),(11,Sg (M++ZbV p)),(13,PA (I a6) (LB f.ps) c6),(15,Vi k),(16,PA (I au) (LB p.cs) cu),(18,Vi i)]/\Q=[]/\i<=LB p.cs/\μ=LB p.cs-i/\AA h6 D/\AA hc D,⟨_,_,Sq,G,0,B,B,Al _,B,xd,AT (AA.refl hc)⟩,?_⟩;rintro μ A _ D ⟨i,rfl,rfl,hi,rfl,xD,xE⟩ Ub;refine Bz (λk3=>?_) (λk3=>?_)
   .have ni:i<LB p.cs:=G
    have rD:=ou.rd.C xE;obtain⟨_,_,e9,_,z⟩:=rD.el ni;cases e9;rw[flatK (f:=ME) (λ_=>B) p.cs (Ab ni)] at z;refine⟨G,_,Dz (ld B (z.at (i:=0) B)) B,_,(ZfA rD pn G ni d G).any,?_⟩;rintro _ he ⟨xe,rfl⟩;exact Ad (λe=>Cf e (by simp)) (λ_=>⟨Pq,_,_,Sq,(by omega:LB p.cs-(i+1)<_),i+1,B,B,ni,B,xD.trans xe,xE.trans xe⟩)
   .exact⟨Pq,_,_,Sq,(by omega:LB f.ps-(k+1)<_),k+1,_,B,B,n,B,g3,xD⟩
  obtain rfl:k=LB f.ps:=G;rw[CS,←e2] at e3;obtain rfl:=ZfP e3;have P:=(x5.trans x6).trans K;have qH:=q.C P;have X:AA h H:=D.trans qH.1.e;have le:aC H h.a 4 (.string E):=(o.cell (i:=4) B).C (x2.trans (x0.trans qH.1.e));refine⟨_,ld B le,_,B,Ad (λ_=>?_) (λe=>by rw[show V.b=E from hv,CJ.2 B] at e;cases e)⟩;refine⟨_,B,Ad (λ_=>?_) (λe=>by rw[CJ.2 B] at e;cases e)⟩;refine⟨_,(yU qH d G).any,?_⟩;rintro _ hb ⟨xb,_,_,rfl,ob,_⟩;obtain⟨_,Ab1,cb1,rfl,_⟩:=id ob.rd;refine⟨Pq,Bz (λ_=>?_) (λb=>(b G).elim)⟩;refine⟨_,(yV (qH.C xb) d G).any,?_⟩;rintro _ _ ⟨rfl,rfl⟩;refine⟨_,(yV (qH.C xb) d G).any,?_⟩;rintro _ _ ⟨rfl,rfl⟩;have fa:=q.2.2.a;refine Bz (λ_=>?_) (λb=>(b G).elim);exact⟨_,t (X.trans xb),λ_ _=>T (X.trans xb)⟩
end
def gW:Be->AH->Y->Jl:=Vh Ax [iC]
def Ya {h:Y} (a:h.t.get 0=I Ft.oB) (b:h.t.get 1=I Fu.oB) (c:h.t.get 4=I Hu.oB):QG Ax iC [] h=I (.bool Ag,h):=by
 have e:QG Ax iC [] h=(bif Ag&&Ag&&Ag&&(AD 0 Ax.a&&Hv (De Ax.a []) Ft (h.t.get 0)&&(AD 1 Ax.a&&Hv (De Ax.a []) Fu (h.t.get 1)&&(AD 4 Ax.a&&Hv (De Ax.a []) Hu (h.t.get 4)&&Ag))) then I (.bool Ag,⟨h.t,h.a+0,h.lo⟩) else Z):=B
 rw[e,a,b,c];have Cw:(Ag&&Ag&&Ag&&(AD 0 Ax.a&&Hv (De Ax.a []) Ft (I Ft.oB)&&(AD 1 Ax.a&&Hv (De Ax.a []) Fu (I Fu.oB)&&(AD 4 Ax.a&&Hv (De Ax.a []) Hu (I Hu.oB)&&Ag))))=true:=Kq
 rw[Cw];cases h;rfl
def vP:BZ:=[⟨⟨[227,128,135]⟩⟩,⟨⟨[228,184,128]⟩⟩,⟨⟨[228,186,140]⟩⟩,⟨⟨[228,184,137]⟩⟩,⟨⟨[229,155,155]⟩⟩,⟨⟨[228,186,148]⟩⟩,⟨⟨[229,133,173]⟩⟩,⟨⟨[228,184,131]⟩⟩,⟨⟨[229,133,171]⟩⟩,⟨⟨[228,185,157]⟩⟩,⟨⟨[]⟩⟩,⟨⟨[229,141,129]⟩⟩,⟨⟨[231,153,190]⟩⟩,⟨⟨[229,141,131]⟩⟩]
def Zh:BZ:=[⟨⟨[233,155,182]⟩⟩,⟨⟨[229,163,177]⟩⟩,⟨⟨[229,188,144]⟩⟩,⟨⟨[229,143,130]⟩⟩,⟨⟨[229,155,155]⟩⟩,⟨⟨[228,186,148]⟩⟩,⟨⟨[229,133,173]⟩⟩,⟨⟨[228,184,131]⟩⟩,⟨⟨[229,133,171]⟩⟩,⟨⟨[228,185,157]⟩⟩,⟨⟨[]⟩⟩,⟨⟨[230,139,190]⟩⟩,⟨⟨[231,153,190]⟩⟩,⟨⟨[229,141,131]⟩⟩]
def Zn:BZ:=[⟨⟨[]⟩⟩,⟨⟨[228,184,135]⟩⟩,⟨⟨[229,132,132]⟩⟩,⟨⟨[229,133,134]⟩⟩,⟨⟨[228,186,172]⟩⟩]
def oK:CB:=.cells (Qu vP Ah) 443 0 0 Ag
def ou:CB:=.cells (Qu Zh Ag) 443 0 0 Ag
def ot:CB:=.cells (AR Zn) 484 0 0 Ag
def oI:CB:=.cells ((BG 20).map λi=>.int .u64 ((10^i:Nat):Int)) 525 0 0 Ag
def W5:List (Nat×CB):=[(0,Ft),(1,Fu),(2,oK),(3,ou),(4,Hu),(5,ot),(7,oI)]
def Abh:(match Hu with|.cells l _ _ _ _=>Am l.length 16&&l.all (λv=>match v with|.int .u32 (.ofNat x)=>AD x 4294967296|_=>Ah)|_=>Ah)=true:=Kq
section
variable{h:Y}
def Y5 (g0:h.t.get 0=some Ft.oB) (g1:h.t.get 1=some Fu.oB) (hn:10<=h.a):Ce h:=⟨g0,g1,G⟩
def Auh (a:h.t.get 7=I oI.oB) (hn:10<=h.a):Jx h:=λi U=>OU a (by omega) (by
 rw[AX,Jj (by omega)];rfl)
def Auc (b:h.t.get 2=I oK.oB) (c:h.t.get 3=I ou.oB) (d:h.t.get 5=I ot.oB) (hn:10<=h.a):Mo h:=by
 have sz:∀l:BZ,l.all (λs=>Ar s.size 100)=Ag->∀s∈l,s.size<=100:=λl e s f=>Ac (List.all_eq_true.1 e s f);exact⟨⟨vP,Ah,B,sz _ Kq,Kg b (by omega) λi v a=>by rw[Ba];exact a⟩,
  ⟨Zh,Ag,B,sz _ Kq,Kg c (by omega) λi v a=>by rw[Ba];exact a⟩,
  Zn,B,sz _ Kq,Kg d (by omega) λi v a=>by rw[Ba];exact a⟩
def Ahu (b:h.t.get 4=I Hu.oB) (hn:10<=h.a):G3 h:=by
 have Cw:=Abh;obtain⟨l,e,c⟩:∃l e,Hu=.cells l e 0 0 true:=⟨_,_,B⟩;rw[c] at Cw b;simp only[An] at Cw;have f:=Af Cw.1;intro i U;have a:=List.all_eq_true.1 Cw.2 l[i] (Bu _);split at a
 .rename_i x d
  exact⟨x,by simpa[AK] using a,OU b (by omega) (by rw[Ab (by omega),d];rfl)⟩
 .cases a
end
def jO (s:Bd):E2:=fF s (.string s)
def mg {s:Bd} (n:Nat) (a:Ar (CA s.size s.data.toList).length (dN (CA s.size s.data.toList) n).1=Ag) (b:(dN (CA s.size s.data.toList) n).2=s.data.toList) (c:Ar s.size 1000=Ag):Mk 157 (jO s):=by
 have e:d6 s=s:=by
  by_cases hv:FH s=true
  .exact(qx (n:=n) hv (Ac a)).trans (by rw[b])
  .unfold d6;rw[if_neg hv]
 have h:=(lO (s:=s) (Ac c)).1;rw[e] at h;exact h
def wi:Mk 157 (jO ⟨⟨mD 12 0xe3818de38287e38186e381af []⟩⟩):=mg 4 Kq Kq Kq
def wg:Mk 157 (jO ⟨⟨mD 9 0xe3818de38287e38186 []⟩⟩):=mg 3 Kq Kq Kq
def wf:Mk 157 (jO ⟨⟨mD 3 14909871 []⟩⟩):=mg 1 Kq Kq Kq
def ze {f:Au} {g x y:Be->AH->Y->Jl} (hg:(bif Am f 117 then I x else bif Am f 126 then I y else Z)=I g) (a:MO prog Ax 117 x) (b:MO prog Ax 126 y):MO prog Ax f g:=by
 cases h:Am f 117 with
 |true=>rw[h] at hg;cases hg;obtain rfl:=Af h;exact a
 |
  false=>
  rw[h] at hg;simp only[cond_false] at hg;cases h:Am f 126 with
  |true=>rw[h] at hg;cases hg;obtain rfl:=Af h;exact b
  |false=>rw[h] at hg;cases hg
def zf (a:MO prog Ax 117 (Vh Ax [m7,m8,m9,kY])):JX prog Ax lI:={a:=λf g hg=>(ze hg a xt).go,b:=ic.b,c:=ic.c,ex:=ic.ex,cr:=ic.cr,hk:=ic.hk}
def k1:Mk 33 m1:=K4 E6
def k2:Mk 50 m2:=K4 E6
def k5:Mk 48 m5:=K4 E6
def k6:Mk 34 m6:=K4 (EB (ES k2 Ht) (EB (ES k5 Ht) E6))
def k7:Mk 117 m7:=K4 E6
def k8:Mk 117 m8:=K4 E6
def k9:Mk 117 m9:=K4 E6
def lh:Mk 117 kY:=K4 E6
def wj:Mk 59 jv:=xP (a:=QJ Ax lI 1000000 200) (b:=[120]) (uL Fi (zf (QY (ES k7 (ES k8 (ES k9 (ES lh Ht)))))) _ _) kZ
def wh:Mk 6 wc:=K4 (EB (ES k1 Ht) (EB (ES k6 Ht) (EB (ES wj Ht) (EB (ES wi Ht) E6))))
def we:Mk 5 iC:=K4 (EB (ES wh Ht) (EB (ES wg (ES wf Ht)) E6))
section
variable{H:Type} {Cr:Ai×Aa->H} {W:AM} {sp:Nat->Bool} {Ei:Bool}
def c9:prog.cellsOf 9=1:=Kq
def c3:prog.cellsOf 3=1:=Kq
abbrev iM {H:Type} (Cr:Ai×Aa->H) (W:AM) (p:Nat->Bool) (e:Bool) (s t:Nat) (l:AH):=DataW.trod Cr prog W 0 p e s t l
def Pg {n i k t:Nat} {l:AH} {xs:List (JO H×List IY)} (h:iM Cr W sp Ei n t ((l.drop k).take (prog.cellsOf t))=xs[i]?) (e:t=9:=by rfl) (U:i<xs.length:=by omega):∃s,(l.drop k).take 1=[.string s]:=by
 subst e;rw[c9,Ab U] at h;let⟨s,e,_⟩:=DataW.trod_string underlying9 h;exact⟨s,e⟩
def Hx {n i k t:Nat} {l:AH} {xs:List (JO H×List IY)} (h:iM Cr W sp Ei n t ((l.drop k).take (prog.cellsOf t))=xs[i]?) (e:t=3:=by rfl) (U:i<xs.length:=by omega):∃z,(l.drop k).take 1=[.int .i64 z]:=by
 subst e;rw[c3,Ab U] at h;let⟨z,e,_⟩:=DataW.trod_int underlying3 h;exact⟨z,e⟩
def ABm:∀{l:AH},l.length=5->∃a b c d e,l=[a,b,c,d,e]|[a,b,c,d,e],_=>⟨_,_,_,_,_,B⟩
def tE:∀{l:AH},l.length=3->∃a b c,l=[a,b,c]|[a,b,c],_=>⟨_,_,_,B⟩
def vY:∀{l:AH},l.length=2->∃a b,l=[a,b]|[a,b],_=>⟨_,_,B⟩
def Aho {p:Nat} {cs:AH} {y:JO H×List IY} (h:iM Cr W sp Ei p 90 cs=I y):∃e:CI,cs=BV e:=by
 let⟨xs,n,_,_,g,i,f⟩:=DataW.trod_struct underlying90 h;obtain⟨a,b,c,d,e,rfl⟩:=ABm (g.trans Kq);have i:xs.length=5:=i;have j:=f 0 _ B;have k:=f 1 _ B;have l:=f 2 _ B;have m:=f 3 _ B;have o:=f 4 _ B;let⟨q,r⟩:=Pg j;let⟨s,t⟩:=Pg k;let⟨u,v⟩:=Hx l;let⟨w,x⟩:=Hx m;let⟨z,y⟩:=Hx o;cases r;cases t;cases v;cases x;cases y;exact⟨⟨q,s,u,w,z⟩,B⟩
def VT {t s:Nat} (u:t=58\/t=60) {cs:AH} {y:JO H×List IY} (h:iM Cr W sp Ei s t cs=I y):∃e:RT,cs=Qm e:=by
 rcases u with rfl|rfl
 all_goals
  first|obtain⟨xs,n,_,_,f,g,d⟩:=DataW.trod_struct underlying58 h|obtain⟨xs,n,_,_,f,g,d⟩:=DataW.trod_struct underlying60 h
  obtain⟨a,b,c,rfl⟩:=tE (f.trans Kq);have g:xs.length=3:=g;have i:=d 0 _ B;have j:=d 1 _ B;have k:=d 2 _ B;let⟨l,m⟩:=Pg i;let⟨o,p⟩:=Pg j;let⟨q,r⟩:=Hx k;cases m;cases p;cases r;exact⟨⟨l,o,q⟩,B⟩
def Ip {c:Type} {encA:c->AH} {st e k:Nat} (q:prog.underlying st=I (.slice e)) (hk:prog.cellsOf e=k) (he:∀{s:Nat} {cs:AH} {y:JO H×List IY},iM Cr W sp Ei s e cs=I y->∃a:c,cs=encA a)
 (M:∀a,(encA a).all aJ=Ag/\(encA a).length=k) (aa:0<k) {base:Nat} {v:Aa} (t:Cell.okWide prog W .any base st v) {s:Nat} {x:JO H×List IY} (ht:iM Cr W sp Ei s st [v]=I x) {w:List (Nat×CB)} (z:H9 prog W w):
 ∃l:List c,Rd (GB w W) v k l.length (l.flatMap encA)/\VR (Jr W.heap.size) v v/\l.length<=9223372036854775807:=by
 rcases DataW.trod_slice q ht with⟨A,_⟩|⟨a,len,cap,ah,rest,n,_,A,_,_,ab,hm,ai,hx,_⟩
 .cases A
  exact⟨[],⟨by simp,Z,0,B,Ae _,λ_=>B,λa h=>by cases h⟩,.az _ _,Al _⟩
 cases A;have C:Cell.ok prog W .any base st (.slice (I a) len cap):=by
  unfold Cell.okWide at t;rw[q] at t;exact t
 unfold Cell.ok at C;rw[q] at C;obtain⟨_,_,_,D,aj,ak,m,_⟩:=C;have hb:a.block<W.heap.size:=by
  unfold Jd at m;cases h:W.heap[a.block]? with
  |none=>rw[h] at m;cases m
  |some o=>exact(Array.getElem?_eq_some_iff.1 h).1
 have N:∀i,i<len->∃b:c,W.cells? 0 (a.add (i*k)) k=I (encA b):=λi U=>by
  have O:=hx i U;rw[Ab (by omega),hk] at O;obtain⟨cs,E,p⟩:=Option.bind_eq_some_iff.1 O;obtain⟨b,rfl⟩:=he p;exact⟨b,E⟩
 obtain⟨F,K,ad⟩:=a;have D:ad=none:=D;subst D;obtain⟨f,ae⟩:∃f:Fin len->c,∀i:Fin len,W.cells? 0 (Addr.add ⟨F,K,Z⟩ (i.1*k)) k=I (encA (f i)):=⟨λi=>iW (N i.1 i.2),λi=>il (N i.1 i.2)⟩;have af:∀i (U:i<len) r,r<k->W.cell? ⟨F,K+(i*k+r),Z⟩=(encA (f ⟨i,U⟩))[r]?:=λi U r hr=>by
  have h:=ae ⟨i,U⟩;unfold World.cells? at h;rw[Bi (Al _)] at h;have E:=mapM_some_get h r r (by simp[hr]);rw[←E,EL,EL,DD]
 obtain⟨l,P⟩:∃l:List c,l=List.ofFn f:=⟨_,B⟩;have L:l.length=len:=by rw[P,List.length_ofFn]
 have Q:l.flatMap encA=(l.map encA).flatten:=B;have S:∀g∈l.map encA,g.length=k:=λg z=>by
  obtain⟨b,_,rfl⟩:=List.mem_map.1 z;exact(M b).2
 have T:(l.flatMap encA).length=len*k:=by rw[Q,IU _ S,A4,L]
 have R:Rd (GB w W) (.slice (I ⟨F,K,Z⟩) len cap) k len (l.flatMap encA):=Aad z ⟨_,m⟩ T ab λj u d=>by
  have V:j<len*k:=by rw[←T];exact(List.getElem?_eq_some_iff.1 d).1
  have X:j/k<len:=Nat.div_lt_of_lt_mul (by rw[UI];exact V);rw[Q,IL _ S j (by rw[A4,L];exact V),AX,Ab (by omega)] at d;simp only[Ek,CC] at d;have ag:l[j/k]'(by omega)=f ⟨j/k,X⟩:=by simp only[P,List.getElem_ofFn]
  rw[ag] at d;have p:=af (j/k) X (j%k) (Je _ aa);rw[show j/k*k+j%k=j by rw[UI];exact Nat.div_add_mod j k,d] at p;exact⟨p,List.all_eq_true.1 (M _).1 u (AZ d)⟩
 exact⟨l,by rw[L];exact R,Abf B hb,by have:maxLen=9223372036854775807:=B;omega⟩
end
section
variable{H:Type} {Cr:Ai×Aa->H} {W:AM} {sp:Nat->Bool} {Ei:Bool}
def Aiv {j:Nat} {cs:AH} {y:JO H×List IY} (h:iM Cr W sp Ei j 88 cs=I y):∃e:JT,cs=Mm e:=by
 let⟨xs,n,_,_,c,d,f⟩:=DataW.trod_struct underlying88 h;obtain⟨a,b,rfl⟩:=vY (c.trans Kq);have d:xs.length=2:=d;have g:=f 0 _ B;have i:=f 1 _ B;let⟨k,l⟩:=Pg g;let⟨m,o⟩:=Hx i;cases l;cases o;exact⟨(k,m),B⟩
def Aat {l:Nat} {cs:AH} {y:JO H×List IY} (h:iM Cr W sp Ei l 189 cs=I y):∃e:Qz,cs=YD e:=by
 let⟨xs,n,_,_,f,g,d⟩:=DataW.trod_struct underlying189 h;obtain⟨a,b,c,rfl⟩:=tE (f.trans Kq);have g:xs.length=3:=g;have i:=d 0 _ B;have j:=d 1 _ B;have k:=d 2 _ B;let⟨m,o⟩:=Hx i;let⟨p,q⟩:=Hx j;let⟨r,s⟩:=Hx k;cases o;cases q;cases s;exact⟨(m,p,r),B⟩
def WWb {j:Nat} {cs:AH} {y:JO H×List IY} (h:iM Cr W sp Ei j 71 cs=I y):∃e:Nat×Int,cs=Zey e:=by
 let⟨xs,n,_,_,c,d,f⟩:=DataW.trod_struct underlying71 h;obtain⟨a,b,rfl⟩:=vY (c.trans Kq);have d:xs.length=2:=d;have g:=f 0 _ B;have i:=f 1 _ B;let⟨o,p⟩:=Hx i;cases p;rw[Ab (by omega)] at g;let⟨z,q,_,r⟩:=DataW.trod_int underlying5 g;cases q;have r:0<=z/\z<=255:=(Bool.and_eq_true_iff.1 r).imp of_decide_eq_true of_decide_eq_true;exact⟨(z.toNat,o),by show _=[AL .u8 ((z.toNat:Nat):Int),Vi o];rw[Int.toNat_of_nonneg r.1]⟩
def zK:∀{l:AH},l.length=7->∃a0 a1 a b c d e,l=[a0,a1,a,b,c,d,e]|[a,b,c,d,e,f,g],_=>⟨_,_,_,_,_,_,_,B⟩
def Alb:prog.cellTypes prog.depth 30=I [22,3,23,24,9,27,28]:=Kq
def IF {n i k t T K:Nat} {l:AH} {xs:List (JO H×List IY)} (h:iM Cr W sp Ei n t ((l.drop k).take (prog.cellsOf t))=xs[i]?) (c:prog.cellsOf T=K) (e:t=T:=by rfl) (U:i<xs.length:=by omega):∃y,iM Cr W sp Ei n T ((l.drop k).take K)=I y:=by subst e;rw[c,Ab U] at h;exact⟨_,h⟩
def Ahx {base:Nat} {v:Aa} (M:gR prog W .any base 30 v) {d:JO H} {ps:List IY} (r:DataW.Trod Cr prog W 0 sp Ei 30 v d ps) {R:List (Nat×CB)} (s:H9 prog W R):
 ∃x:Lf,v=.agg ⟨x.cells⟩/\LR (Jr W.heap.size) x.cells x.cells/\∃L,1125899906842624<=L/\Lt L (GB R W) x:=by
 unfold gR at M;rw[underlying30] at M;obtain⟨⟨cs⟩,rfl,N,ts,S,_,ae⟩:=M;rw[Alb] at S;cases S;have N:cs.length=7:=N.trans Kq;obtain⟨a0,a1,a,b,h,f,g,rfl⟩:=zK N;have w:∀(i:Nat) (v:Aa) (u:Ai),[a0,a1,a,b,h,f,g][i]?=I v->([22,3,23,24,9,27,28]:List Ai)[i%7]?=I u->Cell.okWide prog W .any base u v:=λi v u h1 h2=>by
  obtain⟨u',C,h4⟩:=ae i v (by simpa using h1);have C:([22,3,23,24,9,27,28]:List Ai)[i%7]?=I u':=C;rw[h2] at C;cases C;exact h4
 obtain⟨af,r⟩:=r
 have jE:prog.cellsOf 26=4:=Kq
 have y:∀t∈[22,23,24,27,28],prog.cellsOf t=1:=by
  intro t r;have k:([22,23,24,27,28]:Bo).all (λt=>Am (prog.cellsOf t) 1)=true:=Kq
  exact Af (List.all_eq_true.1 k t r)
 obtain⟨z,D,_,_,_,ab,E⟩:=DataW.trod_struct underlying30 (show iM Cr W sp Ei af 30 [a0,a1,a,b,h,f,g]=I (d,ps) from r);have ab:z.length=4:=ab;have t0:=E 0 _ B;have t1:=E 1 _ B;have t2:=E 2 _ B;have t3:=E 3 _ B;obtain⟨ah,e8⟩:=Pg t1;cases e8;obtain⟨y2,g2⟩:=IF t0 jE;obtain⟨A,F,_,_,_,ad,K⟩:=DataW.trod_struct underlying26 g2;have ad:A.length=4:=ad;have u0:=K 0 _ B;have u1:=K 1 _ B;have u2:=K 2 _ B;have u3:=K 3 _ B;obtain⟨df,e9⟩:=Hx u1;cases e9;obtain⟨_,q0⟩:=IF u0 (y 22 wl);obtain⟨_,q2⟩:=IF u2 (y 23 wl);obtain⟨_,q3⟩:=IF u3 (y 24 wl);obtain⟨_,q4⟩:=IF t2 (y 27 wl);obtain⟨_,q5⟩:=IF t3 (y 28 wl);obtain⟨p,r0,v0,l0⟩:=Ip (encA:=Mm) (k:=2) underlying22 Kq Aiv (λ_=>⟨B,B⟩) xc (w 0 _ _ B B) q0 s;obtain⟨c,r1,v1,l1⟩:=Ip (encA:=YD) (k:=3) underlying23 Kq Aat (λ_=>⟨B,B⟩) xc (w 2 _ _ B B) q2 s;obtain⟨e,r2,v2,l2⟩:=Ip (encA:=BV) (k:=5) underlying24 Kq Aho (λ_=>⟨B,B⟩) xc (w 3 _ _ B B) q3 s;obtain⟨P,r3,v3,l3⟩:=Ip (encA:=Qm) (k:=3) underlying27 Kq (VT (.inl B)) (λ_=>⟨B,B⟩) xc (w 5 _ _ B B) q4 s;obtain⟨Q,r4,v4,l4⟩:=Ip (encA:=Qm) (k:=3) underlying28 Kq (VT (.inr B)) (λ_=>⟨B,B⟩) xc (w 6 _ _ B B) q5 s;refine⟨⟨⟨a0,df,a,b,p,c,e⟩,ah,f,g,P,Q⟩,B,?_,1125899906842625+p.length+c.length+e.length+P.length+Q.length,by omega,?_⟩
 .exact .cons v0 (.cons (.int _ _) (.cons v1 (.cons v2 (.cons (.string _) (.cons v3 (.cons v4 .nil))))))
 .exact⟨⟨⟨r0,r1,r2⟩,⟨by show p.length<_;omega,l0⟩,⟨by show c.length<_;omega,l1⟩,⟨by show e.length<_;omega,l2⟩⟩,⟨r3,r4⟩,⟨by show P.length<_;omega,l3⟩,⟨by show Q.length<_;omega,l4⟩⟩
end
def Ii {W:AM} (a:H9 prog W W5) (d:Ax.a<=W.heap.size) {g:Nat} {b:CB} (c:(g,b)∈W5:=by unfold W5;simp):(GB W5 W).ad.t.get g=I b.oB:=Pn a c
def Abo {L:Nat} {a h:Y} (b:a.t.get 0=I Ft.oB) (c:a.t.get 1=I Fu.oB) (d:a.t.get 4=I Hu.oB) (e:10<=a.a) (x:AA a h):Bk (fW gW jG) L 1 5 [] h λv g=>AA h g/\v=.bool true:=
 Lm (g:=gW) B (λf=>by
  show(match QG Ax iC [] h with|some r=>I r|none=>Z)=I (.bool Ag,h)
  rw[Ya ((x.t 0 (by omega)).trans b) ((x.t 1 (by omega)).trans c) ((x.t 4 (by omega)).trans d)]) ⟨AA.refl h,B⟩
def Yn {W:AM} (f:H9 prog W W5) (d:Ax.a<=W.heap.size) {x:Lf} {L:Nat} (n:1125899906842624<=L) (a:Lt L (GB W5 W) x) (o:LR (Jr W.heap.size) x.cells x.cells) {y:Int} {u:Aa} {w:List (Nat×Int)} (A:Rd (GB W5 W) u 2 w.length (w.flatMap Zey)) (C:VR (Jr W.heap.size) u u):
 CallsIn Fence.wide 0 prog 3 ⟨[.agg ⟨x.cells⟩,Vi y,u]⟩ W λe w'=>e=.returned (.bool Ag)/\QR W w':=by
 have p:=Abp (τ:=Ax) f d;have j:C8 prog Ax (B8 Ax (fW gW jG) L 40):=JL Fi (vz (QY (ES we Ht)) yi qj) (Va Fi _) (λ_ j=>J6 Fi j) L 40;have i:10<=(GB W5 W).ad.a:=d;have k:=Ii f d (g:=0) (b:=Ft);have l:=Ii f d (g:=1) (b:=Fu);have q:=Ii f d (g:=2) (b:=oK);have r:=Ii f d (g:=3) (b:=ou);have s:=Ii f d (g:=5) (b:=ot);have m:=Ii f d (g:=4) (b:=Hu);have t:=Ii f d (g:=7) (b:=oI);have c:=ZfL (day:=y) (zx:={yj (g9:=gW) n with srt:=rfl}) ST (Y5 k l i) (Auh t i) (Auc q r s i) (Ahu m i) (λJ x=>Abo k l m i x) (a.C (AA.ad _)) (A.C (AA.ad _)) 40 (Ae _);exact Abx j (h:=GB W5 W) p (.cons (.agg o) (.cons (.int _ _) (.cons C .nil))) c func3 Kq (cd:=Fq f3) Kq
end
end Go.Ev
