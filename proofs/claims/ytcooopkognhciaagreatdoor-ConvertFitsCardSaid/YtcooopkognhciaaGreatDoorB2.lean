/-
  Part of the proof.
-/
import Derived.Test.YtcooopkognhciaaGreatDoorB1
import Derived.Shelf.Slices.In.SortNone
set_option maxRecDepth 100000
set_option maxHeartbeats 40000000
set_option linter.all false
open Bool renaming false->Ah,true->Ag
open Go renaming Code->DC,Func->BC,FuncId->Au,MapEntry->Ap,Operand->BU,TypeId->Ai,Value->Aa,Addr->BD
open Option renaming none->Z,some->I
open Array renaming toList->aI,ext'->Et
open Nat renaming beq->Am,ble->Ar,blt->AD,succ->A3
open List renaming range->BG,replicate->AE,cons->eV,length->LB,length->HD,perm_append_comm->ZC,length_filter_le->D7,mem_filter->Yqd,getElem_of_mem->N2,prefix_refl->Eb,getLastD_concat->vV,prefix_append->GS,ne_nil_of_mem->O7,length_filterMap_le->KH,filter_cons_of_pos->W8,filter_cons_of_neg->W9,filterMap_append->ZD,filterMap_cons_none->WZ,filterMap_cons_some->W2,pairwise_filterMap->qS,filter_cons->qR,take->iZ,mem_of_find?_eq_some->jT,pairwise_append->rA,find?_some->ms,range'->mh
open Int renaming ofNat->AQ,toNat->bH
open ByteArray renaming size->aL,size_append->KF,size->K2
open UInt8 renaming ofNat->dR,toNat->dE,toNat_ofNat'->rh
open Go.Value renaming slice->PA,int->AL,bool->CU,tuple->C4
open Classical renaming choose->iW
open Prod renaming fst->Eh,snd->fS,mk->eD
open Go.Utf8 renaming encode->Yqc
namespace Go.Ev
open Go Go.Proofs Tryz
noncomputable section
def B9:=@Int.eq_ofNat_of_zero_le
def O6:=@List.filter_append
def UM:=@List.flatMap_map
def K1:=@List.foldl_append
def gM:=@List.getElem?_append
def iq:=@List.mem_flatMap
def Gn:=@List.mem_map_of_mem
def jP:=@List.mem_of_mem_take
def qK:=@List.pairwise_map
def jR:=@UInt8.toNat_lt
open Go Go.Proofs Tryz
open Go Go.Proofs Tryz
section
variable{S:A9} {L:Nat} {a b n:BI} {N k r:Nat} {l l':List BI} {h:Y} [aF S L]
def wN [C:Sy S L] (af:Ce h) {b:Nat} {D:Dt} {s:Bd} {lv:Aa} {ls:List RT} (A:DT h b D) (f:D.fits) (hp:LB D.ps<=64) (hv:∀i:Nat,i<D.p5.n->(D.C (i:Int)).ok (LB D.ps)) (hs:aL s<=400)
 (p:Ls h lv ls) (b9:LB ls<=40) (ca:Oq ls):
 PE S L 30 59 [AG b 0,Sg s,lv] h λw J=>AA h J/\∃(o:Aa) (z:Int),w=.tuple #[o,Vi z]/\(z=0->∃l:List BI,Mq (El s).toNat (El s).toNat l/\(1<=El s/\El s<=64)/\LB l<=10000/\AS J h.a 109 7 o (LB l) (l.flatMap Bt)):=
 GU (fn:=f59) Kq B λd dv=>by
  have hL:=C.a;have az:∀{H:Y} (z:Int),z≠0->AA h H->AA h H/\∃(o:Aa) (z':Int),C4 #[sN,Vi z]=.tuple #[o,Vi z']/\(z'=0->∃l:List BI,Mq (El s).toNat (El s).toNat l/\(1<=El s/\El s<=64)/\LB l<=10000/\AS H h.a 109 7 o (LB l) (l.flatMap Bt)):=λz hz x=>⟨x,_,z,B,λh=>Cf h hz⟩;refine⟨Dc B,_,B,_,(ACa af G d G).any,?_⟩;rintro _ h1 ⟨x1,z,rfl,hz⟩;apply Ad<;>intro e1
  .exact az z Jq x1
  obtain⟨bc,cb⟩:=hz Jq;have bd:FH s=true:=by
   cases hb:FH s with
   |true=>rfl
   |false=>simp[El,hb] at bc
  refine⟨_,(ADp (af.C x1) G d G).any,?_⟩;rintro _ R ⟨x2,⟨be,_⟩|⟨rs,⟨_,cc⟩,rfl,o2,ai,bf,a0⟩⟩
  .rw[bd] at be;cases be
  have cd:El s=(LB rs:Int):=by rw[El,Bi bd,cc];rfl
  obtain⟨n,hn⟩:∃n,n=LB rs:=⟨_,B⟩;rw[←hn] at cd;rw[(G:(El s).toNat=n)] at az⊢;obtain⟨q,hq⟩:∃q,q=R.a-1:=⟨_,B⟩;rw[←hn,←hq];rw[←hq] at o2 ai;obtain⟨g1,y1,N,y2,s2⟩:=(aH.nil R).var (τ:=Ax) (t:=210) (z:=sN) Kq (v:=sL q n n) B B B;have c9:aC N R.a 0 (sL q n n):=s2.q 0 _ B B;have aj:=((aQ.bN o2 G (Al _)).rd:Rd R (sL q n n) 1 n rs).C s2.e;have X:=(x1.trans x2).trans s2.e;refine⟨_,_,y1 _,_,y2,_,(ACs (Rd.C p X) G (λx hx=>ca x hx) d G).any,?_⟩;rintro _ h3 ⟨x3,E,rfl,bg,ce⟩;have s3:=(aH.nil N).add (a:=PW E Jt CZ 40) x3 ⟨bg.1,bg.2.imp λ_ h=>h.imp λ_ h=>⟨h.1,Ao h.2 b9⟩⟩ (λi U=>by rw[show i=E from U];exact ce);refine⟨_,(ACg (A.C (X.trans x3)) G d G).any,?_⟩;rintro _ h4 ⟨x4,O,rfl,dw⟩;obtain⟨g4,y4,g5,y5,s5⟩:=(s3.C x4).var (τ:=Ax) (t:=3) (z:=Vi 0) Kq (v:=Vi O) B B B;have s6:=s5.add (a:=aN g5.a []) (AA.new g5 (.map [] 0)) ⟨by rw[Ck];omega,[],0,by rw[CK,Bi B],B,B⟩ (λi U=>A2 U.symm);obtain⟨g7,y7,g8,y8,s8⟩:=s6.var (τ:=Ax) (t:=216) (z:=.map Z) Kq (v:=.map (I g5.a)) B B B;refine⟨_,_,y4 _,_,y5,_,_,y7 _,_,y8,?_⟩;obtain⟨g9,y9,dx,a2,ag⟩:=s8.var (τ:=Ax) (t:=218) (z:=.nilFunc) Kq (v:=.func (.func 116) #[] #[AG (g5.new (.map [] 0)).a 0]) B B B;refine⟨_,_,y9 _,_,a2,?_⟩;generalize dy:(g5.new (.map [] 0)).a=g at ag y8 y9 a2 s8 y7;generalize dz:g8.a=F at ag y9 a2;generalize ea:h4.a=K at ag;generalize eb:g5.a=rF at ag;refine⟨_,ld B (c9.C ag.e),λμ Q aa hh=>∃(k:Nat) (l:List BI),Q=[(0,AG b 0),(9,AG R.a 0),(11,.map (I E)),(12,AG K 0),(13,AG g 0),(14,AG F 0),(44,Vi n),(45,Vi k)]/\aa=[]/\k<=n/\μ=n-k/\Mq n k l/\(1<=k->LB l<=10000)/\
   aH N hh [aO F 218 [.func (.func 116) #[] #[AG g 0]],aO g 216 [.map (I rF)],aN rF l,aO K 3 [Vi O],PW E Jt CZ 40],
   ⟨_,_,Sq,G,0,[],B,B,Al _,B,(⟨List.Pairwise.nil,(λm hm=>by cases hm),λi U=>Cf U (F5 _)⟩:Mq n 0 []),(λh=>Cf h G),ag⟩,?_⟩
  rintro μ Q aa hh ⟨k,l,rfl,rfl,hk,rfl,CV,cf,s⟩ ar;apply Bz<;>intro k1
  .have cg:k<n:=G
   obtain⟨ec,a3,a4,a5,ad⟩:=s.var (τ:=Ax) (t:=3) (z:=Vi 0) Kq (v:=Vi k) B B B;generalize ed:hh.a=M at ad a3 a5;obtain⟨v',l1,st,l2,l3⟩:=VW (aj.C ad.e) a0 (lo:=I (Vi k)) (U:=Z) (l:=k) (m:=n) B B G (Ae _);obtain⟨A1,n1,c1,rfl⟩:∃A1 n1 c1,v'=.slice A1 n1 c1:=by
    obtain⟨w,V,⟨_,A1,c1,e,_⟩,_⟩:=Rd.slice (τ:=Ax) (t:=210) (k:=1) Kq (aj.C ad.e) (lo:=I (Vi k)) (U:=Z) (l:=k) (m:=n) B B G (Ae _);rw[l1] at V;cases V;exact⟨A1,_,c1,e⟩
   refine⟨_,_,a3 _,_,a5,_,ld B (c9.C ad.e),_,ld B ((λs=>s.q 0 0 B B:∀{H l'},aH N H (aO M 3 [Vi k]::l')->aC H M 0 (Vi k)) ad),_,_,Cs (CN a4) l1,_,l2,_,(ADy (A.C (X.trans ad.e)) f G d G).any,?_⟩;rintro bh ch ⟨bi,es,au,ee,ci⟩;have bj:=ad.add (a:=aS a4.a 90 5 bh (LB es) (es.flatMap BV)) bi au au.ai;have bk:Rd ch bh 5 (LB es) (es.flatMap BV):=au.rd;have cj:=bk;obtain⟨_,A0,c0,rfl,cl,cm,hA⟩:=bk;refine⟨λμ Q aa J=>∃(j:Nat) (l:List BI),Q=[(0,AG b 0),(9,AG R.a 0),(11,.map (I E)),(12,AG K 0),(13,AG g 0),(14,AG F 0),(44,Vi n),(45,Vi k),(15,AG M 0),(16,Sg st),(54,.slice A0 (LB es) c0),(55,Vi (LB es)),(56,Vi j)]/\aa=[]/\j<=LB es/\μ=LB es-j/\Mq n k l/\
    aH N J [aS a4.a 90 5 (.slice A0 (LB es) c0) (LB es) (es.flatMap BV),aO M 3 [Vi k],aO F 218 [.func (.func 116) #[] #[AG g 0]],aO g 216 [.map (I rF)],aN rF l,aO K 3 [Vi O],PW E Jt CZ 40],
    ⟨_,_,Sq,?_,0,l,B,B,Al _,B,CV,bj⟩,?_⟩
   .omega
   rintro μ Q aa a6 ⟨j,l,rfl,rfl,hj,rfl,CV,s⟩ ar;apply Bz<;>intro j1
   .have bl:j<LB es:=G
    obtain⟨a1,w1,e9,_,V⟩:=(s.sl 0 B).rd.el bl;cases e9;rw[flatK (f:=BV) (λ_=>B) es (Ab bl)] at V;obtain⟨e,he⟩:∃e,e=es[j]:=⟨_,B⟩;rw[←he] at V;obtain⟨z1,z2,hc,cn,cp⟩:=zV hv (ci e (by rw[he];exact Bu _):D.has e);obtain⟨ef,bm,ae,bn,ak⟩:=s.va 90 [Sg ⟨#[]⟩,Sg ⟨#[]⟩,Vi 0,Vi 0,Vi 0] (BV e);generalize eg:a6.a=bo at ak bm bn;have Xc:∀{H l'},aH N H (aO bo 90 (BV e)::l')->∀i v,(BV e)[i]?=I v->aC H bo i v:=λs i v h=>s.q 0 _ B h;refine⟨G,_,EQ (k:=5) Kq (show BK a6 a1.block (a1.off+(j:Int).toNat*5) (BV e) from V) B,_,_,bm _,_,bn,[],Kq,_,ld B (ak.q 2 0 B B),_,ld B (Xc ak 0 _ B),_,gB (h:=ae.ad) (show Ce ae from af.C (X.trans ak.e)) G d G,?_⟩;rintro _ al ⟨bp,rfl⟩;have W:=ak.bz bp;have cq:=W.cz 7 B;obtain⟨x,u1,hx⟩:=Abq cq (a:=e.rd) (b:=e.b) G G;have c13:aC (ae.M al) g 0 (.map (I rF)):=W.q 4 0 B B;have mN:I4 (ae.M al) rF l:=(W.2.1 5 _ B).1;refine⟨bp.C,Pq,[.w 20],Kq,_,ld B (W.q 3 0 B B),_,ld B (W.q 2 0 B B),_,ld B (Xc W 1 _ B),_,ld B (Xc W 2 _ B),_,ld B (Xc W 3 _ B),_,ld B (Xc W 4 _ B),_,ld B (Xc W 0 _ B),_,ld B (Xc W 1 _ B),_,_,Cs (CN _) u1,Pq,_,nO (h:=(ae.M al).ad) (n:=⟨k,k+El e.rd,e.b,e.l,e.r,e.c-x,1⟩) (show aC (ae.M al) _ _ _ from c13) (show I4 (ae.M al) _ _ from mN) d G,?_⟩;rintro w eh ⟨l',a7,cr,bq⟩;refine⟨bq.ok (b0:=rF) (λi U=>U) ?_,?_⟩
    .obtain⟨_,es,ck,hm,_⟩:=mN
     exact⟨_,hm,B⟩
    have cs:=(W.aZ 5 (a':=aN rF l') B bq cr (λx hx=>.inl hx)).drop 1;exact⟨Pq,_,_,CG (l:=[(0,_),(9,_),(11,_),(12,_),(13,_),(14,_),(44,_),(45,_),(15,_),(16,_),(54,_),(55,_),(56,Vi ((j+1:Nat):Int))]) ⟨B,B,B,B,B,B,B,B,B,B,B,B,Cs (λz=>I (Vi z)) (G),trivial⟩,(show LB es-(j+1)<LB es-j by omega),j+1,l',B,B,G,B,CV.step a7 ⟨by show(0:Int)<=k;omega,by show(k:Int)<n;omega⟩ ⟨by show(k:Int)<k+El e.rd;omega,by show(k:Int)+El e.rd<=1000000;omega⟩ (by show e.c-x<=40000;omega) z2,cs⟩
   .clear ar j1 hj hA cl cm cj au bj ad a3 a5 bi
    have s:=s.drop 1;obtain⟨⟨_,P,ei,br,bs,ct⟩,ej,_,bt,a8⟩:=(s.2.1 5 _ B).1;have a8:LB P<=40:=by
     rw[br] at bt;cases bt;exact a8
    obtain⟨ek,cu,bu⟩:=s.cN (τ:=Ax) (t:=213) (kt:=221) (et:=3) Kq (i:=5) B (m:=E) (λx=>Iff.rfl) br ct;refine⟨_,_,cu,?_⟩;generalize a6.a=T at bu;refine⟨λμ Q aa J=>∃(u:List Ap) (l:List BI),Q=[(0,AG b 0),(9,AG R.a 0),(11,.map (I E)),(12,AG K 0),(13,AG g 0),(14,AG F 0),(44,Vi n),(45,Vi k),(15,AG M 0),(16,Sg st),(88,AG T 0)]/\aa=[]/\μ=LB P-LB u/\Mq n k l/\
     aH N J [aO M 3 [Vi k],aO F 218 [.func (.func 116) #[] #[AG g 0]],aO g 216 [.map (I rF)],aN rF l,aO K 3 [Vi O],Yu T E P u],
     ⟨_,_,Sq,?_,[],l,B,B,B,CV,bu⟩,?_⟩
    .show (LB P)-0<L;omega
    rintro μ Q aa bv ⟨u,l,rfl,rfl,rfl,CV,s⟩ ar;refine s.cO (i:=5) B (λbw=>?_) (λe he cv bx s=>?_)
    .have s:aH N bv [aO M 3 [Vi k],aO F 218 [.func (.func 116) #[] #[AG g 0]],aO g 216 [.map (I rF)],aN rF l,aO K 3 [Vi O],Yu T E P u]:=s
     have s:=s.ah 5 (a':=PW E Jt CZ 40) B ((AA.refl bv).O _) (by
      obtain⟨q0,ck,_,V,q2,_⟩:=(s.it 5 B).m;exact⟨⟨q0,P,ck,V,bs,q2⟩,P,ck,V,a8⟩) (λx hx=>.inl (.inr hx))
     let ah:Nat->Y->Prop:=λk' H=>∃l',Mq n k' l'/\aH N H [aO M 3 [Vi k],aO F 218 [.func (.func 116) #[] #[AG g 0]],aO g 216 [.map (I rF)],aN rF l',aO K 3 [Vi O],PW E Jt CZ 40]
     have step:∀{k':Nat} {H:Y} (z c:Int),ah k' H->(k:Int)<z/\z<=n->c<=10000->Bk S L 2 125 [Vi z,Vi c,AG F 0,AG M 0,AG R.a 0,AG K 0] H λ_ J=>ah k' J/\(k'=k->z=k+1->ah (k+1) J):=by
      rintro k' H z c ⟨l',i,s⟩ hz hc;refine(AGq (h:=H) (r:=rF) (n:=n) (v:=sL q n n) (xs:=rs) (l:=l') (f:=k) (o:=O) (bM:=g) (s.q 1 0 B B) (s.q 2 0 B B) (s.2.1 3 _ B).1 (s.q 0 0 B B) (c9.C s.e) (s.q 4 0 B B) (aj.C s.e) a0 G).mono ?_;rintro _ J ⟨sz,l2,en,st2,m2,cw⟩;have s2:=s.ah 3 (a':=aN rF l2) B cw m2 (λx hx=>.inl hx);have p1:0<=(k:Int)/\(k:Int)<n:=G;refine⟨⟨l2,i.step st2 p1 ⟨hz.1,by show z<=1000000;omega⟩ (by show c<=40000;omega) (by show aL sz<=256;omega),s2⟩,λhk cx=>?_⟩;subst hk;exact⟨l2,i.next st2 p1 ⟨hz.1,by show z<=1000000;omega⟩ (by show c<=40000;omega) (by show aL sz<=256;omega) B cx,s2⟩
     refine⟨_,ld B (c9.C s.e),_,ld B (s.q 0 0 B B),_,(AAu (n:=n) (i:=k) (e:=2) (xs:=rs) G a0 cg (ah k) (ah (k+1)) (λ_ j=>(λ⟨_,_,s⟩=>aj.C s.e:∀{k':Nat} {H:Y},ah k' H->Rd H (sL q n n) 1 n rs) j) ⟨l,CV,s⟩ (aj.C s.e) ⟨125,#[],#[AG F 0,AG M 0,AG R.a 0,AG K 0],B,
      λH j=>(step ((k+1:Nat):Int) 10000 j G G).mono λ_ J hh=>hh.2 B G,λz c H j h1 R h3=>(step (z:Int) (c:Int) j G G).mono λ_ J hh=>hh.1⟩ d G).any,?_⟩
     rintro w eo ⟨l',cy,av⟩;refine⟨_,ld B (av.q 2 0 B B),_,_,AEk (av.2.1 3 _ B).1,Bz (λu1=>?_) (λu1=>?_)⟩
     .exact az 7 xc (X.trans av.e)
     exact⟨Pq,_,_,CG (l:=[(0,_),(9,_),(11,_),(12,_),(13,_),(14,_),(44,_),(45,Vi ((k+1:Nat):Int))]) ⟨B,B,B,B,B,B,B,Cs (λz=>I (Vi z)) (G),trivial⟩,(show n-(k+1)<n-k by omega),k+1,l',B,B,G,B,cy,(λ_=>G),av.drop 1⟩
    .obtain⟨⟨ka,kb,bz,ep,er⟩,x,am,ev,ew⟩:=bs e he
     have bf:LB u<LB P:=by
      have:=(s.it 5 B).len;rw[Aj,Br] at this;omega
     have s:aH N bx [aO M 3 [Vi k],aO F 218 [.func (.func 116) #[] #[AG g 0]],aO g 216 [.map (I rF)],aN rF l,aO K 3 [Vi O],Yu T E P (u++[e])]:=s;have an:=QO (s.it 5 B);rw[bz,am] at an;obtain⟨ex,b1,cz,b2,ab⟩:=s.va 221 [Sg ⟨#[]⟩,Sg ⟨#[]⟩] [Sg ka,Sg kb];generalize bx.a=ao at ab b1 b2;have ab:aH N cz (aO ao 221 [Sg ka,Sg kb]::[aO M 3 [Vi k],aO F 218 [.func (.func 116) #[] #[AG g 0]],aO g 216 [.map (I rF)],aN rF l,aO K 3 [Vi O],Yu T E P (u++[e])]):=ab;have go:∀{H:Y} (l':List BI) (pc:Ct),Mq n k l'->aH N H (pc::[aO M 3 [Vi k],aO F 218 [.func (.func 116) #[] #[AG g 0]],aO g 216 [.map (I rF)],aN rF l',aO K 3 [Vi O],Yu T E P (u++[e])])->∀(Q:As),Sub [(0,AG b 0),(9,AG R.a 0),(11,.map (I E)),(12,AG K 0),(13,AG g 0),(14,AG F 0),(44,Vi n),(45,Vi k),(15,AG M 0),(16,Sg st),(88,AG T 0)] Q->
      ∃m' A0,Sub A0 Q/\m'<LB P-LB u/\∃(u:List Ap) (l:List BI),A0=[(0,AG b 0),(9,AG R.a 0),(11,.map (I E)),(12,AG K 0),(13,AG g 0),(14,AG F 0),(44,Vi n),(45,Vi k),(15,AG M 0),(16,Sg st),(88,AG T 0)]/\([]:Bo)=[]/\m'=LB P-LB u/\Mq n k l/\
       aH N H [aO M 3 [Vi k],aO F 218 [.func (.func 116) #[] #[AG g 0]],aO g 216 [.map (I rF)],aN rF l,aO K 3 [Vi O],Yu T E P u]:=λl' pc i s Q c2=>
      ⟨_,_,c2,(by rw[Aj,Br];omega:P.length-(u++[e]).length<_),u++[e],l',B,B,B,i,s.drop 1⟩
     have Sn:∀{H l'},aH N H (aO ao 221 [Sg ka,Sg kb]::l')->∀i v,[Sg ka,Sg kb][i]?=I v->aC H ao i v:=λs i v h=>s.q 0 _ B h;rw[bz,am];refine⟨_,_,Cs (CN _) an,_,_,b1 _,_,b2,_,ld B (Sn ab 0 _ B),_,B,Ad (λt1=>?_) (λt1=>?_)⟩
     .exact go l _ CV ab _ (Sq)
     refine⟨_,ld B (Sn ab 0 _ B),_,(AGo d G).any,?_⟩;rintro _ _ ⟨rfl,pre,rfl,ey⟩;refine⟨_,_,B,Ad (λt2=>?_) (λt2=>?_)⟩
     .exact go l _ CV ab _ (Sq)
     refine⟨_,ld B (Sn ab 0 _ B),_,(jA (af.C (X.trans ab.e)) G d G).any,?_⟩;rintro _ ez ⟨c3,rfl⟩;have aw:=ab.C c3;refine⟨_,_,B,Ad (λt3=>?_) (λt3=>?_)⟩
     .exact go l _ CV aw _ (Sq)
     refine⟨_,ld B (Sn aw 1 _ B),_,(AEv (af.C (X.trans aw.e)) G d G).any,?_⟩;rintro _ e0 ⟨c4,e2,rfl,c5⟩;have ax:=aw.C c4;refine⟨_,_,B,Ad (λt4=>?_) (λt4=>?_)⟩
     .exact go l _ CV ax _ (Sq)
     refine⟨_,ld B (Sn ax 0 _ B),_,(AAp (A.C (X.trans ax.e)) f G d G).any,?_⟩;rintro e3 e4 ⟨c6,es2,c7,e5,e6⟩;have b3:=ax.C c6;refine⟨_,(AEc (e:=1) c7 G ⟨123,#[],#[AG ao 0],B,λe _ J x'=>ABd ((Sn b3 1 _ B).C x')⟩ d G).any,?_⟩;rintro _ ap ⟨c8,e7,rfl⟩;have aq:=b3.C c8;refine⟨_,_,B,Ad (λt5=>?_) (λt5=>?_)⟩;rotate_left
     .exact go l _ CV aq _ (Sq)
     have cp:=YZ ka;have cn:1<=El ka:=Aid (by simpa using t3) (by simpa using t1);have c13:∀{H:Y} {l':List BI},aH N H (aO ao 221 [Sg ka,Sg kb]::[aO M 3 [Vi k],aO F 218 [.func (.func 116) #[] #[AG g 0]],aO g 216 [.map (I rF)],aN rF l',aO K 3 [Vi O],Yu T E P (u++[e])])->aC H g 0 (.map (I rF))/\I4 H rF l'/\aC H F 0 (.func (.func 116) #[] #[AG g 0])/\aC H M 0 (Vi k)/\aC H K 0 (Vi O):=
      λs=>⟨s.q 3 0 B B,(s.2.1 4 _ B).1,s.q 2 0 B B,s.q 1 0 B B,s.q 5 0 B B⟩
     obtain⟨_,_,da,k15,_⟩:=c13 aq;refine⟨[.w 14],Kq,_,ld B da,_,ld B k15,_,ld B k15,_,ld B (Sn aq 0 _ B),_,gB (h:=ap.ad) (show Ce ap from af.C (X.trans aq.e)) G d G,?_⟩;rintro _ a9 ⟨b4,rfl⟩;have ba:=aq.bz b4;obtain⟨db,mN,_,_,k12⟩:=c13 ba;refine⟨b4.C,Pq,_,ld B (Sn ba 1 _ B),_,ld B k12,_,ld B k12,Pq,_,nO (h:=(ap.M a9).ad) (n:=⟨k,k+El ka,kb,O,O,8000-x,2⟩) (show aC (ap.M a9) _ _ _ from db) (show I4 (ap.M a9) _ _ from mN) d G,?_⟩;rintro w e8 ⟨l',a7,m29,b5⟩;refine⟨b5.ok (b0:=rF) (λi U=>U) ?_,?_⟩
     .obtain⟨_,es,ck,hm,_⟩:=mN
      exact⟨_,hm,B⟩
     have dc:=ba.aZ 4 (a':=aN rF l') B b5 m29 (λx hx=>.inl hx);exact go l' _ (CV.step a7 ⟨by show(0:Int)<=k;omega,by show(k:Int)<n;omega⟩ ⟨by show(k:Int)<k+El ka;omega,by show(k:Int)+El ka<=1000000;omega⟩ (by show 8000-x<=40000;omega) (c5 (by simpa using t4))) dc _ (Sq)
  .obtain rfl:k=n:=G
   have hl:=cf G;have mN:I4 hh rF l:=(s.2.1 2 _ B).1;obtain⟨_,eN,fa,dd,de,ai⟩:=mN;have fb:LB eN=LB l:=by have:=Cs HD ai;simpa using this
   obtain⟨fc,b6,b7⟩:=s.cN (τ:=Ax) (t:=216) (kt:=109) (et:=109) Kq (i:=2) B (m:=rF) (λx=>Iff.rfl) dd de;generalize fd:hh.a=T at b7 b6;have df:=b7.nl h.a 109 7;refine⟨_,ld B (s.q 1 0 B B),_,_,b6,λμ Q aa J=>∃(u:List Ap) (ov:Aa),Q=[(22,ov),(147,AG T 0)]/\aa=[]/\μ=LB eN-LB u/\
    aH N J [aS h.a 109 7 ov (LB u) (u.flatMap λe=>AJ e.val),aO F 218 [.func (.func 116) #[] #[AG g 0]],aO g 216 [.map (I rF)],Yu T rF eN u,aO K 3 [Vi O],PW E Jt CZ 40],
    ⟨_,_,Sq,?_,[],_,B,B,B,df⟩,?_⟩
   .show (LB eN)-0<L;omega
   rintro μ Q aa fe ⟨u,ov,rfl,rfl,rfl,s⟩ ar;refine s.cO (i:=3) B (λbw=>?_) (λe he cv dg s=>?_)
   .have hp:=(s.it 3 B).all bw
    have o:=s.sl 0 B;obtain⟨ml,V,q2⟩:=HH (λn=>(Gb n,(.agg ⟨Bt n⟩:Aa))) (l:=u.map λe:Ap=>(e.key,e.val)) (m:=l) (by rw[←ai];exact hp.map _);have dh:LB ml=LB u:=by have:=Cs HD V;simpa using this.symm
    have di:u.flatMap (λe=>AJ e.val)=ml.flatMap Bt:=by
     have e1:u.flatMap (λe=>AJ e.val)=(u.map λe:Ap=>(e.key,e.val)).flatMap λp=>AJ p.2:=by rw[UM]
     rw[e1,V,UM];rfl
    rw[di,←dh] at o;have dj:ml.Pairwise λa b=>Ty a b≠0:=((q2.pairwise_iff (λh e=>h e.symm)).2 CV.b).imp λh e=>h (zM e);have ff:LB ml=LB l:=q2.length_eq;refine⟨_,(QS lm (Cr:=Bt) (k:=7) (d:=3) C.cB Kq Kq (λ_=>⟨B,B⟩) o B G dj (λx _ y _=>sk) d G).any,?_⟩;rintro _ dk ⟨rfl,dl,dm⟩;have ay:=DO (c:=Ty) ml;have dn:AA h dk:=(X.trans s.e).then dm λi U=>o.ai i U
    refine⟨dn,ov,0,B,λ_=>⟨H0 Ty ml,?_,⟨bc,cb⟩,by rw[ay.length_eq];omega,by rw[ay.length_eq];exact dl⟩⟩;have b8:∀m,m∈H0 Ty ml↔m∈l:=λm=>(ay.mem_iff).trans q2.mem_iff;exact⟨((ay.trans q2).pairwise_iff (λh e=>h e.symm)).2 CV.b,λm hm=>CV.ok m ((b8 m).1 hm),λi U=>by
     obtain⟨m,h1,R⟩:=CV.a i U;exact⟨m,(b8 m).2 h1,R⟩⟩
   .obtain⟨m,hm,dp⟩:=dP.1 (show(e.key,e.val)∈l.map _ from ai▸Gn he)
    have am:e.val=.agg ⟨Bt m⟩:=(Cs fS dp).symm;have bf:LB u<LB eN:=by
     have:=(s.it 3 B).len;rw[Aj,Br] at this;omega
    have an:=QO (s.it 3 B);rw[am] at an;obtain⟨fg,dq,dr,ds,bb⟩:=s.va 109 (Bt DS) (Bt m);obtain⟨dt,fh,t37,du⟩:=bb.bA 72 109 7 1 (Bt m) ((u++[e]).length) ((u++[e]).flatMap λe=>AJ e.val) B (Ao (X.trans bb.e).a (Ae _)) G wl (by rw[E0,List.flatMap_singleton,am];rfl);refine⟨_,_,Cs (CN _) an,_,_,dq _,_,ds,_,EQ (k:=7) Kq (show BK dr dg.a 0 (Bt m) from(bb.dD 0 B).cells) B,_,_,i3 72 109 7 (.agg ⟨Bt m⟩) _,_,_,t37,?_⟩;exact⟨_,_,Sq,(by rw[Aj,Br];omega:eN.length-(u++[e]).length<_),u++[e],dt,B,B,B,du.drop 1⟩
end
section
variable {h J h0 h1 H:Y} {v fv nv pv cv ev lv u v':Aa} {xs args vs ys:AH} {n b N i k e r j x m c q d a p t2 st sb mo ck lp rm b0 sz off:Nat} {t:Ai} {f:Au} {fn:BC} {s:Bd} {bs:Bl} {ws:Bo} {W:Nat->Prop} {Q:Aa->Y->Prop} {A:Option BD} {z df day:Int} {ss:BZ} {τ:Bb}
variable{S:A9} {L:Nat} [aF S L]
def Od (v:Aa):Prop:=∃a b:Bd,v=.agg #[.string a,.string b]
def zl (a b c d:Bd):IZ Ax Op.maxDepth 151 (.agg #[Sg a,Sg b]) (.agg #[Sg c,Sg d])=I (Gp (aI a.data) (aI c.data)&&(Gp (aI b.data) (aI d.data)&&Ag)):=by
 have e:IZ Ax Op.maxDepth 151 (.agg #[Sg a,Sg b]) (.agg #[Sg c,Sg d])=bm (Gp (aI a.data) (aI c.data)) (bm (Gp (aI b.data) (aI d.data)) (I Ag)):=B;rw[e,L1,L1]
def oM:K8 Ax 151 Od:=by
 rintro _ ⟨a,b,rfl⟩;refine⟨B,?_⟩;rintro _ ⟨c,d,rfl⟩;refine⟨_,zl a b c d,λh=>?_⟩;rw[An,Mh] at h;obtain rfl:=CJ.1 h.1;obtain rfl:=CJ.1 h.2;show((Cy (Sg a) (Sg a))&&((Cy (Sg b) (Sg b))&&Ag))=Ag;have e:Cy (Sg a) (Sg a)=true:=h.1;have f:Cy (Sg b) (Sg b)=true:=h.2;rw[e,f];rfl
structure Cb where
 a:Nat
 D:Dt
 b:Bd
 c:Aa
 ns:List BI
 g:Aa
 vs:AH
 fs:List Bo
 e:Nat
 d:List Ap
variable{V:Cb}
def Cb.cells (V:Cb):AH:=[AG V.a 0,.string V.b,V.c,V.g,.map (I V.e)]
structure EI (h:Y) (p:Nat) (V:Cb):Prop where
 c:∀(i:Nat) v,V.cells[i]?=I v->aC h p i v
 D:DT h V.a V.D
 ns:Rd h V.c 7 (LB V.ns) (V.ns.flatMap Bt)
 fs:Rd h V.g 1 (LB V.fs) V.vs
 fi:∀(i:Nat) v l,V.vs[i]?=I v->V.fs[i]?=I l->Rd h v 1 (LB l) (Bn l)
 e:V.e<h.a/\∃ck,h.t.get V.e=I (.map V.d ck)
def EI.C (A:EI h p V) (x:AA h J):EI J p V:=
 ⟨λi v e=>(A.c i v e).C x,A.D.C x,A.ns.C x,A.fs.C x,λi v l a b=>(A.fi i v l a b).C x,⟨AC A.e.1 x.a,x.t _ A.e.1▸A.e.2⟩⟩
structure Cb.O (V:Cb):Prop where
 N:1<=LB V.fs/\LB V.fs<=64
 cL:El V.b=LB V.fs
 inv:Mq (LB V.fs) (LB V.fs) V.ns
 len:LB V.ns<=10000
 at_:∀(i:Nat) l,V.fs[i]?=I l->l=(BG (LB V.ns)).filter λj=>decide ((V.ns.getD j DS).f=(i:Int))
 vl:LB V.vs=LB V.fs
 d:∀e∈V.d,Od e.key/\CZ e.val
 a:0<=V.D.a/\V.D.a<=30000
 b:EJ (LB V.D.ps) V.D.b
def Yv (N:Nat) (vs:AH) (a:List Bo):List Ct:=List.zipWith (λv f=>aS N 3 1 v (LB f) (Bn f)) vs a
def Uh:∀{vs:AH} {a:List Bo} {i:Nat} {v:Aa} {f:Bo},vs[i]?=I v->a[i]?=I f->(Yv N vs a)[i]?=I (aS N 3 1 v (LB f) (Bn f)):=λ{vs a i v f} c b=>by
 unfold Yv;rw[List.getElem?_zipWith,c,b]
def Zs:∀{vs:AH} {c:List Bo} (i:Nat) (v:Aa) (f:Bo),(Yv N vs c).set i (aS N 3 1 v (LB f) (Bn f))=Yv N (vs.set i v) (c.set i f)
 |[],c,i,v,f=>Jq
 |_::_,[],i,v,f=>by simp[Yv]
 |a::vs,b::c,0,v,f=>rfl
 |a::vs,b::c,i+1,v,f=>by
  show _::(Yv N vs c).set i _=_::Yv N (vs.set i v) (c.set i f);rw[Zs]
def Zf {l:List Ct} (s:aH h0 h l) (N:Nat):∀n,aH h0 h (Yv N (AE n (sN)) (AE n [])++l)
 |0=>s
 |n+1=>(Zf s N n).add (AA.refl h) (AS.nil _ _ _ _) λi U=>U.elim
def WB (a:List BI) (i k:Nat):(BG (k+1)).filter (λj=>decide ((a.getD j DS).f=(i:Int)))=(BG k).filter (λj=>decide ((a.getD j DS).f=(i:Int)))++(if(a.getD k DS).f=(i:Int) then[k] else[]):=by
 rw[fU,O6];congr 1;by_cases h:(a.getD k DS).f=i
 .rw[Bi h];simp only[qR,decide_eq_true h];rfl
 .rw[Bm h];simp only[qR,decide_eq_false h];rfl
def Sn [ag:Sy S L] (ak:Ce h) {D:Dt} {M:Bd} {ls C:List RT} (A:DT h b D) (f:D.fits) (hp:LB D.ps<=64) (hv:∀i:Nat,i<D.p5.n->(D.C (i:Int)).ok (LB D.ps)) (hs:aL M<=400)
 (av:0<=D.a/\D.a<=30000) (aw:EJ (LB D.ps) D.b) (p:Ls h lv ls) (ax:LB ls<=40) (ay:Oq ls) (pp:Ls h pv C) (bf:LB C<=40):
 PE S L 31 35 [AG b 0,Sg M,lv,pv] h λw J=>AA h J/\∃(o:Aa) (z:Int),w=.tuple #[o,Vi z]/\(z=0->∃(p:Nat) (V:Cb),o=AG p 0/\EI J p V/\V.O/\V.a=b/\V.b=M):=
 GU (fn:=f35) Kq B λd bg=>by
  have hL:=ag.a;have az:∀{H:Y} (z:Int),z≠0->AA h H->AA h H/\∃(o:Aa) (z':Int),C4 #[.pointer Z,Vi z]=.tuple #[o,Vi z']/\(z'=0->∃(p:Nat) (V:Cb),o=AG p 0/\EI H p V/\V.O/\V.a=b/\V.b=M):=λz hz x=>⟨x,_,z,B,λh=>Cf h hz⟩;have a0:=pp;obtain⟨_,al,pc,rfl,_⟩:=pp;refine⟨Dc B,_,B,_,wN ak A f hp hv hs p ax ay d G,?_⟩;rintro _ h1 ⟨x1,o,z,rfl,hz⟩;apply Ad<;>intro e1
  .exact az z (by simpa using e1) x1
  obtain⟨g,CV,⟨bh,bi⟩,hl,on⟩:=hz (by simpa using e1);obtain⟨N,hN⟩:∃N:Nat,El M=N:=⟨(El M).toNat,G⟩;rw[hN,show((N:Int)).toNat=N from B] at CV;have a2:0<LB g:=by
   obtain⟨m,hm,_⟩:=CV.a 0 G;exact List.length_pos_of_mem hm
  obtain⟨Q,T,rfl⟩:=on.lit a2;refine⟨_,(gB (ak.C x1) G d G).any,?_⟩;rintro _ R ⟨x2,rfl⟩;have nr:=on.rd.C x2;have am:=x1.trans x2;obtain⟨h3,y3,x3,o3,_⟩:=YH (τ:=Ax) (t:=111) (e:=50) (k:=1) (z:=sN) Kq Kq N N (Ae _) G .i64 .i64 R;rw[show AJ (sN)=[sN] from B,QV] at o3;have s3:=(aH.nil R).add (a:=aO R.a 50 (AE N (sN))) x3 o3 (λi U=>A2 U.symm);have s4:=s3.mk Od CZ;refine⟨_,_,by rw[hN];exact y3,?_⟩;obtain⟨g5,y5,s5⟩:=s4.box Ax 114 (.agg #[AG b 0,Sg M,sL Q (LB g) T,sL R.a N N,.map (I h3.a)]);refine⟨_,_,y5,?_⟩;generalize bj:(h3.new (.map [] 0)).a=F at s5 y5;generalize bk:h3.a=r at s5;generalize bl:R.a=c at s5;have s5:aH R g5 [aO F 114 [AG b 0,Sg M,sL Q (LB g) T,sL c N N,.map (I r)],aM r Od CZ,aO c 50 (AE N (sN))]:=s5;have s6:=(Zf s5 c N).perm ZC;refine⟨λμ A' ae O=>∃(k:Nat) (vs:AH) (K:List Bo),A'=[(3,.slice al (LB C) pc),(12,AG F 0),(41,sL Q (LB g) T),(42,Vi (LB g)),(43,Vi k)]/\ae=[]/\k<=LB g/\μ=LB g-k/\LB vs=N/\LB K=N/\
   (∀(i:Nat) l,K[i]?=I l->l=(BG k).filter λj=>decide ((g.getD j DS).f=(i:Int)))/\aH R O ([aO F 114 [AG b 0,Sg M,sL Q (LB g) T,sL c N N,.map (I r)],aM r Od CZ,aO c 50 vs]++Yv c vs K),
   ⟨_,_,Sq,G,0,_,_,B,B,Al _,B,by simp,by simp,(λi l U=>(CH (AZ U)).trans wl),s6⟩,?_⟩
  rintro μ A' ae O ⟨k,vs,K,rfl,rfl,hk,rfl,an,aa,ah,s⟩ a3;apply Bz<;>intro k1
  .have ab:k<LB g:=G
   obtain⟨a1,w1,e9,_,q1⟩:=(nr.C s.e).el ab;cases e9;rw[flatK (f:=Bt) (λ_=>B) g (Ab ab)] at q1;obtain⟨n,hn⟩:∃n,n=g[k]:=⟨_,B⟩;have a4:=CV.ok n (by rw[hn];exact Bu _);rw[←hn] at q1;obtain⟨⟨f0,f1⟩,_⟩:=a4;obtain⟨i,U⟩:∃i:Nat,n.f=i:=⟨bH n.f,G⟩;have bm:i<N:=G;have a5:g.getD k DS=n:=by rw[Ak,Ab ab,hn];rfl
   obtain⟨g7,y7,E,y8,u⟩:=s.va 109 (Bt DS) (Bt n);generalize bn:O.a=ad at u y7 y8;have u:aH R E (aO ad 109 (Bt n)::aO F 114 [AG b 0,Sg M,sL Q (LB g) T,sL c N N,.map (I r)]::aM r Od CZ::aO c 50 vs::Yv c vs K):=u;obtain⟨v,ao⟩:∃v,vs[i]?=I v:=⟨vs[i],Ab G⟩;obtain⟨l,ai⟩:∃l,K[i]?=I l:=⟨K[i],Ab G⟩;have aj:(aO ad 109 (Bt n)::aO F 114 [AG b 0,Sg M,sL Q (LB g) T,sL c N N,.map (I r)]::aM r Od CZ::aO c 50 vs::Yv c vs K)[i+4]?=I (aS c 3 1 v (LB l) (Bn l)):=Uh ao ai;have ap:aC E ad 0 (Vi i):=by have:=u.q 0 0 B (v:=Vi n.f) B;rwa [U] at this
   have aq:aC E F 3 (sL c N N):=u.q 1 3 B B;have cv:aC E c i v:=u.q 3 _ B ao;have bo:LB l<=k:=by rw[ah i l ai];exact Ao (D7 _ _) wl
   obtain⟨gx,e9,v5,h5,t5,s9,hB⟩:=u.bO 50 3 1 (i+4) [Vi k] ((l++[k]).length) (Bn (l++[k])) aj (by have:=u.e.a;omega) G wl (by simp[Bn]);subst e9;have s9:aH R ((E.M (BN E.ad 3 [Vi k])).M h5) (aO ad 109 (Bt n)::aO F 114 [AG b 0,Sg M,sL Q (LB g) T,sL c N N,.map (I r)]::aM r Od CZ::aO c 50 vs::Yv c (vs.set i v5) (K.set i (l++[k]))):=by
    rw[←Zs];exact s9
   obtain⟨h6,t6,W⟩:=s9.stM (τ:=Ax) (t:=50) B (i:=3) B (j:=i) (v:=v5) G (D5 (s9.sl (i+4) (Uh (O4 G) (O4 G))));have ei:0+((i:Int)).toNat*t50.size=i:=by show 0+i*1=i;omega
   have l5:Bw Ax 50 E.ad c (0+((i:Int)).toNat*t50.size)=I v:=by rw[ei];exact ld B cv
   have a6:BA Ax 50 ((E.M (BN E.ad 3 [Vi k])).M h5).ad c (0+((i:Int)).toNat*t50.size) v5=I h6:=by rw[ei];exact t6
   refine⟨G,_,EQ (k:=7) Kq (show BK O Q (0+(k:Int).toNat*7) (Bt n) from q1) B,_,_,y7 _,_,y8,?_⟩;refine⟨[.x 16 3,.x 16 5],Kq,_,ld B aq,_,ld B ap,_,ld B aq,_,ld B ap,G,_,l5,_,_,i3 50 3 1 (Vi k) _,_,_,t5,?_⟩;refine⟨hB ad (u.dD 0 B).1 (u.2.2 0 (i+4) _ _ G B aj ad B),hB F (u.dD 1 B).1 (u.2.2 1 (i+4) _ _ G B aj F B),G,_,a6,?_⟩;refine⟨Pq,_,_,CG (l:=[(3,_),(12,_),(41,_),(42,_),(43,Vi ((k+1:Nat):Int))]) ⟨B,B,B,B,Cs (λz=>I (Vi z)) (G),trivial⟩,(show LB g-(k+1)<LB g-k by omega),k+1,vs.set i v5,K.set i (l++[k]),B,B,G,B,by simp[an],by simp[aa],λi' l' af=>?_,W.drop 1⟩;rw[WB,a5,U];rw[Iu] at af;split at af
   .rename_i e
    subst e;rw[Bi G] at af;cases af;rw[Bi B,←ah i l ai]
   .rename_i e
    rw[Bm G,Fb];exact ah i' l' af
  .obtain rfl:k=LB g:=G
   refine⟨λμ A' ae O=>∃(k:Nat),A'=[(12,AG F 0),(67,.slice al (LB C) pc),(68,Vi (LB C)),(69,Vi k)]/\ae=[]/\k<=LB C/\μ=LB C-k/\
    aH R O ([aO F 114 [AG b 0,Sg M,sL Q (LB g) T,sL c N N,.map (I r)],aM r Od CZ,aO c 50 vs]++Yv c vs K),
    ⟨_,_,Sq,G,0,B,B,Al _,B,s⟩,?_⟩
   rintro μ A' ae O ⟨k,rfl,rfl,hk,rfl,s⟩ a3;apply Bz<;>intro k1
   .have ab:k<LB C:=G
    obtain⟨a1,w1,e9,_,q1⟩:=(Rd.C a0 (am.trans s.e)).el ab;cases e9;rw[flatK (f:=Qm) (λ_=>B) C (Ab ab)] at q1;obtain⟨⟨x,y,z⟩,hq⟩:∃q,q=C[k]:=⟨_,B⟩;rw[←hq] at q1;obtain⟨g7,y7,E,y8,u⟩:=s.va 60 [Sg ⟨#[]⟩,Sg ⟨#[]⟩,Vi 0] (Qm ⟨x,y,z⟩);have o8:aQ E O.a 60 [Sg x,Sg y,Vi z]:=u.dD 0 B;obtain⟨g9,y9,P,a7,W⟩:=u.va 151 [Sg ⟨#[]⟩,Sg ⟨#[]⟩] [Sg x,Sg y];have a8:aQ P E.a 151 [Sg x,Sg y]:=W.dD 0 B;have a9:aQ P O.a 60 [Sg x,Sg y,Vi z]:=W.dD 1 B;have ar:aC P F 4 (.map (I r)):=W.q 2 4 B B;have mw:=W.mw 3 B;obtain⟨lv,bp,l1,_,_⟩:=QH (h:=P.ad) (τ:=Ax) (t:=112) (kt:=151) (et:=3) Kq oM (z:=Vi 0) Kq (show Gy P r Od CZ from mw) (k:=.agg #[Sg x,Sg y]) ⟨x,y,B⟩ Ag;have au:Bw Ax 151 P.ad E.a 0=I (.agg #[Sg x,Sg y]):=EQ (k:=2) Kq (show BK P E.a 0 [Sg x,Sg y] from a8.cells) B;refine⟨G,_,EQ (k:=3) Kq (show BK O a1.block (a1.off+(k:Int).toNat*3) (Qm ⟨x,y,z⟩) from q1) B,_,_,y7 _,_,y8,_,ld B (o8.cell (i:=0) B),_,ld B (o8.cell (i:=1) B),_,_,y9 _,_,a7,?_⟩;refine⟨[],Kq,_,ld B ar,_,au,_,_,Cs (CN P.ad) l1,_,_,B,?_⟩;apply Ad<;>intro u1
    .refine⟨[],Kq,_,ld B ar,_,au,_,ld B (a9.cell (i:=2) B),?_⟩
     intro z1 bq z2 br;obtain⟨ba,bb,jv,bc⟩:=nW (h:=P.ad) (τ:=Ax) (t:=112) (kt:=151) (et:=3) Kq oM (show Gy P r Od CZ from mw) (k:=.agg #[Sg x,Sg y]) (v:=Vi z2) ⟨x,y,B⟩ ⟨z2,B,G,G⟩;have bd:Nb (BH Ax 112 (.map (I r)) (.agg #[Sg x,Sg y]) (Vi z2) P.ad)=I (.tuple #[],ba):=by rw[bb];rfl
     have be:=(W.aZ 3 (a':=aM r Od CZ) B bc.O jv (λx hx=>.inl hx)).drop 2;exact⟨_,_,bd,Pq,_,_,CG (l:=[(12,_),(67,_),(68,_),(69,Vi ((k+1:Nat):Int))]) ⟨B,B,B,Cs (λz=>I (Vi z)) (G),trivial⟩,(show LB C-(k+1)<LB C-k by omega),k+1,B,B,G,B,be⟩
    .exact⟨Pq,_,_,CG (l:=[(12,_),(67,_),(68,_),(69,Vi ((k+1:Nat):Int))]) ⟨B,B,B,Cs (λz=>I (Vi z)) (G),trivial⟩,(show LB C-(k+1)<LB C-k by omega),k+1,B,B,G,B,W.drop 2⟩
   .obtain⟨m1,es,ck,m2,m3,_⟩:=s.mw 1 B
    have X:=am.trans s.e;refine⟨X,_,0,B,λ_=>⟨F,⟨b,D,M,sL Q (LB g) T,g,sL c N N,vs,K,r,es⟩,B,⟨λi v e=>s.q 0 _ B e,A.C X,nr.C s.e,?_,λi v l hv hl=>(s.sl (i+3) (Uh hv hl)).rd,m1,ck,m2⟩,⟨by rw[aa];omega,by rw[aa];exact hN,by rw[aa];exact CV,hl,λi l U=>ah i l U,by rw[an,aa],m3,av,aw⟩,B,B⟩⟩;show Rd O (sL c N N) 1 (LB K) vs;rw[aa];exact(aQ.bN (N:=0) (n:=N) (k:=1) (s.dD 2 B) G (Al _)).rd
def gh (A:EI h p V):Bk S L 1 40 [AG p 0] h λw J=>J=h/\w=Vi (LB V.fs):=
 Cn f40 λd b _=>by
  have a:=A.c 3 _ B;let⟨_,f,g,e,_⟩:=A.fs;rw[e] at a;exact⟨_,B,_,ld B a,B,B⟩
def PT (A:EI h p V):Bk S L 1 25 [AG p 0] h λw J=>J=h/\w=.string V.b:=
 Cn f25 λd b _=>⟨_,B,_,ld B (A.c 1 _ B),B,B⟩
def Tl (f:G1 Ax st st e k=Ag) {a:BD} (r:Rd h (.slice (I a) n c) k n xs) (m:xs.all one=Ag) (j:n<=100000000):
 ∃l J,Bx Ax .append [st,st] [sL h.a 0 0,.slice (I a) n c] (BN h e [])=I (l,J)/\AA h J/\AS J h.a e k l n xs:=by
 have b:=AA.row h e [];have d:=r.C b;have o:AS (BN h e []) h.a e k (sL h.a 0 0) 0 []:=⟨Jq,.inr ⟨h.a,0,[],B,Ae _,Ae _,Jq,aQ.row h e []⟩⟩;have g:=b.a;let⟨l,J,t1,t2,t3,t4⟩:=UN f o d.bu d.src r.1 m g G;rw[IW,Ba] at t2;exact⟨l,J,t1,b.then t3 (λi U=>by have:i=h.a:=U;omega),t2⟩
def Abr (l:Bo):(Bn l).all one=true:=Jf.2 λv a=>by obtain⟨b,_,rfl⟩:=dP.1 a;rfl
def Aam (l:List BI):(l.flatMap Bt).all one=true:=Jf.2 λv a=>by
 let⟨n,_,a⟩:=iq.1 a;have:(Bt n).all one=true:=B;exact Jf.1 this v a
def hV {l:Bo} (r:Rd h v 1 (LB l) (Bn l)) (f:LB l<=100000000):iB S L 1 27 [v] h λw J=>AS J h.a 3 1 w (LB l) (Bn l):=
 Cn f27 λd i _=>by
  obtain⟨n,A,c,rfl,j,g,m⟩:=id r;cases A with
  |none=>
   have h0:=BO Jq;subst h0;exact⟨_,B,AA.refl _,AS.nil _ _ _ _⟩
  |some a=>
   obtain⟨e,J,b,x,o⟩:=Tl (k:=1) Kq r (Abr l) f;exact⟨_,B,_,_,B,_,_,b,x,o⟩
def wH {l:List BI} (r:Rd h v 7 (LB l) (l.flatMap Bt)) (f:LB l<=100000000):iB S L 1 60 [v] h λw J=>AS J h.a 109 7 w (LB l) (l.flatMap Bt):=
 Cn f60 λd i _=>by
  obtain⟨n,A,c,rfl,j,g,m⟩:=id r;cases A with
  |none=>
   have h0:=BO Jq;subst h0;exact⟨_,B,AA.refl _,AS.nil _ _ _ _⟩
  |some a=>
   obtain⟨e,J,b,x,o⟩:=Tl (k:=7) Kq r (Aam l) f;exact⟨_,B,_,_,B,_,_,b,x,o⟩
def iF (A:EI h p V) (b:V.O):iB S L 2 37 [AG p 0] h λw J=>AS J h.a 109 7 w (LB V.ns) (V.ns.flatMap Bt):=
 Cn f37 λd f _=>by
  refine⟨_,B,_,ld B (A.c 2 _ B),_,wH A.ns (by have:=b.len;omega) d G,λw g ⟨e,o⟩=>⟨e,o⟩⟩
def Cb.from_ (V:Cb) (i:Int):Bo:=if 0<=i then V.fs.getD i.toNat [] else[]
def Cb.aY (a:V.O) (i:Int):(V.from_ i).length<=LB V.ns:=by
 unfold Cb.from_;split
 .rw[Ak]
  cases h:V.fs[bH i]? with
  |none=>exact Al _
  |some l=>rw[EN,a.at_ _ l h];exact Ao (D7 _ _) Jq
 .exact Al _
def jB (A:EI h p V) (f:V.O) {i:Int}:iB S L 2 213 [AG p 0,Vi i] h λw J=>AS J h.a 3 1 w (V.from_ i).length (Bn (V.from_ i)):=
 Cn f213 λd x _=>by
  have g:V.from_ i=[]->AA h h/\AS h h.a 3 1 (sN) (V.from_ i).length (Bn (V.from_ i)):=λe=>e▸⟨AA.refl h,AS.nil _ _ _ _⟩
  apply Ad<;>intro e
  .exact g (by rw[Cb.from_,Bm (by have:=Fp e;omega)])
  have e:=KK e;refine cl (gh A) ?_;rintro _ _ ⟨rfl,rfl⟩;obtain⟨k,rfl⟩:∃k:Nat,i=k:=⟨bH i,G⟩;apply Bz<;>intro y
  .exact g (by rw[Cb.from_,Bi G,Ak,CD (by show LB V.fs<=k;omega)];rfl)
  have n:k<LB V.fs:=G;have z:=f.vl;obtain⟨v,j⟩:∃v,V.vs[k]?=I v:=⟨V.vs[k],Ab G⟩;obtain⟨l,m⟩:∃l,V.fs[k]?=I l:=⟨V.fs[k],Ab n⟩;have r:V.from_ k=l:=by rw[Cb.from_,Bi G,Ak,show((k:Int)).toNat=k from B,m];rfl
  have s:=Cb.aY f k;rw[r] at s⊢;have b:=A.c 3 _ B;let⟨a,c,t,_,q⟩:=A.fs.at_ G;rw[t] at b;refine⟨_,ld B b,G,_,Dz (ld B (q k v j)) xU,_,hV (A.fi k v l j m) (by have:=f.len;omega) d G,λw C ⟨u,o⟩=>⟨u,o⟩⟩
def Cb.M (V:Cb) (i:Int):Option BI:=if 0<=i then V.ns[bH i]? else Z
def iE (A:EI h p V) {i:Int}:iB S L 1 218 [AG p 0,Vi i] h λw J=>w=.tuple #[.agg ⟨Bt ((V.M i).getD DS)⟩,.bool (V.M i).isSome]:=
 Cn f218 λd D _=>by
  obtain⟨b,y,a⟩:=(aH.nil h).O (τ:=Ax) (t:=109) (z:=.agg ⟨Bt DS⟩) Kq;have a:aH h b [aO h.a 109 (Bt DS)]:=a;have j:=(A.C a.e).c 2 _ B;obtain⟨_,E,F,q,_⟩:=(A.C a.e).ns;rw[q] at j;have r:V.M i=Z->∃J,BA Ax 109 b h.a 0 (.agg ⟨Bt DS⟩)=I J/\∃v,Bw Ax 109 J h.a 0=I v/\AA h J/\C4 #[v,.bool Ah]=.tuple #[.agg ⟨Bt ((V.M i).getD DS)⟩,.bool (V.M i).isSome]:=λC=>by
   obtain⟨J,l,m,n⟩:=aQ.bD (h:=b) (τ:=Ax) (t:=109) (k:=7) Kq (a.dD 0 B) (i:=0) (vs:=Bt DS) B (by show 0+7<=7;decide) B;exact⟨J,l,_,EQ (k:=7) Kq (show BK J h.a 0 (Bt DS) from aQ.cells m) B,a.e.ah n (Ae _),by rw[C];rfl⟩
  refine⟨_,_,y _,_,B,Ad (λe=>?_) (λe=>?_)⟩
  .exact r (by rw[Cb.M,Bm (by have:=Fp e;omega)])
  have e:=KK e;obtain⟨k,rfl⟩:∃k:Nat,i=k:=⟨bH i,G⟩;refine⟨_,ld B j,Ad (λg=>?_) (λg=>?_)⟩
  .exact r (by rw[Cb.M,Bi G,CD (by have:=Fp g;show LB V.ns<=k;omega)])
  have g:=KK g;have o:k<LB V.ns:=G;obtain⟨a1,H,s,_,u⟩:=(A.C a.e).ns.el o;rw[q] at s;cases s;rw[flatK (f:=Bt) (λ_=>B) V.ns (Ab o)] at u;obtain⟨J,l,m,n⟩:=aQ.bD (h:=b) (τ:=Ax) (t:=109) (k:=7) Kq (a.dD 0 B) (i:=0) (vs:=Bt V.ns[k]) B (by show 0+7<=7;decide) B;refine⟨_,ld B j,G,_,EQ (k:=7) Kq (show BK b a1.block (a1.off+(k:Int).toNat*7) (Bt V.ns[k]) from u) B,J,l,_,EQ (k:=7) Kq (show BK J h.a 0 (Bt V.ns[k]) from aQ.cells m) B,a.e.ah n (Ae _),?_⟩;rw[Cb.M,Bi G,show((k:Int)).toNat=k from B,Ab o];rfl
def jg (es:List Ap) (a b:Bd):Int:=match CE Ax 151 (.agg #[.string a,.string b]) es 0 with
 |I (I (_,e))=>(match e.val with|.int _ z=>z|_=>0)
 |_=>0
def vA {es:List Ap} (d:h.t.get r=I (.map es ck)) (f:∀e∈es,Od e.key/\CZ e.val) (a b:Bd):
 BW Ax 112 (.map (I r)) (.agg #[.string a,.string b]) Ah h=I (Vi (jg es a b))/\0<=jg es a b/\jg es a b<=30000:=by
 have g:Ax.ds.get 112=I (.map 151 3):=B
 have i:Do Ax 5 151 (.agg #[.string a,.string b])=Ag:=B
 unfold BW jg;rcases Yx oM ⟨a,b,B⟩ es 0 f with c|⟨j,e,c,k,_⟩
 .simp only[g,i,D1,d,c,Jq]
  exact⟨B,Jq,Jq⟩
 .let⟨x,l,h0,h1⟩:=(f e (AZ k)).2
  simp only[g,i,D1,d,c,l];exact⟨B,h0,h1⟩
def SA:∀{l:GX} {a b c:Int},Np l a b=I c->∃p∈l,p.2=c
 |[],_,_,_,h=>Jq
 |p::l,a,b,c,h=>by
  rw[Np] at h;split at h
  .cases h;exact⟨p,Av,B⟩
  .let⟨q,h1,d⟩:=SA h
   exact⟨q,Az _ h1,d⟩
def IR {l:GX} (d:0<=df/\df<=30000) (e:EJ m l) (a b:Int):0<=Mz n df l a b/\Mz n df l a b<=30000:=by
 unfold Mz;split
 .cases f:Np l a b with
  |none=>exact d
  |some c=>
   let⟨p,h1,g⟩:=SA f;have:=e p h1;show 0<=c/\c<=30000;omega
 .omega
def Cb.cost (V:Cb) (a b:Int):Int:=Mz V.D.c V.D.a V.D.b a b
def Cb.aW (V:Cb) (i j:Int):Int:=match V.M i,V.M j with
 |I a,I b=>V.cost a.r b.l-jg V.d a.s b.s
 |_,_=>0
def Cb.aR (c:V.O) (A:EI h p V) (i j:Int):-30000<=V.aW i j/\V.aW i j<=30000:=by
 unfold Cb.aW;split
 .rename_i a b _ _
  obtain⟨_,g,d⟩:=A.e;have f:=(vA d c.d a.s b.s).2;have e:=IR (n:=V.D.c) c.a c.b a.r b.l;unfold Cb.cost;omega
 .omega
def jD (A:EI h p V) (m:V.O) {i j:Int}:iB S L 5 146 [AG p 0,Vi i,Vi j] h λw J=>w=Vi (V.aW i j):=
 Cn f146 λd R _=>by
  refine⟨_,iE A d G,?_⟩;rintro _ g ⟨q,rfl⟩;obtain⟨T,H,W,K,u⟩:=(aH.nil g).va 109 (Bt DS) (Bt ((V.M i).getD DS));refine⟨_,_,H _,_,K,_,iE (A.C (q.trans u.e)) d G,?_⟩;rintro _ M ⟨N,rfl⟩;obtain⟨X,O,x,P,f⟩:=(u.C N).va 109 (Bt DS) (Bt ((V.M j).getD DS));have k:=q.trans f.e;refine⟨_,_,O _,_,P,_,_,B,?_⟩;cases U:V.M i with
  |none=>exact⟨k,by rw[Cb.aW,U];rfl⟩
  |
   some a=>
   rw[U] at f;refine⟨_,_,B,?_⟩;cases o:V.M j with
   |none=>exact⟨k,by rw[Cb.aW,U,o];rfl⟩
   |
    some b=>
    rw[o] at f;have f:aH g x [aO M.a 109 (Bt b),aO g.a 109 (Bt a)]:=f;have y:=A.C k;have C:=AT k;have E:=A.C C;have F:=f.C (AT (AA.refl x));obtain⟨_,z,v⟩:=E.e;have Q:=vA Jq m.d a.s b.s;have t:=IR (n:=V.D.c) m.a m.b a.r b.l;refine⟨[],Kq,_,ld B (y.c 0 _ B),_,ld B (f.q 1 _ B B),_,ld B (f.q 0 _ B B),_,lz y.D.ad d G,?_⟩;rintro _ _ ⟨rfl,rfl⟩;refine⟨B,_,ld B (E.c 4 _ B),_,ld B (F.q 1 _ B B),_,ld B (F.q 0 _ B B),_,_,Cs (CN _) Q.1,Pq,C,?_⟩;rw[Cb.aW,U,o];rfl
def Cb.enter (V:Cb) (r:Int) (j:Int):Int:=match V.M j with|I n=>V.cost r n.l|Z=>0
def Cb.leave (V:Cb) (i:Int) (l:Int):Int:=match V.M i with|I n=>V.cost n.r l|Z=>0
def Cb.bm (a:V.O) (r j:Int):0<=V.enter r j/\V.enter r j<=30000:=by
 unfold Cb.enter;split
 .exact IR a.a a.b _ _
 .omega
def Cb.bV (a:V.O) (r j:Int):0<=V.leave r j/\V.leave r j<=30000:=by
 unfold Cb.leave;split
 .exact IR a.a a.b _ _
 .omega
def hU (A:EI h p V) {r j:Int}:iB S L 5 132 [AG p 0,Vi r,Vi j] h λw J=>w=Vi (V.enter r j):=
 Cn f132 λd s _=>by
  refine⟨_,iE A d G,?_⟩;rintro _ a ⟨m,rfl⟩;obtain⟨u,n,o,q,f⟩:=(aH.nil a).va 109 (Bt DS) (Bt ((V.M j).getD DS));have g:=m.trans f.e;refine⟨_,_,n _,_,q,?_⟩;cases k:V.M j with
  |none=>exact⟨g,by rw[Cb.enter,k];rfl⟩
  |some b=>
   rw[k] at f;have l:=A.C g;refine⟨[],Kq,_,ld B (l.c 0 _ B),_,ld B ((f.dD 0 B).cell B),_,lz l.D.ad d G,?_⟩;rintro _ _ ⟨rfl,rfl⟩;exact⟨B,AT g,by rw[Cb.enter,k];rfl⟩
def lA (A:EI h p V) {i l:Int}:iB S L 5 215 [AG p 0,Vi i,Vi l] h λw J=>w=Vi (V.leave i l):=
 Cn f215 λd r _=>by
  refine⟨_,iE A d G,?_⟩;rintro _ a ⟨m,rfl⟩;obtain⟨s,n,o,q,f⟩:=(aH.nil a).va 109 (Bt DS) (Bt ((V.M i).getD DS));have g:=m.trans f.e;refine⟨_,_,n _,_,q,?_⟩;cases j:V.M i with
  |none=>exact⟨g,by rw[Cb.leave,j];rfl⟩
  |some b=>
   rw[j] at f;have k:=A.C g;refine⟨[],Kq,_,ld B (k.c 0 _ B),_,ld B ((f.dD 0 B).cell B),_,lz k.D.ad d G,?_⟩;rintro _ _ ⟨rfl,rfl⟩;exact⟨B,AT g,by rw[Cb.leave,j];rfl⟩
section
variable{α:Type} {le:α->α->Prop}
def eB (l:List α) (i j:Nat) (x y:α):List α:=(l.set i y).set j x
def dH {l:List α} {x y:α} (U:l[i]?=I x) (c:l[j]?=I y) (k:Nat):(eB l i j x y)[k]?=if k=j then I x else if k=i then I y else l[k]?:=by
 have e:=(cG.1 U).1;have d:=(cG.1 c).1;unfold eB;rw[Iu,B4,Iu];by_cases a:k=j
 .subst a;simp[d]
 .rw[Bm Jq,Bm a]
  by_cases b:k=i
  .subst b;simp[e]
  .rw[Bm Jq,Bm b]
def Y4 (l:List α) (i j:Nat) (x y:α):(eB l i j x y).length=LB l:=by simp[eB]
def NM {l:List α} {x y:α} (U:l[i]?=I x) (a:l[j]?=I y):(eB l i j x y).Perm l:=by
 let⟨h1,b⟩:=cG.1 U;let⟨c,d⟩:=cG.1 a;have:=Array.swap_perm h1 c;rw[Array.perm_iff_toList_perm,Array.swap_def] at this;simpa[eB,b,d] using this
def Em (le:α->α->Prop) (m:Nat) (l:List α):Prop:=∀(k:Nat) x p,0<k->k<m->l[k]?=I x->l[(k-1)/2]?=I p->le p x
def eW (le:α->α->Prop) (l:List α) (j:Nat):Prop:=(∀(k:Nat) x p,0<k->k≠j->l[k]?=I x->l[(k-1)/2]?=I p->le p x)/\
 ∀(k:Nat) x p,0<j->0<k->(k-1)/2=j->l[k]?=I x->l[(j-1)/2]?=I p->le p x
def eW.start {l:List α} (h:Em le (LB l) l) (x:α):eW le (l++[x]) (LB l):=by
 refine⟨λk y p h0 c d a=>?_,λk y p h0 d c a=>?_⟩
 .have b:=(cG.1 d).1
  rw[Aj,Br] at b;rw[AB G] at d a;exact h k y p h0 G d a
 .have b:=(cG.1 a).1
  rw[Aj,Br] at b;omega
def eW.stop {l:List α} (h:eW le l j) (b:∀x p,0<j->l[j]?=I x->l[(j-1)/2]?=I p->le p x):Em le (LB l) l:=λk x p h0 _ c a=>by
 by_cases e:k=j
 .subst e;exact b x p h0 c a
 .exact h.1 k x p h0 e c a
def eW.step (g:∀{a b c},le a b->le b c->le a c) {l:List α} (h:eW le l j) {x y:α} (h0:0<j) (U:l[(j-1)/2]?=I x) (i:l[j]?=I y) (m:le y x):eW le (eB l ((j-1)/2) j x y) ((j-1)/2):=by
 refine⟨λk u p e f q d=>?_,λk u p o e f q d=>?_⟩
 .rw[dH U i] at q d
  by_cases a:k=j
  .subst a
   rw[Bi B] at q;rw[Bm G,Bi B] at d;cases q;cases d;exact m
  .rw[Bm a,Bm f] at q
   by_cases b:(k-1)/2=j
   .rw[Bi b] at d;cases d
    exact h.2 k u x h0 e b q U
   .rw[Bm b] at d
    by_cases c:(k-1)/2=(j-1)/2
    .rw[Bi c] at d;cases d
     exact g m (h.1 k u x e a q Jq)
    .rw[Bm c] at d
     exact h.1 k u p e a q d
 .rw[dH U i] at q d
  rw[Bm G,Bm G] at d;have n:=h.1 ((j-1)/2) x p o G U d;by_cases a:k=j
  .subst a
   rw[Bi B] at q;cases q;exact n
  .rw[Bm a,Bm G] at q
   exact g n (h.1 k u x e a q Jq)
def KL (le:α->α->Prop) (m:Nat) (l:List α) (i:Nat):Prop:=(∀(k:Nat) x p,0<k->k<m->(k-1)/2≠i->l[k]?=I x->l[(k-1)/2]?=I p->le p x)/\
 ∀(k:Nat) x p,0<i->0<k->k<m->(k-1)/2=i->l[k]?=I x->l[(i-1)/2]?=I p->le p x
def KL.start {l:List α} (h:Em le (n+1) l) {x y:α} (U:l[0]?=I x) (b:l[n]?=I y):KL le n (eB l 0 n x y) 0:=by
 refine⟨λk u p c d e g a=>?_,λk u p f=>G⟩;rw[dH U b,Bm G,Bm G] at g a;exact h k u p c G g a
def KL.stop {l:List α} (h:KL le m l i) (c:∀(k:Nat) x p,0<k->k<m->(k-1)/2=i->l[k]?=I x->l[i]?=I p->le p x):Em le m l:=λk x p a b f d=>by
 by_cases e:(k-1)/2=i
 .exact c k x p a b e f Jq
 .exact h.1 k x p a b e f d
def KL.step (v:∀{a b c},le a b->le b c->le a c) {l:List α} (h:KL le m l i) {x y:α} (q:0<j) (r:j<m) (g:(j-1)/2=i) (U:l[i]?=I x) (n:l[j]?=I y) (s:le y x)
 (t:∀(k:Nat) u,0<k->k<m->(k-1)/2=i->l[k]?=I u->le y u):KL le m (eB l i j x y) j:=by
 refine⟨λk u p e f o z d=>?_,λk u p w e f o z d=>?_⟩
 .rw[dH U n] at z d
  rw[Bm o] at d;by_cases a:k=j
  .subst a
   rw[Bi B] at z;rw[Bi g] at d;cases z;cases d;exact s
  .rw[Bm a] at z
   by_cases b:(k-1)/2=i
   .rw[Bi b] at d;cases d
    rw[Bm G] at z;exact t k u e f b z
   .rw[Bm b] at d
    by_cases c:k=i
    .subst c
     rw[Bi B] at z;cases z;exact h.2 j y p e q r g n d
    .rw[Bm c] at z
     exact h.1 k u p e f b z d
 .rw[dH U n] at z d
  rw[Bm G,Bi g] at d;rw[Bm G,Bm G] at z;cases d;exact h.1 k u y e f G z Jq
def Em.root (g:∀a,le a a) (i:∀{a b c},le a b->le b c->le a c) {l:List α} (h:Em le m l) {r:α} (j:l[0]?=I r):∀(k:Nat) x,k<m->l[k]?=I x->le r x:=λk=>by
 induction k using Nat.strongRecOn with
 |ind k n=>
  intro x o d;by_cases e:k=0
  .subst e;rw[j] at d;cases d;exact g _
  .have p:=(cG.1 d).1
   have f:l[(k-1)/2]?=I l[(k-1)/2]:=Ab G;exact i (n ((k-1)/2) G _ G f) (h k x _ G o d f)
end
structure Ed where
 ns:Bo
 c:Int
 a:Int
 b:Bd
 d:Bool
variable{y:Ed}
def FE:Bo->Bo->Int
 |[],[]=>0
 |[],_::_=>-1
 |_::_,[]=>1
 |a::l,b::r=>if Dx a b=0 then FE l r else Dx a b
def HC (x y:Ed):Bool:=if x.a=y.a then(if FE x.ns y.ns=0 then !x.d&&y.d else decide (FE x.ns y.ns<0)) else decide (x.a<y.a)
def Tu (x y:Ed):Prop:=HC y x=Ah
def Ahb (a b:Int):Dx a b=-Dx b a:=by unfold Dx;split<;>split<;>(try split)<;>omega
def QW:∀a b,FE a b=-FE b a
 |[],[]=>rfl
 |[],_::_=>rfl
 |_::_,[]=>rfl
 |a::l,b::r=>by
  rw[FE,FE,QW l r];have:=Ahb a b;split<;>split<;>omega
def OO:∀a,FE a a=0
 |[]=>rfl
 |a::l=>by rw[FE,Bi (by unfold Dx;split<;>omega),OO l]
def Uf:∀{a b},FE a b=0->a=b
 |[],[],_=>rfl
 |[],_::_,h=>Jq
 |_::_,[],h=>by cases h
 |
  a::l,b::r,h=>by
  rw[FE] at h;split at h
  .rename_i c
   have c:=Mu c;rw[Uf h,show a=b by omega]
  .omega
def YS:∀{a b c},FE a b<0->FE b c<0->FE a c<0
 |[],_,[],h1,d=>by rename_i b;cases b<;>simp[FE] at h1 d
 |[],_,_::_,_,_=>by simp[FE]
 |_::_,[],_,h1,_=>by simp[FE] at h1
 |_::_,_::_,[],_,d=>by simp[FE] at d
 |
  a::l,b::r,c::t,h1,d=>by
  rw[FE] at h1 d⊢;have f:∀x y:Int,Dx x y<0↔x<y:=λx y=>by unfold Dx;split<;>(try split)<;>omega
  simp[(λx y=>by unfold Dx;split<;>(try split)<;>omega:∀x y:Int,Dx x y=0↔x=y)] at h1 d⊢
  split at h1<;>split at d
  .rw[Bi G];exact YS h1 d
  .rw[f] at d;rw[Bm G,f];omega
  .rw[f] at h1;rw[Bm G,f];omega
  .rw[f] at h1 d;rw[Bm G,f];omega
def VQ:∀{p y:Bo} (z:Bo),¬p<+:y->FE (p++z) y=FE p y
 |[],_,_,h=>Cf Jq h
 |_::_,[],_,_=>rfl
 |a::p,b::y,z,h=>by
  rw[KB,FE,FE];split
  .rename_i d
   have d:=Mu d;refine VQ z λc=>h ?_;rw[List.cons_prefix_cons];exact⟨G,c⟩
  .rfl
def Ka {x:Ed}:Tu x y↔x.a<y.a\/x.a=y.a/\(FE x.ns y.ns<0\/x.ns=y.ns/\(x.d=Ag->y.d=Ag)):=by
 unfold Tu HC;have d:=QW x.ns y.ns;split
 .rename_i f
  split
  .rename_i b
   have c:=Uf b;rw[←c,OO];simp[f];cases x.d<;>cases y.d<;>simp
  .rename_i b
   have c:¬x.ns=y.ns:=λe=>b (by rw[e];exact OO _);simp[f,c,false_and,or_false,true_and,decide_eq_false_iff_not];omega
 .rename_i f
  simp[decide_eq_false_iff_not];omega
def Ij (x:Ed):Tu x x:=Ka.2 Jq
def uX {x z:Ed} (f:Tu x y) (b:Tu y z):Tu x z:=by
 rw[Ka] at*;rcases f with f|⟨f,c⟩
 .rcases b with b|⟨b,_⟩<;>exact .inl G
 .rcases b with b|⟨b,a⟩
  .exact .inl G
  .refine .inr ⟨G,?_⟩
   rcases c with c|⟨c,d⟩
   .rcases a with a|⟨a,_⟩
    .exact .inl (YS c a)
    .exact .inl Jq
   .rw[c]
    rcases a with a|⟨a,e⟩
    .exact .inl a
    .exact .inr Jq
def PZ {x:Ed} (h:HC x y=Ag):Tu x y:=by
 rw[Ka];unfold HC at h;split at h
 .rename_i c
  split at h
  .rename_i a
   refine .inr ⟨c,.inr ⟨Uf a,λb=>?_⟩⟩;rw[b] at h;cases h
  .exact .inr Jq
 .exact .inl (Fp h)
def Zw {p x:Ed} (h:Tu p y) (b:¬p.ns<+:y.ns) (c:p.ns<+:x.ns) (e:x.a=p.a):Tu x y:=by
 rw[Ka] at*;let⟨z,d⟩:=c;rcases h with h|⟨h,f|⟨f,_⟩⟩
 .exact .inl G
 .refine .inr ⟨G,.inl ?_⟩
  rw[←d,VQ z b];exact f
 .exact Cf Jq b
def Cb.C (V:Cb) (j:Nat):BI:=V.ns.getD j DS
structure A6 where
 V:Cb
 F:Int
 T:Int
 j:Int
def A6.C (s:A6) (j:Nat):BI:=s.V.C j
def A6.kids (s:A6) (p:Int):Bo:=(s.V.from_ p).filter λj=>decide ((s.C j).t<=s.T)
def A6.via (s:A6) (i j:Nat):Int:=s.V.aW i j+(s.C j).c
def A6.O (s:A6) (f:Nat->Option Int) (i:Nat) (o:Option Int) (j:Nat):Option Int:=match f j with
 |Z=>o
 |I m=>match o with
  |Z=>I (s.via i j+m)
  |I old=>if s.via i j+m<old then I (s.via i j+m) else I old
def A6.R (s:A6):Nat->Nat->Option Int
 |0,_=>Z
 |t+1,i=>if i<LB s.V.ns/\(s.C i).t=s.T-t/\s.F<=(s.C i).f then(if t=0 then I (s.V.leave i s.j) else(s.kids (s.T-t)).foldl (s.O (s.R t) i) Z) else s.R t i
def A6.rest (s:A6):Nat->Option Int:=s.R (s.T-s.F).toNat
def A6.fold {s:A6} {f:Nat->Option Int} {i:Nat}:∀(l:Bo) (o:Option Int),(l.foldl (s.O f i) o=Z->o=Z/\∀j∈l,f j=Z)/\
 ∀r,l.foldl (s.O f i) o=I r->(∀x,o=I x->r<=x)/\(∀j∈l,∀m,f j=I m->r<=s.via i j+m)/\(o=I r\/∃j∈l,∃m,f j=I m/\r=s.via i j+m)
 |[],o=>⟨λh=>⟨h,λ_ h=>Jq⟩,λr h=>⟨λx q=>Jq,(λ_ h=>Jq),.inl h⟩⟩
 |j::l,o=>by
  obtain⟨C,t⟩:=A6.fold (i:=i) l (s.O f i o j);rw[F7];have st:s.O f i o j=Z->o=Z/\f j=Z:=by
   unfold A6.O;split
   .exact λh=>⟨h,by assumption⟩
   .split
    .exact λh=>Jq
    .split<;>exact λh=>Jq
  refine⟨λh=>?_,λr u=>?_⟩
  .let⟨a,b⟩:=C h
   let⟨c,d⟩:=st a;exact⟨c,λk g=>(bZ.1 g).elim (λe=>e▸d) (b k)⟩
  .let⟨a,b,c⟩:=t r u
   unfold A6.O at a c;cases p:f j with
   |none=>
    simp only[p] at a c;refine⟨a,λk g m n=>?_,c.imp id λ⟨k,g,x⟩=>⟨k,Az _ g,x⟩⟩;rcases bZ.1 g with rfl|g
    .rw[p] at n;cases n
    .exact b k g m n
   |some m=>
    simp only[p] at a c;cases o with
    |none=>
     simp only at a c;refine⟨(λx q=>Jq),λk g m' n=>?_,?_⟩
     .rcases bZ.1 g with rfl|g
      .rw[p] at n;cases n;exact a _ B
      .exact b k g m' n
     .rcases c with c|⟨k,g,x⟩
      .cases c;exact .inr ⟨j,Av,m,p,B⟩
      .exact .inr ⟨k,Az _ g,x⟩
    |some old=>
     simp only at a c;have e:∃z,(if s.via i j+m<old then I (s.via i j+m) else I old)=I z/\z<=old/\z<=s.via i j+m/\(z=old\/z=s.via i j+m):=by
      split
      .exact⟨_,B,G,G,.inr B⟩
      .exact⟨_,B,G,G,.inl B⟩
     let⟨z,v,y,A,w⟩:=e;rw[v] at a c;have a:=a z B;refine⟨(λx q=>Jq),λk g m' n=>?_,?_⟩
     .rcases bZ.1 g with rfl|g
      .rw[p] at n;cases n;omega
      .exact b k g m' n
     .rcases c with c|⟨k,g,x⟩
      .cases c
       rcases w with rfl|rfl
       .exact .inl B
       .exact .inr ⟨j,Av,m,p,B⟩
      .exact .inr ⟨k,Az _ g,x⟩
def A6.mem {s:A6} (h:j<LB s.V.ns):s.C j∈s.V.ns:=by
 unfold A6.C Cb.C;rw[Ak,Ab h];exact Bu h
def A6.bJ {s:A6} (b:s.V.O) {p:Int} (h:j∈s.V.from_ p):j<LB s.V.ns/\(s.C j).f=p:=by
 unfold Cb.from_ at h;split at h
 .rw[Ak] at h
  cases a:s.V.fs[bH p]? with
  |none=>rw[a] at h;cases h
  |some l=>
   rw[a,EN,b.at_ _ l a,Yqd,dX] at h;refine⟨h.1,?_⟩;have:=Fp h.2;unfold A6.C Cb.C;omega
 .cases h
def A6.cj {s:A6} (a:s.V.O) {p:Int}:j∈s.kids p->j<LB s.V.ns/\(s.C j).f=p/\p<(s.C j).t/\(s.C j).t<=s.T:=λh=>by
 let⟨h1,c⟩:=Yqd.1 h;let⟨b,d⟩:=A6.bJ a h1;have:=(a.inv.ok _ (A6.mem b)).2.1.1;exact⟨b,d,G,Fp c⟩
def A6.dz {s:A6} {i:Nat} {t:Nat} (h:(s.C i).t=s.T-t):∀d,s.R (t+1+d) i=s.R (t+1) i
 |0=>rfl
 |d+1=>by
  rw[show t+1+(d+1)=(t+1+d)+1 from B,A6.R,Bm G];exact A6.dz h d
def A6.cl {s:A6} (h:i<LB s.V.ns/\(s.C i).t=s.T/\s.F<=(s.C i).f) (a:s.F<s.T):s.rest i=I (s.V.leave i s.j):=by
 unfold A6.rest;rw[show(s.T-s.F).toNat=0+1+((s.T-s.F).toNat-1) by omega,A6.dz G,A6.R,Bi G,Bi B]
def A6.dx {s:A6} (g:s.V.O) (h:i<LB s.V.ns/\(s.C i).t<s.T/\s.F<=(s.C i).f) (q:s.F<(s.C i).t):s.rest i=(s.kids (s.C i).t).foldl (s.O s.rest i) none:=by
 obtain⟨t,b⟩:∃t:Nat,(s.C i).t=s.T-t:=⟨(s.T-(s.C i).t).toNat,G⟩;have e:s.rest i=(s.kids (s.T-t)).foldl (s.O (s.R t) i) none:=by
  unfold A6.rest;rw[show(s.T-s.F).toNat=t+1+((s.T-s.F).toNat-t-1) by omega,A6.dz b,A6.R,Bi G,Bm G]
 rw[e,b];have:∀(l:Bo) o,(∀j∈l,s.R t j=s.rest j)->l.foldl (s.O (s.R t) i) o=l.foldl (s.O s.rest i) o:=λl=>by
  induction l with
  |nil=>exact λ_ _=>B
  |cons j l m=>
   intro o c;rw[F7,F7,m _ λk n=>c k (Az _ n)];unfold A6.O;rw[c j Av]
 refine this _ _ λj p=>?_;obtain⟨_,_,r,u⟩:=A6.cj g p;obtain⟨a,d⟩:∃a:Nat,(s.C j).t=s.T-a:=⟨(s.T-(s.C j).t).toNat,G⟩;unfold A6.rest;rw[show t=a+1+(t-a-1) by omega,A6.dz d,show(s.T-s.F).toNat=a+1+((s.T-s.F).toNat-a-1) by omega,A6.dz d]
def A6.exact {s:A6} (b:s.V.O) {r:Int} (h:i<LB s.V.ns/\(s.C i).t<s.T/\s.F<=(s.C i).f) (c:s.F<(s.C i).t) (a:s.rest i=I r):
 (∀j∈s.kids (s.C i).t,∀m,s.rest j=I m->r<=s.via i j+m)/\∃j∈s.kids (s.C i).t,∃m,s.rest j=I m/\r=s.via i j+m:=by
 rw[A6.dx b h c] at a;let⟨_,h1,d⟩:=(A6.fold _ _).2 r a;exact⟨h1,d.elim (λh=>Jq) id⟩
def A6.one {s:A6} (b:s.V.O) (i:s.T<=LB s.V.fs) {p:Int} (h0:0<=p) (f:p<s.T):∃j∈s.kids p,(s.C j).t=p+1:=by
 obtain⟨q,rfl⟩:∃q:Nat,p=q:=⟨bH p,G⟩;let⟨n,g,f,h⟩:=b.inv.a q G;let⟨j,c,e⟩:=N2 g;have a:s.C j=n:=by unfold A6.C Cb.C;rw[Ak,Ab c,e];rfl
 refine⟨j,Yqd.2 ⟨?_,decide_eq_true Jq⟩,Jq⟩;have d:q<LB s.V.fs:=G;unfold Cb.from_;rw[Bi G,Ak,show((q:Int)).toNat=q from B,Ab d,EN,b.at_ _ _ (Ab d),Yqd,dX];exact⟨c,decide_eq_true Jq⟩
def A6.dm {s:A6} (a:s.V.O) (g:0<=s.F) (b:s.T<=LB s.V.fs):∀(d:Nat) (p:Int),p=s.T-1-d->s.F<=p->∃j∈s.kids p,∃m,s.rest j=I m:=λd p l n=>by
 obtain⟨j,c,h⟩:=A6.one a b (p:=p) G G;obtain⟨u,o,q,t⟩:=A6.cj a c;refine⟨j,c,?_⟩;cases d with
 |zero=>exact⟨_,A6.cl ⟨u,G,G⟩ G⟩
 |succ d=>
  cases e:s.rest j with
  |some r=>exact⟨r,B⟩
  |none=>
   let⟨k,i,m,f⟩:=A6.dm a g b d (p+1) G G;rw[A6.dx a ⟨u,G,G⟩ G] at e;have:=((A6.fold _ _).1 e).2 k (h▸i);rw[this] at f;cases f
def A6.a9 {s:A6} (b:s.V.O) {h:Y} {p:Nat} (A:EI h p s.V):∀(t i:Nat) r,s.R t i=I r->-(70000*(t:Int))<=r/\r<=70000*(t:Int)
 |0,_,_,a=>Jq
 |t+1,i,r,a=>by
  rw[A6.R] at a;split at a
  .split at a
   .cases a
    have:=Cb.bV b i s.j;omega
   .rename_i h0
    let⟨_,_,c⟩:=(A6.fold _ _).2 r a;rcases c with c|⟨j,d,m,e,rfl⟩
    .cases c
    have g:=A6.a9 b A t j m e;have k:=Cb.aR b A i j;let⟨f,_⟩:=A6.cj b d;have l:=(b.inv.ok _ (A6.mem f)).2.2.1;unfold A6.via;omega
  .have:=A6.a9 b A t i r a
   omega
end
section
variable {h J h0 h1 H:Y} {v fv nv pv cv ev lv u v':Aa} {xs args vs ys:AH} {n b N i k e r j x m c q d a p t2 st sb mo ck lp rm b0 sz off:Nat} {t:Ai} {f:Au} {fn:BC} {s:Bd} {bs:Bl} {ws:Bo} {Q:Aa->Y->Prop} {A:Option BD} {z df day:Int} {ss:BZ} {τ:Bb}
def _root_.ByteArray.bF (a b:Bd):(a++b).data.toList=aI a.data++aI b.data:=Jq
def px (a b:Bd):Prop:=aI a.data<+:aI b.data
def Ed.C (x:Ed):Nat:=x.ns.getLastD 0
def Oa:List Ed->Option (Ed×List Ed)
 |[]=>Z
 |x::l=>match Oa l with
  |Z=>I (x,[])
  |I (m,r)=>if HC m x=Ag then I (m,x::r) else I (x,l)
def JK:∀{Q:List Ed},Q≠[]->∃p q,Oa Q=I (p,q)
 |[],h=>Cf B h
 |x::l,_=>by
  rw[Oa];split
  .exact⟨_,_,B⟩
  .split<;>exact⟨_,_,B⟩
def HN:∀{Q:List Ed} {p:Ed} {q:List Ed},Oa Q=I (p,q)->Q.Perm (p::q)/\∀y∈Q,Tu p y
 |[],_,_,h=>Jq
 |x::l,p,q,h=>by
  rw[Oa] at h;cases c:Oa l with
  |none=>
   rw[c] at h;cases h;have g:l=[]:=by
    cases l with
    |nil=>rfl
    |cons a l=>obtain⟨_,_,e⟩:=JK (Q:=a::l) wl;rw[c] at e;cases e
   subst g;exact⟨List.Perm.refl _,λy b=>bQ.1 b▸Ij _⟩
  |some i=>
   let⟨m,r⟩:=i;let⟨j,f⟩:=HN c;rw[c] at h;simp only at h;split at h
   .rename_i d
    cases h;refine⟨(j.cons x).trans (List.Perm.swap _ _ _),λy b=>?_⟩;rcases bZ.1 b with rfl|b
    .exact PZ d
    .exact f y b
   .rename_i d
    cases h;refine⟨List.Perm.refl _,λy b=>?_⟩;rcases bZ.1 b with rfl|b
    .exact Ij _
    .exact uX (show Tu x m by unfold Tu;simpa using d) (f y b)
def Ed.apart (x y:Ed):Prop:=¬x.ns<+:y.ns/\¬y.ns<+:x.ns
def Ed.apart.symm {x y:Ed} (h:x.apart y):y.apart x:=⟨h.2,h.1⟩
def M4 {Q q:List Ed} {p h:Ed} (b:Q.Perm (p::q)) (g:Q.Pairwise Ed.apart) (i:∀y∈Q,Tu p y) (c:h∈Q) (j:∀y∈Q,Tu h y):h=p:=by
 have k:=(b.pairwise_iff Ed.apart.symm).1 g;rcases bZ.1 (b.mem_iff.1 c) with e|l
 .exact e
 .have m:=b.mem_iff.2 Av
  have o:=Ka.1 (i h c);have a:=Ka.1 (j p m);have n:=QW p.ns h.ns;have e:p.ns=h.ns:=by
   rcases o with o|⟨o,d|⟨d,_⟩⟩
   .rcases a with a|⟨a,_⟩<;>omega
   .rcases a with a|⟨a,f|⟨f,_⟩⟩
    .omega
    .omega
    .exact f.symm
   .exact d
  exact Cf (e▸Eb _) ((dY.1 k).1 h l).1
namespace A6
def AGz (s:A6) (p:Ed) (j:Nat) (m:Int):Ed:=⟨p.ns++[j],s.via p.C j+p.c,s.via p.C j+p.c+m,p.b++(s.C j).s,Ah⟩
def Aou (s:A6) (p:Ed):List Ed:=(s.kids (s.C p.C).t).filterMap λj=>(s.rest j).map (s.AGz p j)
def Axk (s:A6) (r:Int) (j:Nat) (m:Int):Ed:=⟨[j],s.V.enter r j+(s.C j).c,s.V.enter r j+(s.C j).c+m,(s.C j).s,Ah⟩
def AGu (s:A6) (r:Int):List Ed:=(s.kids s.F).filterMap λj=>(s.rest j).map (s.Axk r j)
structure ADf (s:A6) (x:Ed):Prop where
 ne:x.ns≠[]
 lt:∀j∈x.ns,j<LB s.V.ns
 j:x.C<LB s.V.ns/\s.F<=(s.C x.C).f/\s.F<(s.C x.C).t/\(s.C x.C).t<=s.T
 m:∃m,s.rest x.C=I m/\x.a=x.c+m
 d:x.d=Ag->(s.C x.C).t=s.T
 len:(LB x.ns:Int)<=(s.C x.C).t-s.F
 b:aL x.b<=256*LB x.ns
 c:-(70000*(LB x.ns:Int))<=x.c/\x.c<=70000*(LB x.ns:Int)
def Cw (p:Ed):Int×Bd:=(if p.d=Ag then-1 else(p.C),p.b)
open Classical in
def next (s:A6) (x:List Ed×List (Int×Bd)×List Ed):List Ed×List (Int×Bd)×List Ed:=match Oa x.1 with
 |none=>x
 |
  some (p,q)=>if Cw p∈x.2.1 then(q,x.2.1,x.2.2) else
  if p.d=Ag then(q,Cw p::x.2.1,x.2.2++[p]) else
  if(s.C p.C).t=s.T then(⟨p.ns,p.c,p.a,p.b,Ag⟩::q,Cw p::x.2.1,x.2.2) else(s.Aou p++q,Cw p::x.2.1,x.2.2)
def W (s:A6) (n:Nat):Nat:=if(s.C n).t=s.T then 1 else(s.kids (s.C n).t).length
def Wk (s:A6) (k:Int×Bd):Nat:=if k.1<0 then 0 else s.W k.1.toNat
def AHb (s:A6) (Q:List Ed) (a:List Ed) (k:Int×Bd):Prop:=
 (∃o∈a,px k.2 o.b/\(k.1<0->k.2=o.b))\/(0<=k.1/\∃h∈Q,(∀y∈Q,Tu h y)/\px k.2 h.b/\(h.d=Ag\/(s.C k.1.toNat).t<(s.C h.C).t))
structure Inv (s:A6) (n:Nat) (Q:List Ed) (K:List (Int×Bd)) (out:List Ed):Prop where
 ok:∀x∈Q,s.ADf x
 oo:∀o∈out,s.ADf o
 b:Q.Pairwise Ed.apart
 M:K.Nodup
 a:∀k∈K,s.AHb Q out k
 kn:∀k∈K,k.1<0\/k.1.toNat<LB s.V.ns
 ne:K=[]->Q≠[]
 cL:LB Q+n<=LB s.V.ns+(K.map s.Wk).sum
def Arv {s:A6} (d:s.V.O) (A:EI h b s.V) {p:Ed} (a:s.ADf p) (k:j∈s.kids (s.C p.C).t) {m:Int} (l:s.rest j=I m):s.ADf (s.AGz p j m):=by
 let⟨e,o,q,r⟩:=cj d k;have f:(s.AGz p j m).C=j:=by show(p.ns++[j]).getLastD 0=j;exact vV ..
 have g:(s.AGz p j m).ns.length=LB p.ns+1:=by show(p.ns++[j]).length=_;simp
 have n:=a.j;have v:=a.len;have w:=a.c;refine⟨Jq,λi U=>?_,Jq,⟨m,Jq,B⟩,(λh=>Jq),Jq,?_,?_⟩
 .rcases dF.1 U with U|U
  .exact a.lt i U
  .rw[bQ.1 U];exact e
 .have x:=a.b
  have y:=(d.inv.ok _ (mem e)).2.2.2;rw[g];show(p.b++(s.C j).s).size<=_;rw[KF];omega
 .have z:=Cb.aR d A p.C j
  have C:=(d.inv.ok _ (mem e)).2.2.1;rw[g];show _<=s.V.aW p.C j+(s.C j).c+p.c/\s.V.aW p.C j+(s.C j).c+p.c<=_;omega
end A6
end
section
variable {h J h0 h1 H:Y} {v fv nv pv cv ev lv u v':Aa} {xs args vs ys:AH} {n b N i k e r j x m c q d a p t2 st sb mo ck lp rm b0 sz off:Nat} {t:Ai} {f:Au} {fn:BC} {s:Bd} {bs:Bl} {ws:Bo} {W:Nat->Prop} {Q:Aa->Y->Prop} {A:Option BD} {z df day:Int} {ss:BZ} {τ:Bb}
def uG {a b c:Bd} (e:px a b) (d:px b c):px a c:=List.IsPrefix.trans e d
def Y8 (a:Bd):px a a:=Eb _
def Ame (f:Int×Bd->Nat) (k:Int×Bd) (K:List (Int×Bd)):((k::K).map f).sum=f k+(K.map f).sum:=Jq
namespace A6
def OT {s:A6} {p x:Ed}:x∈s.Aou p->∃j∈s.kids (s.C p.C).t,∃m,s.rest j=I m/\x=s.AGz p j m:=λh=>by
 let⟨j,b,e⟩:=gq.1 h;cases a:s.rest j with
 |none=>rw[a] at e;cases e
 |some m=>rw[a] at e;cases e;exact⟨j,b,m,a,B⟩
def Akv (s:A6) (p:Ed) (j:Nat) (m:Int):(s.AGz p j m).C=j:=by
 show(p.ns++[j]).getLastD 0=j;exact vV ..
def Rr {s:A6} (a:s.V.O) (p:Int):(s.kids p).Nodup:=by
 refine List.Pairwise.filter _ ?_;unfold Cb.from_;split
 .rw[Ak]
  cases b:s.V.fs[bH p]? with
  |none=>exact Jg
  |some l=>rw[EN,a.at_ _ l b];exact List.Pairwise.filter _ List.nodup_range
 .exact Jg
def P0 {l:Bo} (h:l++[i]<+:l++[j]):i=j:=by
 have:=h.eq_of_length Jq;simpa using this
def Yd {s:A6} (e:s.V.O) (p:Ed):(s.Aou p).Pairwise Ed.apart:=by
 unfold Aou;refine qS.2 ((Rr e _).imp λ{i j} c x a y b=>?_);cases U:s.rest i with
 |none=>rw[U] at a;cases a
 |some m=>
  cases d:s.rest j with
  |none=>rw[d] at b;cases b
  |some m'=>
   rw[U] at a;rw[d] at b;cases a;cases b;exact⟨λh=>c (P0 h),λh=>c (P0 h).symm⟩
def Aar {x y:Bo} (j:Nat) (h:¬x<+:y/\¬y<+:x):¬x++[j]<+:y/\¬y<+:x++[j]:=
 ⟨λe=>h.1 ((GS _ _).trans e),λe=>by
  rcases List.prefix_concat_iff.1 e with e|e
  .exact h.1 (e▸GS _ _)
  .exact h.2 e⟩
def Inv.next {s:A6} (O:s.V.O) {hp:Y} (A:EI hp b s.V) {Q:List Ed} {K:List (Int×Bd)} {F:List Ed} (d:s.Inv n Q K F) {p:Ed} {q:List Ed} (ae:Oa Q=I (p,q)):
 s.Inv (n+1) (s.next (Q,K,F)).1 (s.next (Q,K,F)).2.1 (s.next (Q,K,F)).2.2:=by
 obtain⟨M,X⟩:=HN ae;have C:=dY.1 ((M.pairwise_iff Ed.apart.symm).1 d.b);have am:p∈Q:=M.mem_iff.2 Av;have H:∀y∈q,y∈Q:=λy g=>M.mem_iff.2 (Az _ g);have z:=d.ok p am;have av:LB Q=LB q+1:=by rw[M.length_eq];rfl
 have hc:=d.cL;have P:=z.j;have R:∀{h:Ed},h∈Q->(∀y∈Q,Tu h y)->h=p:=λu w=>M4 M d.b X u w;unfold A6.next
 simp only[ae];split
 .rename_i S
  have cp:∃o∈F,px p.b o.b:=by
   rcases d.a _ S with⟨o,D,Z,_⟩|⟨h0,h,u,w,_,v⟩
   .exact⟨o,D,Z⟩
   .rw[R u w] at v
    cases E:p.d with
    |true=>unfold Cw at h0;rw[Bi E] at h0;simp at h0
    |
     false=>
     unfold Cw at v;rw[E] at v;simp at v
  obtain⟨o,D,Z⟩:=cp;refine⟨λx l=>d.ok x (H x l),d.oo,C.2,d.M,λk f=>?_,d.kn,(λe=>Cf S (by rw[show K=[] from e];simp)),(by show LB q+_<=LB s.V.ns+(K.map s.Wk).sum;omega)⟩;rcases d.a k f with h|⟨h0,h,u,w,v,_⟩
  .exact .inl h
  .rw[R u w] at v
   exact .inl ⟨o,D,uG v Z,λhn=>G⟩
 .rename_i S
  have aa:(Cw p::K).Nodup:=iU.2 ⟨S,d.M⟩;have hw:=Ame s.Wk (Cw p) K;split
  ·
   rename_i E;refine⟨λx l=>d.ok x (H x l),λo D=>(dF.1 D).elim (d.oo o) λe=>by rw[bQ.1 e];exact z,C.2,aa,λk f=>?_,λk f=>?_,(λe=>by cases e),(by show LB q+_<=LB s.V.ns+((Cw p::K).map s.Wk).sum;omega)⟩
   .rcases bZ.1 f with rfl|f
    .exact .inl ⟨p,by simp,Y8 _,λ_=>B⟩
    .rcases d.a k f with⟨o,D,h⟩|⟨h0,h,u,w,v,_⟩
     .exact .inl ⟨o,DW _ D,h⟩
     .rw[R u w] at v
      exact .inl ⟨p,by simp,v,λhn=>G⟩
   .rcases bZ.1 f with rfl|f
    .exact .inl (show(Cw p).1<0 by unfold Cw;rw[Bi E];exact(by decide:(-1:Int)<0))
    .exact d.kn k f
  .rename_i E
   have ab:Cw p=((p.C:Int),p.b):=by unfold Cw;rw[Bm E]
   have aw:s.Wk (Cw p)=s.W p.C:=by rw[ab];unfold Wk;rw[Bm wl];rfl
   have af:∀k∈Cw p::K,k.1<0\/k.1.toNat<LB s.V.ns:=λk f=>by
    rcases bZ.1 f with rfl|f
    .rw[ab];exact .inr P.1
    .exact d.kn k f
   have ag:∀{Q':List Ed} {h:Ed},h∈Q'->(∀y∈Q',Tu h y)->px p.b h.b->(h.d=Ag\/(s.C p.C).t<(s.C h.C).t)->∀k∈Cw p::K,s.AHb Q' F k:=λ{Q' h} u w ah hl k f=>by
    rcases bZ.1 f with rfl|f
    .rw[ab]
     exact .inr ⟨by simp,h,u,w,ah,hl⟩
    .rcases d.a k f with h|⟨h0,J,an,ad,v,N⟩
     .exact .inl h
     .rw[R an ad] at v N
      refine .inr ⟨h0,h,u,w,uG v ah,?_⟩;rcases N with N|N
      .exact Cf N E
      .exact hl.imp id λh=>G
   split
   ·
    rename_i T;have hW:s.W p.C=1:=by unfold A6.W;rw[Bi T]
    refine⟨λx l=>?_,d.oo,dY.2 ⟨λy g=>C.1 y g,C.2⟩,aa,ag Av (λy g=>?_) (Y8 _) (.inl B),af,(λe=>by cases e),(by show(_::q).length+_<=LB s.V.ns+((Cw p::K).map s.Wk).sum;rw[AO];omega)⟩
    .rcases bZ.1 l with rfl|l
     .exact⟨z.ne,z.lt,z.j,z.m,λ_=>T,z.len,z.b,z.c⟩
     .exact d.ok x (H x l)
    .rcases bZ.1 g with rfl|g
     .exact Ij _
     .exact Zw (X y (H y g)) (C.1 y g).1 (Eb _) B
   .rename_i T
    obtain⟨r,hr,ha⟩:=z.m;obtain⟨e1,j,ao,m,w,e2⟩:=exact O ⟨P.1,G,P.2.1⟩ P.2.2.1 hr;have ai:s.AGz p j m∈s.Aou p:=gq.2 ⟨j,ao,by rw[w];rfl⟩;obtain⟨h,ax,ap⟩:=JK (O7 ai);obtain⟨aq,aj⟩:=HN ap;have u:h∈s.Aou p:=aq.mem_iff.2 Av;obtain⟨L,ak,m',ad,rfl⟩:=OT u;have ay:=Ka.1 (aj _ ai);have az:=e1 L ak m' ad;have ar:(s.AGz p L m').a=p.a:=by
     have q1:(s.AGz p L m').a=s.via p.C L+p.c+m':=B;have q2:(s.AGz p j m).a=s.via p.C j+p.c+m:=B;omega
    have au:=Akv s p L m';have f:=cj O ak;have hW:(s.Aou p).length<=s.W p.C:=by
     unfold A6.W Aou;rw[Bm T];exact KH _ _
    refine⟨λx l=>?_,d.oo,List.pairwise_append.2 ⟨Yd O p,C.2,λx l y g=>?_⟩,aa,ag (DW _ u) (λy g=>?_) ?_ (.inr (by rw[au];omega)),af,(λe=>by cases e),(by show(s.Aou p++q).length+_<=LB s.V.ns+((Cw p::K).map s.Wk).sum;rw[Aj];omega)⟩
    .rcases dF.1 l with l|l
     .obtain⟨i,U,mi,al,rfl⟩:=OT l
      exact Arv O A z U al
     .exact d.ok x (H x l)
    .obtain⟨i,U,mi,al,rfl⟩:=OT l
     exact Aar i (C.1 y g)
    .rcases dF.1 g with g|g
     .exact aj y g
     .exact Zw (X y (H y g)) (C.1 y g).1 (GS _ _) ar
    .show (aI p.b.data)<+:(p.b++(s.C L).s).data.toList
     rw[ByteArray.bF];exact GS _ _
end A6
def Dd:Nat->(Nat->Nat)->Nat
 |0,_=>0
 |n+1,f=>Dd n f+f n
def LV {f g:Nat->Nat}:∀{n:Nat},(∀i,i<n->f i<=g i)->Dd n f<=Dd n g
 |0,_=>Ae _
 |n+1,h=>Nat.add_le_add (LV λi U=>h i G) (h n G)
def G6 (f g:Nat->Nat):∀n,Dd n (λi=>f i+g i)=Dd n f+Dd n g
 |0=>rfl
 |n+1=>by rw[Dd,Dd,Dd,G6 f g n];omega
def NI (c:Nat) (f:Nat->Nat):∀n,Dd n (λi=>c*f i)=c*Dd n f
 |0=>rfl
 |n+1=>by rw[Dd,Dd,NI c f n,EG]
def SM (f:Nat->Nat->Nat) (m:Nat):∀n,Dd n (λi=>Dd m λj=>f i j)=Dd m λj=>Dd n λi=>f i j
 |
  0=>by
  show 0=Dd m λ_=>0;have:∀m,Dd m (λ_=>0)=0:=λm=>by induction m with|zero=>rfl|succ m a=>rw[Dd,a]
  exact(this m).symm
 |n+1=>by
  rw[Dd,SM f m n,←G6];rfl
def VK (f:Nat->Nat):∀n,0<n->∃v,v<n/\∀i,i<n->f i<=f v
 |1,_=>⟨0,Jq,λi U=>Nat.lt_one_iff.1 U▸Ae _⟩
 |
  n+2,_=>by
  obtain⟨v,b,h⟩:=VK f (n+1) G;rcases A8 (f v) (f (n+1)) with c|a
  .refine⟨n+1,G,λi U=>?_⟩
   rcases A8 i (n+1) with d|d
   .have:=h i d;omega
   .rw[show i=n+1 by omega];exact Ae _
  .refine⟨v,G,λi U=>?_⟩
   rcases A8 i (n+1) with d|d
   .exact h i d
   .rw[show i=n+1 by omega];exact a
def Ahs (x y:Nat):4*(x*y)<=(x+y)*(x+y):=by
 rcases Nat.le_total x y with h|h
 .obtain⟨d,rfl⟩:=Nat.le.dest h
  simp only[Dw,EG];have e:=UI x d;have:=Al (d*d);omega
 .obtain⟨d,rfl⟩:=Nat.le.dest h
  simp only[Dw,EG];have e:=UI y d;have:=Al (d*d);omega
def H8 (f t:Nat->Int) (n:Nat) (c:∀i,i<n->f i<t i):4*Dd n (λi=>Dd n λj=>if t i=f j then 1 else 0)<=n*n:=by
 rcases KQ n with rfl|h
 .exact Ae _
 let a:Nat->Nat->Nat:=λi j=>if t i=f j then 1 else 0
 let b:Nat->Nat:=λi=>Dd n λj=>a i j+a j i
 obtain⟨v,d,k⟩:=VK b n h
 let u:Nat->Nat:=λi=>if t v=f i\/t i=f v then 0 else 1
 have g:Dd n (λi=>Dd n λj=>a i j)<=Dd n λi=>u i*b i:=by
  have e:Dd n (λi=>u i*b i)=Dd n (λi=>Dd n λj=>(u i+u j)*a i j):=by
   have l:∀i,u i*b i=Dd n (λj=>u i*a i j)+Dd n λj=>u i*a j i:=λi=>by
    show u i*Dd n (λj=>a i j+a j i)=_;rw[G6,EG,←NI,←NI]
   have o:Dd n (λi=>u i*b i)=Dd n (λi=>Dd n λj=>u i*a i j)+Dd n (λi=>Dd n λj=>u i*a j i):=by
    rw[←G6];congr 1;funext i;exact l i
   rw[o,SM (λi j=>u i*a j i),←G6];congr 1;funext i;rw[←G6];congr 1;funext j;rw[Dw]
  rw[e];refine LV λi U=>LV λj p=>?_;show(if t i=f j then 1 else 0)<=((if t v=f i\/t i=f v then 0 else 1)+(if t v=f j\/t j=f v then 0 else 1))*(if t i=f j then 1 else 0)
  have:=c i U;have:=c j p;have:=c v d;split
  .split
   .rw[Bm G];decide
   .omega
  .omega
 have r:Dd n (λi=>u i*b i)<=b v*Dd n u:=by
  rw[←NI];exact LV λi U=>Jq
 have s:Dd n u+b v<=n:=by
  have e:Dd n (λ_=>1)=n:=by
   have:∀m,Dd m (λ_=>1)=m:=λm=>by induction m with|zero=>rfl|succ m q=>rw[Dd,q]
   exact this n
  show Dd n u+Dd n (λj=>a v j+a j v)<=n;rw[←G6];refine Ao (LV λi U=>?_) (A2 e);show(if t v=f i\/t i=f v then 0 else 1)+((if t v=f i then 1 else 0)+(if t i=f v then 1 else 0))<=1
  have:=c i U;have:=c v d;split
  .split
   .rw[Bm G];decide
   .split<;>omega
  .rw[Bm G,Bm G];decide
 have w:=Ahs (b v) (Dd n u);have x:(b v+Dd n u)*(b v+Dd n u)<=n*n:=Cj G G;show 4*Dd n (λi=>Dd n λj=>a i j)<=n*n;omega
def T2 {c:Type} (f:c->Nat):∀(K M:List c),K.Nodup->(∀k∈K,f k=0\/k∈M)->(K.map f).sum<=(M.map f).sum
 |[],_,_,_=>Jq
 |k::K,M,e,h=>by
  let⟨g,d⟩:=iU.1 e;rw[Bp,gv];rcases h k Av with h0|i
  .rw[h0,Ba];exact T2 f K M d λx b=>h x (Az _ b)
  .obtain⟨A,j,rfl⟩:=List.append_of_mem i
   have:=T2 f K (A++j) d λx b=>(h x (Az _ b)).imp id λa=>by
    rcases dF.1 a with a|a
    .exact DW _ a
    .rcases bZ.1 a with rfl|a
     .exact Cf b g
     .exact rj _ a
   simp only[BS,PC,Bp,gv] at this⊢;omega
def Xh (o:Bd):BZ:=(BG (aL o+1)).map λl=>⟨⟨o.data.toList.take l⟩⟩
def Ahd {a o:Bd} (h:px a o):a∈Xh o:=by
 refine dP.2 ⟨aL a,dX.2 ?_,?_⟩
 .have:=h.length_le
  have b:LB a.data.toList=aL a:=B;have c:LB o.data.toList=aL o:=B;omega
 .have:o.data.toList.take a.size=aI a.data:=(List.prefix_iff_eq_take.1 h).symm
  rw[this]
def VJ {a b:Type} (g:a->List b) (c:Nat):∀l:List a,(∀x∈l,(g x).length<=c)->(l.flatMap g).length<=LB l*c
 |[],_=>Jq
 |x::l,h=>by
  have f:=h x Av;have e:=VJ g c l λy d=>h y (Az _ d);rw[Dg,Aj,AO,Dw];omega
namespace A6
def tZ (s:A6):∀(n:Nat) (M:BZ),((M.flatMap λt=>(BG n).map λi:Nat=>((i:Int),t)).map s.Wk).sum=LB M*Dd n s.W
 |n,[]=>Jq
 |n,t::M=>by
  rw[Dg,BS,PC,tZ s n M,AO,Dw,Nat.one_mul,UK];congr 1;rw[O5]
  induction n with
  |zero=>rfl
  |succ n a=>
   rw[fU,BS,PC,a,Dd];have:(s.Wk∘λi:Nat=>((i:Int),t)) n=s.W n:=by
    show s.Wk (n,t)=_;unfold Wk;rw[Bm Jq];rfl
   simpa using this
def ACi {s:A6} (a:s.V.O) (i:Nat):s.W i<=1+Dd (LB s.V.ns) λj=>if(s.C i).t=(s.C j).f then 1 else 0:=by
 unfold A6.W;split
 .omega
 refine Ao (D7 _ _) ?_;have b:∀n:Nat,((BG n).filter λj=>decide ((s.V.ns.getD j DS).f=(s.C i).t)).length=Dd n λj=>if(s.C i).t=(s.C j).f then 1 else 0:=λn=>by
  induction n with
  |zero=>rfl
  |succ n c=>
   rw[fU,O6,Aj,c,Dd];congr 1;by_cases h:(s.C i).t=(s.C n).f
   .rw[Bi h,W8 (by exact decide_eq_true h.symm)];rfl
   .rw[Bm h,W9 (by rw[decide_eq_true_iff];exact λe=>h (Eq.symm e))];rfl
 unfold Cb.from_;split
 .rw[Ak]
  cases d:s.V.fs[(s.C i).t.toNat]? with
  |none=>exact Al _
  |some l=>
   rw[EN,a.at_ _ l d];have:=b (LB s.V.ns);rename_i h0;rw[show(((s.C i).t.toNat))=(s.C i).t by omega,this];omega
 .exact Al _
def zA {s:A6} (a:s.V.O):Dd (LB s.V.ns) s.W<=25010000:=by
 have e:=LV (n:=LB s.V.ns) λi _=>ACi a i;rw[G6] at e;have d:=H8 (λi=>(s.C i).f) (λi=>(s.C i).t) (LB s.V.ns) λi U=>(a.inv.ok _ (mem U)).2.1.1;have g:Dd (LB s.V.ns) (λ_=>1)=LB s.V.ns:=by
  have:∀m,Dd m (λ_=>1)=m:=λm=>by induction m with|zero=>rfl|succ m c=>rw[Dd,c]
  exact this _
 have b:=a.len;have h:=Cj b b;omega
def ADf.size {s:A6} (a:s.T-s.F<=64) {x:Ed} (h:s.ADf x):aL x.b<=16384:=by
 have d:=h.len;have b:=h.j;have c:=h.b;omega
def Inv.sum {s:A6} (j:s.V.O) (u:s.T-s.F<=64) {Q:List Ed} {K:List (Int×Bd)} {e:List Ed} (a:s.Inv n Q K e) (l:LB e<=60):LB Q+n<=25000000000000:=by
 have C:=a.cL;obtain⟨b,B,v,w⟩:∃b:BZ,LB b<=61/\(∀t∈b,(Xh t).length<=16385)/\∀k∈K,∃t∈b,px k.2 t:=by
  have sz:∀{x:Ed},s.ADf x->(Xh x.b).length<=16385:=λh=>by
   have:=h.size u;unfold Xh;rw[A4,List.length_range];omega
  by_cases m:Q=[]
  .refine⟨e.map Ed.b,by simpa using UF l,λt c=>?_,λk d=>?_⟩
   .obtain⟨o,h,rfl⟩:=dP.1 c
    exact sz (a.oo o h)
   .rcases a.a k d with⟨o,h,J,_⟩|⟨_,h,f,_⟩
    .exact⟨_,Gn h,J⟩
    .rw[m] at f;cases f
  .obtain⟨p,q,g⟩:=JK m
   obtain⟨r,y⟩:=HN g;refine⟨p.b::e.map Ed.b,by simpa using l,λt c=>?_,λk d=>?_⟩
   .rcases bZ.1 c with rfl|c
    .exact sz (a.ok p (r.mem_iff.2 Av))
    .obtain⟨o,h,rfl⟩:=dP.1 c
     exact sz (a.oo o h)
   .rcases a.a k d with⟨o,h,J,_⟩|⟨_,h,f,z,J,_⟩
    .exact⟨_,Az _ (Gn h),J⟩
    .rw[M4 r a.b y f z] at J
     exact⟨_,Av,J⟩
 have A:=T2 s.Wk K ((b.flatMap Xh).flatMap λt=>(BG (LB s.V.ns)).map λi:Nat=>((i:Int),t)) a.M λk d=>by
  by_cases h0:k.1<0
  .exact .inl (by unfold Wk;rw[Bi h0])
  .refine .inr (iq.2 ⟨k.2,?_,dP.2 ⟨k.1.toNat,dX.2 ?_,?_⟩⟩)
   .obtain⟨t,c,g⟩:=w k d
    exact iq.2 ⟨t,c,Ahd g⟩
   .exact(a.kn k d).resolve_left h0
   .rw[show((k.1.toNat:Nat):Int)=k.1 by omega]
 rw[tZ] at A;have D:=VJ Xh 16385 b v;have E:LB b*16385<=61*16385:=Ci _ B;have H:(b.flatMap Xh).length*Dd (LB s.V.ns) s.W<=999485*25010000:=Cj G (zA j);have L:=j.len;omega
end A6
end
section
variable {h J h0 h1 H:Y} {v fv nv pv cv ev lv u v':Aa} {xs args vs ys:AH} {n b N i k e r j x m c q d a p t2 st sb mo ck lp rm b0 sz off:Nat} {t:Ai} {f:Au} {fn:BC} {s:Bd} {bs:Bl} {ws:Bo} {W:Nat->Prop} {Q:Aa->Y->Prop} {A:Option BD} {z df day:Int} {ss:BZ} {τ:Bb}
variable{S:A9} {L:Nat} {w rb:Nat} {ox oy:BU} {l:List (Nat×Int)} {o:List Ed} {K:List (Int×Bd)} [aF S L]
def Aah {a b:Bo} (c:k<LB a) (hb:k<LB b):FE (a.drop k) (b.drop k)=if Dx a[k] b[k]=0 then FE (a.drop (k+1)) (b.drop (k+1)) else Dx a[k] b[k]:=by
 rw[Di c,Di hb];rfl
def Aic {a:Bo} (h:k<LB a):(Bn a)[k]?=I (Vi (a[k]:Int)):=by
 unfold Bn;rw[AX,Ab h];rfl
def Rd.int {a:Bo} (r:Rd h (.slice A (LB a) c) 1 (LB a) (Bn a)) (d:k<LB a):∃b,A=I b/\aC h b.block (b.off+k*1) (Vi (a[k]:Int)):=by
 let⟨b,f,e,_,q⟩:=r.at_ G;cases e;exact⟨b,B,by rw[BJ];exact q k _ (Aic d)⟩
def AAv {w:Aa} {a b:Bo} (m:Rd h v 1 (LB a) (Bn a)) (n:Rd h w 1 (LB b) (Bn b)) (y:LB a<=1000000):Bk S L 3 457 [v,w] h λz J=>J=h/\z=Vi (FE a b):=
 Cn f457 λd C D=>by
  obtain⟨o,p,rfl⟩:∃A c,v=.slice A (LB a) c:=by let⟨_,A,c,e,_⟩:=m;exact⟨A,c,e⟩
  obtain⟨t,c1,rfl⟩:∃A c,w=.slice A (LB b) c:=by let⟨_,A,c,e,_⟩:=n;exact⟨A,c,e⟩
  refine⟨λq A r=>∃k:Nat,A=[(0,.slice o (LB a) p),(1,.slice t (LB b) c1),(9,.slice o (LB a) p),(10,Vi (LB a)),(11,Vi k)]/\k<=LB a/\q=LB a-k/\FE (a.drop k) (b.drop k)=FE a b/\(k<=LB b)/\r=h,
   ⟨_,_,Sq,G,0,B,Al _,B,B,Al _,B⟩,?_⟩
  rintro q A r ⟨k,rfl,E,rfl,f,i,rfl⟩ F;apply Bz<;>intro H
  .have j:k<LB a:=G
   obtain⟨K,rfl,u⟩:=m.int j;refine⟨G,_,ld B u,Bz (λs=>?_) (λs=>?_)⟩
   .refine⟨B,?_⟩
    rw[←f,Di j,show b.drop k=[] from Ef G];rfl
   have i:k<LB b:=G;obtain⟨M,rfl,x⟩:=n.int i;refine⟨G,_,ld B x,GZ (Qo d G) ?_⟩;have st:=Aah j i;refine Ad (λg=>?_) (λg=>?_)
   .have g:¬Dx a[k] b[k]=0:=Jq
    rw[Bm g,f] at st;exact⟨B,by rw[st];rfl⟩
   rw[Bi Jq] at st;exact⟨Pq,_,_,Sq,G,k+1,B,G,B,Jq,G,B⟩
  rw[Ef Jq] at f;apply Bz<;>intro s
  .rw[Di Jq] at f
   exact⟨B,by rw[←f];rfl⟩
  rw[Ef Jq] at f;exact⟨B,by rw[←f];rfl⟩
structure IE where
 b:Nat
 c:Aa
 P:Ed
variable{es:List IE}
def IE.cells (e:IE):AH:=[e.c,.int .i64 e.P.c,.int .i64 e.P.a,.string e.P.b,.bool e.P.d]
def IE.pt (e:IE):Value:=AG e.b 0
structure Ix (h:Y) (e:IE):Prop where
 c:∀(i:Nat) v,e.cells[i]?=I v->aC h e.b i v
 n:Rd h e.c 1 (LB e.P.ns) (Bn e.P.ns)
 l:LB e.P.ns<=1000000
def IE.C (e:IE) (i:Nat):Prop:=i=e.b\/BY e.c i
def Ix.O {e:IE} (A:Ix h e) (x:B0 W h J) (a:∀i,e.C i->¬W i):Ix J e:=
 ⟨λi v U=>(A.c i v U).O x (a _ (.inl B)),A.n.O x λi U=>a i (.inr U),A.l⟩
def Ix.C {e:IE} (A:Ix h e) (x:AA h J):Ix J e:=A.O (x.O λ_=>False) λ_ _ h=>h
def Rd.pt (r:Rd h (.slice A n c) 1 n (es.map IE.pt)) {x:IE} (U:es[i]?=I x):i<n/\∃a,A=I a/\aC h a.block (a.off+i*1) x.pt:=by
 have b:(es.map IE.pt).length=n:=by rw[r.1,BJ]
 have d:=(cG.1 U).1;rw[A4] at b;let⟨a,f,e,_,q⟩:=r.at_ G;cases e;exact⟨G,a,B,Jq⟩
def jc (r:Rd h v 1 n (es.map IE.pt)) (C:∀e∈es,Ix h e) {x y:IE} (U:es[i]?=I x) (D:es[j]?=I y):
 iB S L 4 455 [v,Vi i,Vi j] h λw J=>w=.bool (HC x.P y.P):=
 Cn f455 λd E _=>by
  have z:=C x Jq;have p:=C y Jq;obtain⟨F,H,rfl⟩:∃A c,v=.slice A n c:=by obtain⟨_,A,c,e,_⟩:=r;exact⟨A,c,e⟩
  obtain⟨q,K,rfl,s⟩:=r.pt U;obtain⟨t,M,e,u⟩:=r.pt D;cases e;have g:=AT (AA.refl h);have b:∀k:Nat,k<n->0<=(k:Int)/\(k:Int)<n:=λk N=>G;refine⟨[],Kq,b i q,_,ld B s,_,ld B (z.c 2 _ B),b j t,_,ld B u,_,ld B (p.c 2 _ B),Ad (λf=>?_) (λf=>?_)⟩
  .have f:¬x.P.a=y.P.a:=by simpa using f
   exact⟨[],Kq,b i q,_,ld B s,_,ld B (z.c 2 _ B),b j t,_,ld B u,_,ld B (p.c 2 _ B),AA.refl h,by rw[HC,Bm f];rfl⟩
  have f:x.P.a=y.P.a:=Gq;refine⟨[],Kq,b i q,_,ld B s,_,ld B (z.c 0 _ B),b j t,_,ld B u,_,ld B (p.c 0 _ B),_,AAv (h:=h.ad) (show Rd h _ _ _ _ from z.n) (show Rd h _ _ _ _ from p.n) z.l d G,?_⟩;rintro _ _ ⟨rfl,rfl⟩;refine⟨B,Ad (λm=>?_) (λm=>?_)⟩
  .have m:¬FE x.P.ns y.P.ns=0:=by simpa using m
   exact⟨g,by rw[HC,Bi f,Bm m];rfl⟩
  have m:FE x.P.ns y.P.ns=0:=Gq;refine⟨b i q,_,ld B (s.C g),_,ld B ((z.c 4 _ B).C g),_,_,B,Ad (λo=>?_) (λo=>?_)⟩
  .refine⟨b j t,_,ld B (u.C g),_,ld B ((p.c 4 _ B).C g),g,?_⟩
   have o:x.P.d=false:=Gq;rw[HC,Bi f,Bi m,o];rfl
  .have o:x.P.d=true:=by simpa using o
   exact⟨g,by rw[HC,Bi f,Bi m,o];rfl⟩
def jm (o:AS h N 260 1 v n (es.map IE.pt)) {x y:IE} (U:es[i]?=I x) (c:es[j]?=I y):
 Bk S L 1 456 [v,Vi i,Vi j] h λ_ J=>B0 (BY v) h J/\AS J N 260 1 v n ((eB es i j x y).map IE.pt):=
 Cn f456 λd O _=>by
  have r:=o.rd;have P:=(cG.1 c).1;obtain⟨f,⟨rfl,rfl⟩|⟨b,s,sp,rfl,u,w,z,A⟩⟩:=o
  .rw[A4] at f;omega
  rw[A4,BJ] at f;obtain⟨g,Q,e,C⟩:=r.pt U;cases e;obtain⟨l,R,e,D⟩:=r.pt c;cases e;have a:∀k:Nat,k<n->0<=(k:Int)/\(k:Int)<n:=λk m=>G;obtain⟨q,E,F,H⟩:=aQ.st (τ:=Ax) (t:=260) B (show aQ h.ad b 260 _ from A) (i:=i) (v:=y.pt) Jq B;obtain⟨T,K,p,M⟩:=aQ.st (τ:=Ax) (t:=260) B (show aQ (h.M q).ad b 260 _ from F.M (h:=h)) (i:=j) (v:=x.pt) Jq B;refine⟨[],Kq,a j l,_,ld B D,a i g,_,ld B C,a i g,_,Jp E (by show 0+i*1=i;omega),a j l,_,Jp K (by show 0+j*1=j;omega),(H.M.O.trans M.M.O).mono λk m=>m,⟨by rw[A4,Y4];omega,.inr ⟨b,s,sp,B,u,w,?_,?_⟩⟩⟩
  .rw[Aj,A4,Y4,←z,Aj,A4]
  .rw[Hj,Bi Jq,Hj,Bi Jq] at p
   rw[show(eB es i j x y).map IE.pt=((es.map IE.pt).set i y.pt).set j x.pt by unfold eB;rw[Cp,Cp]];exact p.M
def qp (q:Nat):Value:=.iface 264 (AG q 0)
def Vp (h:Y) (q:Nat):No Ax h 264 (AG q 0) "Less"=(match Bw Ax 259 h q 0 with|some r=>I (455,r)|none=>Z):=Kq
def Vu (h:Y) (q:Nat):No Ax h 264 (AG q 0) "Swap"=(match Bw Ax 259 h q 0 with|some r=>I (456,r)|none=>Z):=Kq
def rV (h:Y) (q:Nat):No Ax h 264 (AG q 0) "Len"=(match Bw Ax 259 h q 0 with|some r=>I (454,r)|none=>Z):=Kq
def Axa (h:Y) (q:Nat):No Ax h 264 (AG q 0) "Push"=I (459,AG q 0):=Kq
def ADi (h:Y) (q:Nat):No Ax h 264 (AG q 0) "Pop"=I (458,AG q 0):=Kq
def mV (c:aC h q 0 v):(match Bw Ax 259 h q 0 with|some r=>I (f,r)|none=>Z)=I (f,v):=by
 rw[ld B c]
def Jk (e f:IE):Prop:=Tu e.P f.P
def Ol {a b c:IE} (e:Jk a b) (d:Jk b c):Jk a c:=uX e d
structure HW (h:Y) (N q n:Nat) (v:Aa) (es:List IE):Prop where
 c:aQ h q 259 [v]
 o:AS h N 260 1 v n (es.map IE.pt)
 i:∀e∈es,Ix h e
 a:∀e∈es,∀i,e.C i->¬BY v i/\i≠q
 q:¬BY v q
def HW.len (H:HW h N q n v es):LB es=n:=by
 have:=H.o.1
 rwa [A4,BJ] at this
def HW.mv {b:List IE} (H:HW h N q n v es) (c:B0 (BY v) h J) (o:AS J N 260 1 v n (b.map IE.pt)) (p:b.Perm es):HW J N q n v b:=
 ⟨H.c.O c H.q,o,λe a=>(H.i e (p.mem_iff.1 a)).O c λi U=>(H.a e (p.mem_iff.1 a) i U).1,λe a=>H.a e (p.mem_iff.1 a),H.q⟩
def Lk (j:Nat) (a:j<=26000000000000):Jo Ax .quo 3 ox oy (Vi ((j:Int)-1)) (Vi 2)=I (Vi (((j-1)/2:Nat):Int)):=by
 cases j with
 |zero=>rfl
 |succ j=>
  rw[(G:((j+1:Nat):Int)-1=(j:Int)),rZ ⟨G,Pq⟩];rfl
def wE (H:HW h N q n v es) (u:j<n) (o:eW Jk es j) (Q:n<=26000000000000):
 Bk S L 5 225 [qp q,Vi j] h λ_ J=>B0 (BY v) h J/\∃b:List IE,b.Perm es/\Em Jk n b/\HW J N q n v b:=
 Cn f225 λd R T=>by
  refine⟨λw A g=>∃(j:Nat) (b:List IE),A=[(0,qp q),(1,Vi j)]/\j<n/\j=w/\eW Jk b j/\b.Perm es/\HW g N q n v b/\B0 (BY v) h g,
   ⟨_,_,Sq,G,j,es,B,u,B,o,List.Perm.refl _,H,(AA.refl h).O _⟩,?_⟩
  rintro w A g ⟨j,b,rfl,u,rfl,o,y,e,x⟩ V;have F:=e.len;have r:∀{k:Y},AA g k->(∀a p,0<j->b[j]?=I a->b[(j-1)/2]?=I p->Jk p a)->B0 (BY v) h k/\∃s:List IE,s.Perm es/\Em Jk n s/\HW k N q n v s:=λf K=>
   ⟨x.trans (f.O _),b,y,by have:=o.stop K;rwa [F] at this,e.mv (f.O _) (e.o.C f) (List.Perm.refl _)⟩
  obtain⟨a,l⟩:∃a,b[j]?=I a:=⟨b[j],Ab G⟩;obtain⟨p,m⟩:∃p,b[(j-1)/2]?=I p:=⟨b[(j-1)/2]'G,Ab G⟩;refine⟨Pq,_,Lk j G,Bz (λM=>?_) (λM=>?_)⟩
  .exact r (AA.refl _) λ_ _ h0=>G
  refine⟨_,_,(Vp g q).trans (mV (e.c.cell B)),_,jc e.o.rd e.i l m d G,?_⟩;rintro _ k ⟨f,rfl⟩;refine⟨_,_,B,Ad (λt=>?_) (λt=>?_)⟩
  .refine r f λa' W _ z C=>?_
   rw[l] at z;rw[m] at C;cases z;cases C;show HC a.P p.P=Ah;simpa using t
  refine⟨_,_,(Vu k q).trans (mV ((e.c.C f).cell B)),_,jm (e.o.C f) m l d G,λ_ X ⟨D,O⟩=>?_⟩;have E:=NM m l;exact⟨_,_,Sq,G,(j-1)/2,_,B,G,B,eW.step (le:=Jk) Ol o G m l (PZ (by simpa using t)),E.trans y,e.mv ((f.O _).trans D) O E,x.trans ((f.O _).trans D)⟩
def wD (H:HW h N q n v es) (hm:m<n) (R:KL Jk m es 0) (hn:n<=26000000000000):
 Bk S L 5 226 [qp q,Vi 0,Vi m] h λw J=>(∃b,w=.bool b)/\B0 (BY v) h J/\∃f:List IE,f.Perm es/\Em Jk m f/\f[m]?=es[m]?/\HW J N q n v f:=
 Cn f226 λd af hL=>by
  refine⟨λμ A M=>∃(i:Nat) (f:List IE),A=[(0,qp q),(1,Vi 0),(2,Vi m),(7,Vi i)]/\i<=m/\μ=m-i/\KL Jk m f i/\f.Perm es/\f[m]?=es[m]?/\HW M N q n v f/\B0 (BY v) h M,
   ⟨_,_,Sq,G,0,es,B,G,B,R,List.Perm.refl _,B,H,(AA.refl h).O _⟩,?_⟩
  rintro μ A M ⟨i,f,rfl,U,rfl,R,hp,aa,g,x⟩ ag;have hl:=g.len;have Z:∀{j:Y} (b:Bool),AA M j->(∀(k:Nat) a p,0<k->k<m->(k-1)/2=i->f[k]?=I a->f[i]?=I p->Jk p a)->(∃b',CU b=.bool b')/\B0 (BY v) h j/\∃E:List IE,E.Perm es/\Em Jk m E/\E[m]?=es[m]?/\HW j N q n v E:=λb l hs=>
   ⟨⟨b,B⟩,x.trans (l.O _),f,hp,R.stop hs,aa,g.mv (l.O _) (g.o.C l) (List.Perm.refl _)⟩
  refine⟨Pq,Pq,Bz (λk1=>?_) (λk1=>?_)⟩
  .exact Z _ (AA.refl _) λk _ _ h0 F j=>G
  have W:∀k:Nat,k<n->∃a,f[k]?=I a:=λk hk=>⟨f[k]'G,Ab G⟩;obtain⟨p,s⟩:=W i G;obtain⟨a,z⟩:=W (2*i+1) G;have e1:(2:Int)*(i:Int)+1=((2*i+1:Nat):Int):=G;have X:∀{j C:Y} (c:Nat) (y:IE),AA M j->(c=2*i+1\/c=2*i+2)->c<m->f[c]?=I y->HC y.P p.P=Ag->(∀(k:Nat) u,0<k->k<m->(k-1)/2=i->f[k]?=I u->Jk y u)->B0 (BY v) j C->AS C N 260 1 v n ((eB f i c p y).map IE.pt)->
   ∀{A:As},Sub [(0,qp q),(1,Vi 0),(2,Vi m),(7,Vi c)] A->∃m' A0,Sub A0 A/\m'<m-i/\∃(T:Nat) (E:List IE),A0=[(0,qp q),(1,Vi 0),(2,Vi m),(7,Vi T)]/\T<=m/\m'=m-T/\KL Jk m E T/\E.Perm es/\E[m]?=es[m]?/\HW C N q n v E/\B0 (BY v) h C:=λc y l hc ab hy ad D r o3 A ae=>by
   have p3:=NM s hy;refine⟨m-c,_,ae,G,c,_,B,G,B,KL.step (le:=Jk) Ol R G ab G s hy (PZ ad) D,p3.trans hp,?_,g.mv ((l.O _).trans r) o3 p3,x.trans ((l.O _).trans r)⟩;rw[dH s hy,Bm G,Bm G,aa]
  refine⟨Pq,Bz (λk3=>?_) (λk3=>?_)⟩
  .obtain⟨b,hb⟩:=W (2*i+2) G
   rw[(G:(2:Int)*(i:Int)+1+1=((2*i+2:Nat):Int)),e1];refine⟨_,_,(Vp M q).trans (mV (g.c.cell B)),_,jc g.o.rd g.i hb z d G,?_⟩;rintro _ j ⟨l,rfl⟩;have V:=g.c.C l;refine Ad (λk4=>?_) (λk4=>?_)
   .have D:∀(k:Nat) u,0<k->k<m->(k-1)/2=i->f[k]?=I u->Jk b u:=λk u h0 F j o=>by
     rcases(show k=2*i+1\/k=2*i+2 by omega) with rfl|rfl
     .rw[z] at o;cases o;exact PZ k4
     .rw[hb] at o;cases o;exact Ij _
    refine⟨_,_,(Vp j q).trans (mV (V.cell B)),_,jc (g.o.C l).rd (λe he=>(g.i e he).C l) hb s d G,?_⟩;rintro _ C ⟨r,rfl⟩;refine⟨_,_,B,Ad (λt=>?_) (λt=>?_)⟩
    .refine Z _ (l.trans r) λk u p' h0 F j o K=>?_
     rw[s] at K;cases K;exact Ol (show HC b.P p.P=Ah by simpa using t) (D k u h0 F j o)
    refine⟨_,_,(Vu C q).trans (mV ((V.C r).cell B)),_,jm ((g.o.C l).C r) s hb d G,?_⟩;rintro _ h4 ⟨O,Q⟩;exact X (2*i+2) b (l.trans r) (.inr B) G hb (by simpa using t) D O Q (Sq)
   .have D:∀(k:Nat) u,0<k->k<m->(k-1)/2=i->f[k]?=I u->Jk a u:=λk u h0 F j o=>by
     rcases(show k=2*i+1\/k=2*i+2 by omega) with rfl|rfl
     .rw[z] at o;cases o;exact Ij _
     .rw[hb] at o;cases o;exact k4
    refine⟨_,_,(Vp j q).trans (mV (V.cell B)),_,jc (g.o.C l).rd (λe he=>(g.i e he).C l) z s d G,?_⟩;rintro _ C ⟨r,rfl⟩;refine⟨_,_,B,Ad (λt=>?_) (λt=>?_)⟩
    .refine Z _ (l.trans r) λk u p' h0 F j o K=>?_
     rw[s] at K;cases K;exact Ol (show HC a.P p.P=Ah by simpa using t) (D k u h0 F j o)
    refine⟨_,_,(Vu C q).trans (mV ((V.C r).cell B)),_,jm ((g.o.C l).C r) s z d G,?_⟩;rintro _ h4 ⟨O,Q⟩;exact X (2*i+1) a (l.trans r) (.inl B) G z (by simpa using t) D O Q (Sq)
  .have D:∀(k:Nat) u,0<k->k<m->(k-1)/2=i->f[k]?=I u->Jk a u:=λk u h0 F j o=>by
    obtain rfl:k=2*i+1:=G;rw[z] at o;cases o;exact Ij _
   rw[e1];refine⟨_,_,(Vp M q).trans (mV (g.c.cell B)),_,jc g.o.rd g.i z s d G,?_⟩;rintro _ C ⟨r,rfl⟩;refine⟨_,_,B,Ad (λt=>?_) (λt=>?_)⟩
   .refine Z _ r λk u p' h0 F j o K=>?_
    rw[s] at K;cases K;exact Ol (show HC a.P p.P=Ah by simpa using t) (D k u h0 F j o)
   refine⟨_,_,(Vu C q).trans (mV ((g.c.C r).cell B)),_,jm (g.o.C r) s z d G,?_⟩;rintro _ h4 ⟨O,Q⟩;exact X (2*i+1) a r (.inl B) G z (by simpa using t) D O Q (Sq)
def Ix.M {e:IE} (A:Ix h e):∀i,e.C i->i<h.a:=λi U=>by
 rcases U with rfl|U
 .exact(A.c 0 _ B).1
 .exact A.n.aw i U
def AEg {e:IE} (H:HW h N q n v es) (z:Ix h e) (A:∀i,e.C i->¬BY v i/\i≠q) (C:N<=h.a) (P:n<26000000000000):
 Bk S L 1 459 [AG q 0,.iface 260 e.pt] h λ_ J=>∃y,HW J N q (n+1) y (es++[e])/\B0 (λi=>i=q\/BY v i) h J/\∀i,BY y i->BY v i\/h.a<=i:=
 Cn f459 λd Q _=>by
  have R:=H.c.1;have b:=AA.row h 260 [e.pt];have D:=aQ.row h 260 [e.pt];obtain⟨y,p,T,r,s,E⟩:=rL (τ:=Ax) (st:=259) (t2:=259) (e:=260) (k:=1) Kq (m:=1) (ys:=[e.pt]) (H.o.C b) (x:=sL h.a 1 1) B (by rw[Il D (Ae 1)];rfl) B B (Ao C b.a) xc (.inr ⟨G,Kq⟩);have l:∀i,BY y i->BY v i\/h.a<=i:=λi U=>(E i U).imp id λh=>Ao b.a h;have F:aQ p q 259 [v]:=(H.c.C b).O s H.q;obtain⟨j,K,M,u⟩:=aQ.st (τ:=Ax) (t:=259) B F (i:=0) (v:=y) (HL 0) (D5 r);have w:¬BY y q:=λo=>by
   rcases l q o with I|I
   .exact H.q I
   .omega
  have c:B0 (λi=>i=q\/BY v i) h j:=((b.O _).trans (s.mono λi U=>.inr U)).trans (u.O.mono λi U=>.inl U);have g:∀f∈es++[e],Ix h f/\∀i,f.C i->¬BY v i/\i≠q:=λf a=>by
   rcases dF.1 a with a|a
   .exact⟨H.i f a,H.a f a⟩
   .rw[bQ.1 a];exact⟨z,A⟩
  refine⟨_,_,B,_,ld B (H.c.cell (i:=0) B),_,_,i3 259 260 1 e.pt h,_,_,T,_,K,y,⟨M,?_,λf a=>(g f a).1.O c λi U O=>?_,λf a i U=>⟨λo=>?_,((g f a).2 i U).2⟩,w⟩,c,l⟩
  .rw[BS]
   exact r.ah u λi U=>λe=>w (e▸U)
  .have:=(g f a).2 i U
   exact O.elim this.2 this.1
  .have I:=(g f a).2 i U
   have p:=(g f a).1.M i U;rcases l i o with j|j
   .exact I.1 j
   .omega
def wb (b n c m:Nat) (a:z=(m:Int)) (d:m<=c):C7 Ax 259 (sL b n c) Z (I (Vi z)) Z=I (.slice (I ⟨b,0+0*1,Z⟩) (m-0) (c-0)):=by
 subst a;show(bif Ar 0 m&&Ar m c then I (PA (I ⟨b,0+0*1,Z⟩) (m-0) (c-0)) else Z)=_
 rw[Aq d];rfl
def zi {x:IE} (H:HW h N q (n+1) v (es++[x])) (A:n<26000000000000):
 Bk S L 1 458 [AG q 0] h λw J=>w=.iface 260 x.pt/\∃l,HW J N q n l es/\B0 (λi=>i=q\/BY v i) h J/\∀i,BY l i->BY v i:=
 Cn f458 λd C _=>by
  have m:=H.len;rw[Aj,Br] at m;obtain⟨b,c,rfl⟩:=H.o.lit G;obtain⟨_,D,e,o⟩:=H.o.rd.pt (i:=n) (x:=x) (by rw[Bq G,show n-LB es=0 by omega];rfl);cases e;obtain⟨p,r,s,g⟩:=aQ.st (τ:=Ax) (t:=259) B H.c (i:=0) (v:=.slice (I ⟨b,0+0*1,Z⟩) (n-0) (c-0)) (HL 0) B;have j:B0 (λi=>i=q\/BY (sL b (n+1) c) i) h p:=g.O.mono λi U=>.inl U;obtain⟨E,⟨h0,_⟩|⟨F,K,sp,e,u,M,y,P⟩⟩:=H.o
  .cases h0
  cases e;refine⟨_,ld B (H.c.cell (i:=0) B),Pq,G,_,Dz (ld B o) (by show 0+(((n+1:Nat):Int)-1).toNat*1=0+n*1;omega),Pq,_,_,Cs (CN _) (wb b (n+1) c n G G),_,r,B,_,⟨s,⟨by rw[A4];omega,.inr ⟨b,c,x.pt::sp,B,u,G,?_,?_⟩⟩,λf a=>(H.i f (DW _ a)).O j λi U z=>?_,λf a=>H.a f (DW _ a),H.q⟩,j,λi U=>U⟩
  .rw[←y];simp
  .have k:=P.ah g (i:=q) (λe=>H.q e.symm)
   rw[BS,KA] at k;exact k
  .have:=H.a f (DW _ a) i U
   exact z.elim this.2 this.1
def pE {e:IE} (H:HW h N q n v es) (j:Em Jk n es) (k:Ix h e) (m:∀i,e.C i->¬BY v i/\i≠q) (o:N<=h.a) (p:n<26000000000000):
 Bk S L 6 141 [qp q,.iface 260 e.pt] h λ_ J=>∃(b:Aa) (a:List IE),HW J N q (n+1) b a/\a.Perm (e::es)/\Em Jk (n+1) a/\B0 (λi=>i=q\/BY v i) h J/\∀i,BY b i->BY v i\/h.a<=i:=
 Cn f141 λd x _=>by
  have g:=H.len;refine⟨_,_,Axa h q,_,AEg H k m o p d G,?_⟩;rintro _ A ⟨b,f,c1,z⟩;refine⟨_,_,(rV A q).trans (mV (f.c.cell (i:=0) B)),_,sZ f.o.rd d G,?_⟩;rintro _ _ ⟨rfl,rfl⟩;have r:eW Jk (es++[e]) n:=by
   have:=eW.start (le:=Jk) (l:=es) (by rw[g];exact j) e
   rwa [g] at this
  refine⟨Pq,_,(show Bk S L 5 225 [qp q,Vi (((n+1:Nat):Int)-1)] _ _ from by
   rw[show((n+1:Nat):Int)-1=(n:Int) by omega];exact wE f G r G) d G,?_⟩
  rintro _ y ⟨s,a,t,u,w⟩;exact⟨b,a,w,t.trans (Gm _ _),u,c1.then s λi U=>(z i U).imp .inr id,z⟩
def xi (H:HW h N q (n+1) v es) (o:Em Jk (n+1) es) (E:n<26000000000000):
 Bk S L 6 144 [qp q] h λw J=>∃(x:IE) (f:Aa) (m:List IE),w=.iface 260 x.pt/\es.Perm (x::m)/\(∀y∈es,Jk x y)/\Em Jk n m/\HW J N q n f m/\B0 (λi=>i=q\/BY v i) h J/\∀i,BY f i->BY v i:=
 Cn f144 λd aa _=>by
  have Z:=H.len;obtain⟨x,g⟩:∃x,es[0]?=I x:=⟨es[0]'G,Ab G⟩;obtain⟨y,j⟩:∃y,es[n]?=I y:=⟨es[n]'G,Ab G⟩;refine⟨_,_,(rV h q).trans (mV (H.c.cell (i:=0) B)),_,sZ H.o.rd d G,?_⟩;rintro _ _ ⟨rfl,rfl⟩;have r:((n+1:Nat):Int)-1=(n:Int):=G;refine⟨Pq,_,_,(Vu _ q).trans (mV (H.c.cell (i:=0) B)),_,(show Bk S L 1 456 [v,Vi ((0:Nat):Int),Vi (((n+1:Nat):Int)-1)] _ _ from by rw[r];exact jm H.o g j) d G,?_⟩;rintro _ h1 ⟨c1,F⟩;have s:=NM g j;have K:=H.mv c1 F s;refine⟨_,(show Bk S L 5 226 [qp q,Vi 0,Vi (((n+1:Nat):Int)-1)] _ _ from by rw[r];exact wD K G (KL.start o g j) G) d G,?_⟩;rintro _ M ⟨⟨b,rfl⟩,O,es2,P,Q,t,u⟩;rw[dH g j,Bi B] at t;have ab:=u.len;have A:es2=es2.take n++[x]:=by
   obtain⟨R,e⟩:=cG.1 t;rw[←e,←A5 R,Bj G]
  refine⟨_,_,ADi M q,_,zi (es:=es2.take n) (x:=x) (by rw[←A];exact u) E d G,?_⟩;rintro _ h3 ⟨rfl,f,T,Y,V⟩;refine⟨x,f,es2.take n,B,?_,λz W=>?_,λk a p X l C D=>?_,T,((c1.trans O).mono λi U=>.inr U).trans Y,V⟩
  .refine(P.trans s).symm.trans ?_
   have:=Gm x (es2.take n)
   rwa [←A] at this
  .obtain⟨k,l,e⟩:=N2 W
   exact Em.root (le:=Jk) (λa=>Ij _) Ol o g k z G (e▸Ab l)
  .rw[LS,Bi l] at C
   rw[LS,Bi G] at D;exact Q k a p X l C D
def P5 (s:A6) (c:Nat) (b:Aa) (a:Nat):AH:=[AG c 0,b,.int .i64 s.F,.int .i64 s.T,.int .i64 s.j,.map (I a)]
structure Jm (h:Y) (x:Nat) (s:A6) (lp:Nat) (nv:Aa) (rm:Nat):Prop where
 c:∀(i:Nat) v,(P5 s lp nv rm)[i]?=I v->aC h x i v
 A:EI h lp s.V
 n:Rd h nv 7 (LB s.V.ns) (s.V.ns.flatMap Bt)
def Jm.C {s:A6} (X:Jm h x s lp nv rm) (e:AA h J):Jm J x s lp nv rm:=
 ⟨λi v U=>(X.c i v U).C e,X.A.C e,X.n.C e⟩
def Jm.M {s:A6} (X:Jm h x s lp (.slice A n c) rm) (b:j<LB s.V.ns):n=LB s.V.ns/\∃a,A=I a/\∀(i:Nat) v,(Bt (s.C j))[i]?=I v->aC h a.block (a.off+j*7+i) v:=by
 obtain⟨a,w,e,_,q⟩:=X.n.el b;cases e;rw[flatK (f:=Bt) (λ_=>B) s.V.ns (Ab b)] at q;have:s.C j=s.V.ns[j]:=by unfold A6.C Cb.C;rw[Ak,Ab b];rfl
 rw[←this] at q;exact⟨B,a,B,λi v U=>q.at U⟩
def Jm.dq {s:A6} {a:BD} (X:Jm h x s lp (.slice (I a) n c) rm) (b:j<LB s.V.ns):BK h a.block (a.off+j*7) (Bt (s.C j)):=by
 obtain⟨a,w,e,_,q⟩:=X.n.el b;cases e;rw[flatK (f:=Bt) (λ_=>B) s.V.ns (Ab b)] at q;have:s.C j=s.V.ns[j]:=by unfold A6.C Cb.C;rw[Ak,Ab b];rfl
 rw[←this] at q;exact q
def Jm.lit {s:A6} (X:Jm h x s lp nv rm):∃A c,nv=.slice A (LB s.V.ns) c:=by
 let⟨_,A,c,e,_⟩:=X.n;exact⟨A,c,e⟩
def lE {s:A6} {p:Int} (X:Jm h x s lp nv rm) (b:s.V.O) (a:Bo->Nat->Y->Prop) (P:∀D N H,a D N H->Jm H x s lp nv rm) (h0:∀H,AA h H->a [] H.a H)
 (Q:∃g first cap,fv=.func (.func g) first cap/\∀D N H (j:Nat),a D N H->j∈s.kids p->D++[j]<+:s.kids p->Bk S L e g (aI first++[Vi (j:Int)]++aI cap) H λ_ z=>a (D++[j]) N z/\B0 (λi=>i<h.a\/N<=i) H z):
 Bk S L (e+3) 142 [AG x 0,Vi p,fv] h λ_ J=>∃N,a (s.kids p) N J:=
 Cn f142 λd ad hL=>by
  obtain⟨g,first,cap,rfl,R⟩:=Q
  obtain⟨ae,c2,rfl⟩:=X.lit;refine⟨_,ld B (X.c 0 _ B),_,jB X.A b d G,λw y ⟨W,o⟩=>?_⟩;have r:=o.rd;have C:=o.ai;have E:=o.aw;have aa:=Cb.aY b p;have af:=b.len;obtain⟨F,K,rfl⟩:∃A c,w=.slice A (s.V.from_ p).length c:=by let⟨_,A,c,e,_⟩:=r;exact⟨A,c,e⟩
  generalize M:s.V.from_ p=l at o r aa C E;have hk:s.kids p=l.filter λj=>decide ((s.C j).t<=s.T):=by unfold A6.kids;rw[M]
  refine⟨λO A m=>∃k:Nat,A=[(0,AG x 0),(2,.func (.func g) first cap),(13,.slice F (LB l) K),(14,Vi (LB l)),(15,Vi k)]/\k<=LB l/\O=LB l-k/\a ((l.take k).filter λj=>decide ((s.C j).t<=s.T)) y.a m/\Rd m (.slice F (LB l) K) 1 (LB l) (Bn l),
   ⟨_,_,Sq,G,0,B,Al _,B,h0 y W,r⟩,?_⟩
  rintro O A m ⟨k,rfl,ag,rfl,j,n⟩ ah;apply Bz<;>intro k1;rotate_left
  .rw[Bj G,←hk] at j
   exact⟨_,j⟩
  have q:k<LB l:=G;obtain⟨ai,rfl,Z⟩:=n.int q;have u:=P _ _ _ j;obtain⟨f1,f2⟩:=A6.bJ b (by rw[M];exact Bu q:l[k]∈s.V.from_ p);obtain⟨_,a2,rfl,I⟩:=u.M f1;have st:(l.take (k+1)).filter (λj=>decide ((s.C j).t<=s.T))=(l.take k).filter (λj=>decide ((s.C j).t<=s.T))++if(s.C l[k]).t<=s.T then[l[k]] else[]:=by
   rw[A5 q,O6];congr 1;by_cases f:(s.C l[k]).t<=s.T
   .rw[Bi f,W8 Jq];rfl
   .rw[Bm f,W9 Jq];rfl
  refine⟨G,_,ld B Z,[],Kq,_,ld B (u.c 1 _ B),G,_,Dz (ld B (I 1 _ B)) Jq,_,ld B (u.c 3 _ B),Bz (λv=>?_) (λv=>?_)⟩
  .rw[Bi v] at st
   refine⟨_,R _ _ _ _ j Jq Jq d G,λ_ h2 ⟨j2,ab⟩=>⟨Pq,_,_,Sq,G,k+1,B,G,B,Jq,n.O ab λi U hw=>by
    have:=C i U;have:=E i U;omega⟩⟩
  .rw[Bm v,Fb] at st
   exact⟨Pq,_,_,Sq,G,k+1,B,G,B,Jq,n⟩
def Hs:List (Nat×Int)->Nat->Option Int
 |[],_=>Z
 |p::l,k=>if p.1=k then I p.2 else Hs l k
def U1 (k:Nat) (z:Int):List (Nat×Int)->List (Nat×Int)
 |[]=>[(k,z)]
 |p::l=>if p.1=k then(k,z)::l else p::U1 k z l
def TP (k:Nat) (z:Int) (j:Nat):∀l,Hs (U1 k z l) j=if j=k then I z else Hs l j
 |[]=>by
  rw[U1,Hs,Hs];by_cases h:j=k
  .rw[Bi h.symm,Bi h]
  .rw[Bm (λe=>h e.symm),Bm h];rfl
 |p::l=>by
  rw[U1];split
  .rename_i a
   rw[Hs,Hs];by_cases h:j=k
   .rw[Bi h.symm,Bi h]
   .rw[Bm (λe=>h e.symm),Bm h,Bm G]
  .rename_i a
   rw[Hs,Hs,TP k z j l];by_cases h:j=k
   .rw[Bm G,Bi h,Bi h]
   .rw[Bm h,Bm h]
def FG (h:Y) (r:Nat) (l:List (Nat×Int)):Prop:=r<h.a/\∃es b,h.t.get r=I (.map es b)/\es.map (λe:Ap=>(e.key,e.val))=l.map λp=>(AL .i64 (p.1),AL .i64 p.2)
def FG.O (m:FG h r l) (c:B0 W h J) (a:¬W r):FG J r l:=⟨AC m.1 c.a,c.t r m.1 a▸m.2⟩
def FG.C (m:FG h r l) (c:AA h J):FG J r l:=m.O (c.O λ_=>False) λh=>h
def FG.M (m:FG J r l):FG (h.M J) r l:=by
 unfold FG;rw[CL,DF];exact m
def oR (k:Nat) (z:Int):∀(es:List Ap) (l:List (Nat×Int)) (i m:Nat),es.map (λe:Ap=>(e.key,e.val))=l.map (λp=>(Vi (p.1:Int),Vi p.2))->
 (CE Ax 3 (Vi k) es i=I Z/\Hs l k=Z/\(es++[({key:=Vi k,val:=Vi z,born:=m}:Ap)]).map (λe:Ap=>(e.key,e.val))=(U1 k z l).map λp=>(Vi (p.1:Int),Vi p.2))\/
 ∃j e y,CE Ax 3 (Vi k) es i=I (I (i+j,e))/\e.val=Vi y/\Hs l k=I y/\Cy e.key (Vi k)=Ag/\(Cu es j λe=>{e with key:=Vi k,val:=Vi z}).map (λe:Ap=>(e.key,e.val))=(U1 k z l).map λp=>(Vi (p.1:Int),Vi p.2)
 |[],[],i,m,_=>.inl ⟨B,B,B⟩
 |[],_::_,_,_,h=>by cases h
 |_::_,[],_,_,h=>by cases h
 |
  e::es,p::l,i,m,h=>by
  simp only[Bp,eV.injEq,eD.injEq] at h;obtain⟨⟨g,b⟩,c⟩:=h;have d:IZ Ax Op.maxDepth 3 (Vi (k:Int)) (Vi (p.1:Int))=I ((k:Int)==(p.1:Int)):=B;rw[CE,g,d,U1,Hs];by_cases a:p.1=k
  .rw[show((k:Int)==(p.1:Int))=Ag by simp[a],Bi a,Bi a]
   refine .inr ⟨0,e,p.2,B,b,B,?_,?_⟩
   .rw[g,a];show(Ag&&decide ((k:Int)=k))=Ag;simp
   .simp[Cu,c]
  .rw[show((k:Int)==(p.1:Int))=Ah by simp;omega,Bm a,Bm a]
   rcases oR k z es l (i+1) m c with⟨o,t,n⟩|⟨j,f,y,o,n,s,r,q⟩
   .refine .inl ⟨o,t,?_⟩
    simp only[KB,Bp,g,b,n]
   .refine .inr ⟨j+1,f,y,by rw[show i+(j+1)=i+1+j by omega];exact o,n,s,r,?_⟩
    simp only[Cu,Bp,g,b,q]
def YO (m:FG h r l) (k:Nat):BW Ax 255 (.map (I r)) (Vi k) Ag h=I (.tuple #[Vi ((Hs l k).getD 0),.bool (Hs l k).isSome]):=by
 let⟨_,es,ck,h1,c⟩:=m;have a:Ax.ds.get 255=I (.map 3 3):=B
 have d:CP Ax 3=I (Vi 0):=Kq;have b:Do Ax 5 3 (Vi k)=Ag:=B
 unfold BW;rcases oR k 0 es l 0 0 c with⟨g,f,_⟩|⟨j,e,y,g,f,i,_⟩
 .simp only[a,b,D1,h1,g,d,f];rfl
 .simp only[a,b,D1,h1,g,f,i];rfl
def ut (m:FG h r l) (k:Nat) (z:Int):∃J,BH Ax 255 (.map (I r)) (Vi k) (Vi z) h=I J/\FG J r (U1 k z l)/\Er r h J:=by
 let⟨a,es,ck,h1,d⟩:=m;have b:Ax.ds.get 255=I (.map 3 3):=B
 have c:Do Ax 5 3 (Vi k)=Ag:=B
 unfold BH;rcases oR k z es l 0 ck d with⟨f,_,i⟩|⟨j,e,y,f,_,_,n,g⟩
 .refine⟨h.put r (.map (es++[({key:=Vi k,val:=Vi z,born:=ck})]) (ck+1)),Jq,⟨Jq,_,_,by rw[BQ,Bi B],i⟩,Er.put _ _ _⟩
 .rw[Ba] at f
  exact⟨h.put r (.map (Cu es j λe=>{e with key:=Vi k,val:=Vi z}) ck),Jq,⟨Jq,_,_,by rw[BQ,Bi B],g⟩,Er.put _ _ _⟩
def Lp (l:List (Nat×Int)):Prop:=∀k z,Hs l k=I z->-5000000<=z/\z<=5000000
def wG {y:Nat} {s:A6} (o:aC h w 0 (AG x 0)) (z:aC h y 0 (Vi i)) (X:Jm h x s lp nv rm) (p:s.V.O) (M:FG h rm l) (F:Lp l) (q:j<LB s.V.ns):
 Bk S L 6 224 [Vi j,AG w 0,AG y 0] h λ_ J=>∃l',FG J rm l'/\B0 (·=rm) h J/\∀k,Hs l' k=if k=i then s.O (Hs l) i (Hs l i) j else Hs l k:=
 Cn f224 λd Q R=>by
  obtain⟨T,W,rfl⟩:=X.lit;obtain⟨_,H,rfl,q2⟩:=X.M q;have aa:=AT (AA.refl h);refine⟨_,ld B o,_,ld B (X.c 5 _ B),_,_,Cs (CN _) (YO M j),?_⟩;cases r:Hs l j with
  |
   none=>
   refine⟨_,_,B,l,M,(AA.refl h).O _,λk=>?_⟩;have:s.O (Hs l) i (Hs l i) j=Hs l i:=by unfold A6.O;rw[r]
   rw[this];split
   .rename_i e;rw[e]
   .rfl
  |
   some m=>
   have hm:=F j m r;have he:=Cb.aR p X.A i j;have hc:=(p.inv.ok _ (A6.mem (s:=s) q)).2.2.1;refine⟨_,_,B,[],Kq,_,ld B o,_,ld B (X.c 0 _ B),_,ld B z,_,jD (h:=h.ad) (X.A.C (AA.ad h)) p d G,?_⟩;rintro _ b ⟨a,rfl⟩;refine⟨a.C,?_⟩;have a:AA h (h.M b):=a.M;have g:=X.C a;obtain⟨_,a3,K,N⟩:=g.M q;cases K;have t:=M.C a;have n:=o.C a;have u:=z.C a;refine⟨_,ld B n,_,ld B (g.c 1 _ B),G,_,Dz (ld B (N 5 _ B)) (by show H.off+((j:Nat):Int).toNat*7+5=_;omega),Pq,⟨by show _<=s.V.aW i j+(s.C j).c+m;omega,by show s.V.aW i j+(s.C j).c+m<=_;omega⟩,?_⟩;refine⟨[],Kq,_,ld B n,_,ld B (g.c 5 _ B),_,ld B u,_,_,Cs (CN _) (YO (h:=(h.M b).ad) (show FG (h.M b) rm l from t) i),?_⟩;obtain⟨C,O,D,P⟩:=ut (h:=(h.M b).ad) (show FG (h.M b) rm l from t) i (s.via i j+m);have E:Nb (BH Ax 255 (.map (I rm)) (Vi i) (Vi (s.V.aW i j+(s.C j).c+m)) (h.M b).ad)=I (.tuple #[],C):=Cs Nb O;have c4:B0 (·=rm) h ((h.M b).M C):=(a.O _).trans P.M.O;have st:s.O (Hs l) i (Hs l i) j=match Hs l i with|none=>I (s.via i j+m)|some old=>if s.via i j+m<old then I (s.via i j+m) else I old:=by unfold A6.O;rw[r]
   cases U:Hs l i with
   |
    none=>
    rw[U] at st;have st:s.O (Hs l) i Z j=I (s.via i j+m):=st;exact⟨_,_,B,[],Kq,_,ld B n,_,ld B (g.c 5 _ B),_,ld B u,_,_,E,_,D.M,c4,λk=>by rw[TP,st]⟩
   |
    some old=>
    rw[U] at st;have st:s.O (Hs l) i (I old) j=(if s.via i j+m<old then I (s.via i j+m) else I old):=st
    refine⟨_,_,B,Ad (λf=>?_) (λf=>?_)⟩
    .have f:s.via i j+m<old:=Fp f
     rw[Bi f] at st;exact⟨[],Kq,_,ld B n,_,ld B (g.c 5 _ B),_,ld B u,_,_,E,_,D.M,c4,λk=>by rw[TP,st]⟩
    .have f:¬s.via i j+m<old:=KK f
     rw[Bm f] at st;refine⟨l,t,a.O _,λk=>?_⟩;rw[st];split
     .rename_i e;rw[e,U]
     .rfl
def A6.M {s:A6} {i a:Nat} (h:(s.C i).t=s.T-a):∀t,t<=a->s.R t i=Z
 |0,_=>rfl
 |t+1,b=>by rw[A6.R,Bm G];exact A6.M h t G
structure jU (h0:Y) (s:A6) (lp:Nat) (nv:Aa) (rm:Nat):Prop where
 ok:s.V.O
 A:EI h0 lp s.V
 n:Rd h0 nv 7 (LB s.V.ns) (s.V.ns.flatMap Bt)
 rm:h0.a<=rm
 F:0<=s.F/\s.F<s.T/\s.T<=LB s.V.fs
def jU.at_ {a:Y} {s:A6} (b:jU h0 s lp nv rm) (e:AA h0 h) (c:B0 W h a) (d:∀i,W i->h0.a<=i) (f:¬W x) (g:∀(i:Nat) v,(P5 s lp nv rm)[i]?=I v->aC h x i v):Jm a x s lp nv rm:=
 have E:=e.then c d
 ⟨λi v U=>(g i v U).O c f,b.A.C E,b.n.C E⟩
def xk {s:A6} (b:jU h0 s lp nv rm) (e0:AA h0 h) (hx:x≠rm) (cx:∀(i:Nat) v,(P5 s lp nv rm)[i]?=I v->aC h x i v) (M:FG h rm []):
 Bk S L 11 139 [AG x 0] h λ_ J=>B0 (·=rm) h J/\∃l,FG J rm l/\∀k,Hs l k=s.rest k:=
 Cn f139 λd a7 hL=>by
  have w:=b.ok;have hF:=b.F;have hN:=w.N;have a8:=w.len;have aq:=b.rm;obtain⟨g1,y1,W⟩:=(aH.nil h).box Ax 254 (AG x 0);have o1:aQ g1 h.a 254 [AG x 0]:=W.dD 0 B;obtain⟨g,ar⟩:∃g,g=h.a:=⟨_,B⟩;rw[←ar] at o1 y1;have a9:rm<h.a:=M.1;have ae:g≠rm:=G;have P:∀{E:Y},B0 (·=rm) h E->Jm E x s lp nv rm:=λc=>b.at_ e0 c (λi U=>by rw[show i=rm from U];exact aq) hx cx;have n:aC g1 g 0 (AG x 0):=o1.cell (i:=0) B;have af:=P (W.e.O _);obtain⟨au,c2,rfl⟩:=af.lit;refine⟨_,_,y1,_,ld B n,_,ld B (af.c 3 _ B),?_⟩;refine⟨λμ A E=>∃(t:Nat) (l:List (Nat×Int)),A=[(1,AG g 0),(2,Vi (s.T-t))]/\t<=(s.T-s.F).toNat/\μ=(s.T-s.F).toNat-t/\FG E rm l/\(∀k,Hs l k=s.R t k)/\B0 (·=rm) h E/\aC E g 0 (AG x 0),
   ⟨_,_,Sq,G,0,[],B,Al _,B,M.C W.e,λ_=>B,W.e.O _,n⟩,?_⟩
  clear M y1 W o1 af n;rintro μ A E ⟨t,l,rfl,ht,rfl,M,p,c,n⟩ aj;have X:=P c;refine⟨_,ld B n,_,ld B (X.c 2 _ B),Bz (λk1=>?_) (λk1=>?_)⟩;rotate_left
  .refine⟨c,l,M,λk=>?_⟩
   rw[p,show t=(s.T-s.F).toNat by omega];rfl
  have rs:∀i,s.R (t+1) i=if i<LB s.V.ns/\(s.C i).t=s.T-t/\s.F<=(s.C i).f then(if t=0 then I (s.V.leave i s.j) else(s.kids (s.T-t)).foldl (s.O (s.R t) i) Z) else s.R t i:=λi=>by rw[A6.R]
  refine⟨_,ld B n,_,ld B (X.c 1 _ B),?_⟩;refine⟨λμ A a=>∃(i:Nat) (l:List (Nat×Int)),A=[(1,AG g 0),(2,Vi (s.T-t)),(22,.slice au (LB s.V.ns) c2),(23,Vi (LB s.V.ns)),(24,Vi i)]/\i<=LB s.V.ns/\μ=LB s.V.ns-i/\FG a rm l/\(∀k,Hs l k=if k<i then s.R (t+1) k else s.R t k)/\B0 (·=rm) h a/\aC a g 0 (AG x 0),
   ⟨_,_,Sq,G,0,l,B,Al _,B,M,λk=>by rw[p,Bm G],c,n⟩,?_⟩
  clear M p c n X aj;rintro μ A a ⟨i,l,rfl,U,rfl,M,p,c,n⟩ aj;apply Bz<;>intro k2;rotate_left
  .refine⟨Pq,_,_,Sq,G,t+1,l,B,G,B,M,λk=>?_,c,n⟩
   rw[p];split
   .rfl
   .rw[rs,Bm G]
  have ag:i<LB s.V.ns:=G;have X:=P c;obtain⟨_,Q,rfl,q2⟩:=X.M ag;have av:Bw Ax 109 a Q.block (Q.off+(i:Int).toNat*7)=I (.agg ⟨Bt (s.C i)⟩):=EQ (k:=7) Kq (show BK a Q.block (Q.off+(i:Int).toNat*7) (Bt (s.C i)) from X.dq ag) B;have go:∀{y:Y} (l':List (Nat×Int)),FG y rm l'->(∀k,Hs l' k=if k<i+1 then s.R (t+1) k else s.R t k)->B0 (·=rm) h y->aC y g 0 (AG x 0)->∀{A:As},Sub [(1,AG g 0),(2,Vi (s.T-t)),(22,.slice (I Q) (LB s.V.ns) c2),(23,Vi (LB s.V.ns)),(24,Vi ((i+1:Nat):Int))] A->
   ∃m' A0,Sub A0 A/\m'<LB s.V.ns-i/\∃(i:Nat) (l:List (Nat×Int)),A0=[(1,AG g 0),(2,Vi (s.T-t)),(22,.slice (I Q) (LB s.V.ns) c2),(23,Vi (LB s.V.ns)),(24,Vi i)]/\i<=LB s.V.ns/\m'=LB s.V.ns-i/\FG y rm l/\(∀k,Hs l k=if k<i then s.R (t+1) k else s.R t k)/\B0 (·=rm) h y/\aC y g 0 (AG x 0):=
   λl' M p c n A aw=>⟨_,_,aw,(show LB s.V.ns-(i+1)<LB s.V.ns-i by omega),i+1,l',B,G,B,M,p,c,n⟩
  have ak:s.R (t+1) i=s.R t i->∀k,Hs l k=if k<i+1 then s.R (t+1) k else s.R t k:=λe k=>by
   rw[p];by_cases h1:k<i
   .rw[Bi h1,Bi G]
   .by_cases a:k=i
    .subst a;rw[Bm h1,Bi G,e]
    .rw[Bm h1,Bm G]
  obtain⟨g3,y3,s3⟩:=(aH.nil a).O (τ:=Ax) (t:=3) (z:=Vi 0) Kq;obtain⟨g4,y4,s4⟩:=s3.O (τ:=Ax) (t:=109) (z:=.agg ⟨Bt DS⟩) Kq;obtain⟨g5,y5,s5⟩:=s4.sT 3 1 0 (Vi i) B (HL 0) B;obtain⟨r,u6,o6,x6⟩:=aQ.bD (τ:=Ax) (t:=109) (k:=7) Kq (s5.dD 0 B) (i:=0) (vs:=Bt (s.C i)) B (by show 0+7<=7;decide) B;have s6:=s5.ah 0 (a':=aO g3.a 109 (Bt (s.C i))) B x6.O o6 λx hx=>.inl hx;obtain⟨ib,al⟩:∃ib,ib=a.a:=⟨_,B⟩;obtain⟨nb,am⟩:∃nb,nb=g3.a:=⟨_,B⟩;have ci:aC r ib 0 (Vi i):=by rw[al];exact(s6.dD 1 B).cell (i:=0) B
  have cn:∀(k:Nat) v,(Bt (s.C i))[k]?=I v->aC r nb k v:=λk v hk=>by rw[am];exact(s6.dD 0 B).cell hk
  have ax:ib≠rm:=by have:=M.1;omega
  rw[←al] at y3 y5;rw[←am] at y4 u6;have x6:AA a r:=s6.e;clear s6 s5 s4 s3 o6;have aa:=M.C x6;have K:=c.trans (x6.O _);have q:=n.C x6;have u:=P K;refine⟨G,_,av,_,_,y3 _,_,_,y4 _,_,y5,_,u6,[],Kq,_,ld B (cn 1 _ B),Ad (λC=>?_) (λC=>?_)⟩
  .have C:¬(s.C i).t=s.T-t:=by simpa using C
   exact⟨Pq,go l aa (ak (by rw[rs,Bm (λh=>C h.2.1)])) K q (Sq)⟩
  have C:(s.C i).t=s.T-t:=by simpa using C
  refine⟨_,ld B (cn 0 _ B),_,ld B q,_,ld B (u.c 2 _ B),Bz (λk4=>?_) (λk4=>?_)⟩
  .exact⟨Pq,go l aa (ak (by rw[rs,Bm G])) K q (Sq)⟩
  have ri:=rs i;rw[Bi ⟨ag,C,G⟩] at ri;have done:∀{l':List (Nat×Int)} {z:Option Int},(∀k,Hs l' k=if k=i then z else Hs l k)->z=s.R (t+1) i->∀k,Hs l' k=if k<i+1 then s.R (t+1) k else s.R t k:=λh1 a k=>by
   rw[h1,p];by_cases e:k=i
   .subst e;rw[Bi B,Bi G,a]
   .rw[Bm e]
    by_cases e1:k<i
    .rw[Bi e1,Bi G]
    .rw[Bm e1,Bm G]
  refine⟨_,ld B q,_,ld B (u.c 3 _ B),Bz (λk5=>?_) (λk5=>?_)⟩
  .rw[Bi G] at ri
   refine⟨[],Kq,_,ld B q,_,ld B (u.c 5 _ B),_,ld B ci,_,ld B q,_,ld B (u.c 0 _ B),_,ld B ci,_,ld B q,_,ld B (u.c 4 _ B),_,lA (h:=r.ad) (u.A.C (AA.ad r)) d G,?_⟩;rintro _ h7 ⟨x7,rfl⟩;have ah:AA r (r.M h7):=x7.M;obtain⟨h8,u8,m8,x8⟩:=ut (h:=(r.M h7).ad) (show FG (r.M h7) rm l from aa.C ah) i (s.V.leave i s.j);refine⟨x7.C,_,_,Cs Nb u8,Pq,go _ m8.M (done (λk=>TP _ _ k l) ri.symm) ((K.trans (ah.O _)).trans x8.M.O) ((q.C ah).ah x8.M ae) (Sq)⟩
  .have ay:t≠0:=λe=>k5 G
   rw[Bm ay] at ri;have az:Hs l i=none:=by rw[p,Bm G];exact A6.M C t (Ae _)
   have an:∀j,j∈s.kids (s.T-t)->j<LB s.V.ns/\j≠i/\Hs l j=s.R t j:=λj hj=>by
    obtain⟨h1,a,y,h4⟩:=A6.cj w hj;have a0:j≠i:=λe=>by rw[e] at y;omega
    refine⟨h1,a0,?_⟩;rw[p];split
    .rw[rs,Bm G]
    .rfl
   have a1:∀k,Hs l k=if k=i then([]:Bo).foldl (s.O (s.R t) i) Z else Hs l k:=λk=>by
    split
    .rename_i e;rw[e,az];rfl
    .rfl
   have ao:=λk z=>A6.a9 w u.A t k z;refine⟨_,ld B q,_,lE (e:=6) u w (λD N H=>(∀j∈D,j∈s.kids (s.T-t))/\B0 (·=rm) r H/\∃l',FG H rm l'/\∀k,Hs l' k=if k=i then D.foldl (s.O (s.R t) i) Z else Hs l k)
    (λD N H j=>P (K.trans j.2.1)) (λH x=>⟨(λ_ h=>by cases h),x.O _,l,aa.C x,a1⟩)
    ⟨224,#[],#[AG g 0,AG ib 0],B,?_⟩ d G,?_⟩
   .rintro D N H j ⟨hD,cH,l',m',ad⟩ hj _
    obtain⟨j1,j2,j3⟩:=an j hj;have sm:Lp l':=λk z O=>by
     rw[ad] at O;split at O
     .rcases((A6.fold _ _).2 z O).2.2 with h1|⟨R,ai,m,hm,rfl⟩
      .cases h1
      .have h1:=ao R m hm
       have a:=Cb.aR w u.A i R;have y:=(w.inv.ok _ (A6.mem (s:=s) (an R (hD R ai)).1)).2.2.1;unfold A6.via;omega
     .rw[p] at O
      split at O
      .have:=A6.a9 w u.A _ _ _ O;omega
      .have:=ao _ _ O;omega
    refine(wG (q.O cH ae) (ci.O cH ax) (P (K.trans cH)) w m' sm j1).mono ?_;rintro _ H' ⟨a2,a3,ap,a4⟩;have a5:∀o,s.O (Hs l') i o j=s.O (s.R t) i o j:=λo=>by unfold A6.O;rw[ad,Bm j2,j3]
    refine⟨⟨λR ai=>(dF.1 ai).elim (hD R) λe=>by rw[bQ.1 e];exact hj,cH.trans ap,a2,a3,λk=>?_⟩,ap.mono λk hk=>.inl (by have:=aa.1;omega)⟩;rw[a4,K1];split
    .rename_i e
     subst e;rw[a5,ad,Bi B];rfl
    .rename_i e
     rw[ad,Bm e]
   .rintro _ h8 ⟨N,hD,c8,l',m8,a6⟩
    exact⟨Pq,go l' m8 (done a6 ri.symm) (K.trans c8) (q.O c8 ae) (Sq)⟩
def AEt (a b:Bd):(⟨⟨aI a.data++aI b.data⟩⟩:Bd)=a++b:=by
 have e:(a++b).data=⟨aI a.data++aI b.data⟩:=Et (by rw[ByteArray.bF]);cases h:a++b with
 |mk d=>rw[h] at e;rw[←e]
def ZS (a b:Bd) (h:aL a+aL b<=1099511627776):Jo Ax .add 9 ox oy (Sg a) (Sg b)=I (Sg (a++b)):=by
 rw[←AEt];show(bif Ar (aL a+aL b) 1099511627776 then I (Sg (EY (aI a.data++aI b.data))) else Z)=_
 rw[Aq G];rfl
def A6.b4 (s:A6) (p:Option Ed) (j:Nat) (a m:Int):Ed:=match p with
 |Z=>⟨[j],a+(s.C j).c,a+(s.C j).c+m,(s.C j).s,Ah⟩
 |I p=>⟨p.ns++[j],a+(s.C j).c+p.c,a+(s.C j).c+p.c+m,p.b++(s.C j).s,Ah⟩
def Hr (h J:Y) (N q:Nat) (v:Aa) (es:List IE) (b:List Ed):Prop:=∃(n:Nat) (c:Aa) (a:List IE),HW J N q n c a/\Em Jk n a/\(a.map IE.P).Perm (b++es.map IE.P)/\B0 (λi=>i=q\/BY v i) h J/\(∀i,BY c i->BY v i\/h.a<=i)/\∀e∈a,e∈es\/∀i,e.C i->h.a<=i
def V9 {g:Y} {e:IE} (H:HW h N q n v es) (k:Em Jk n es) (x:AA h g) (a:Ix g e) (d:∀i,e.C i->h.a<=i) (l:N<=h.a) (m:n<26000000000000):
 Bk S L 6 141 [qp q,.iface 260 (AG e.b 0)] g λ_ J=>Hr h J N q v es [e.P]:=by
 have hb:=H.o.aw;have y:=H.c.1;have o:HW g N q n v es:=⟨H.c.C x,H.o.C x,λe a=>(H.i e a).C x,H.a,H.q⟩;refine(pE o k a (λi U=>⟨λA=>Jq,Jq⟩) (Ao l x.a) m).mono ?_;rintro _ J ⟨j,p,r,f,s,t,u⟩;exact⟨n+1,j,p,r,s,Jq,(x.O _).trans t,λi U=>(u i U).imp id λh=>Ao x.a h,λz w=>(bZ.1 (f.mem_iff.1 w)).elim (λh=>.inr (h▸d)) .inl⟩
def AEb {s:A6} {a:Int} (cs:aC h sb 0 (AG x 0)) (X:Jm h x s lp nv rm) (A:s.V.O) (M:FG h rm l) (o:∀k,Hs l k=s.rest k) (C:Lp l) (p:j<LB s.V.ns)
 (r:-30000<=a/\a<=30000) (H:HW h N q n v es) (u:Em Jk n es) (D:N<=h.a) (E:n<26000000000000):
 Bk S L 7 140 [.pointer Z,Vi j,Vi a,AG sb 0,AG q 0] h λ_ J=>Hr h J N q v es ((s.rest j).map (s.b4 Z j a)).toList:=
 Cn f140 λd R T=>by
  obtain⟨W,c2,rfl⟩:=X.lit;obtain⟨_,w,rfl,F⟩:=X.M p;have hc:=(A.inv.ok _ (A6.mem (s:=s) p)).2.2.1;refine⟨_,ld B cs,_,ld B (X.c 5 _ B),_,_,Cs (CN _) (YO M j),?_⟩;rw[o];cases K:s.rest j with
  |none=>exact⟨_,_,B,n,v,es,H,u,List.Perm.refl _,(AA.refl h).O _,λi U=>.inl U,λe r=>.inl r⟩
  |
   some m=>
   have t:=C j m (by rw[o,K]);have Y:(I m).getD (0:Int)=m:=B;have b:=AA.row h 3 [Vi (j:Int)];have O:=aQ.row h 3 [Vi (j:Int)];have y:=X.C b;have z:=λi v U=>(F i v U).C b;obtain⟨g2,P,f⟩:=(aH.nil (BN h 3 [Vi (j:Int)])).box Ax 262 (.agg #[sL h.a 1 1,Vi (a+(s.C j).c),Vi (a+(s.C j).c+m),Sg (s.C j).s,.bool Ah]);have g:=f.dD 0 B;have Q:=b.trans f.e;refine⟨_,_,B,_,_,i3 50 3 1 (Vi (j:Int)) h,_,ld B (cs.C b),_,ld B (y.c 1 _ B),G,_,Dz (ld B (z 2 _ B)) (by show w.off+(j:Int).toNat*7+2=_;omega),_,ld B (cs.C b),_,ld B (y.c 1 _ B),G,_,Dz (ld B (z 5 _ B)) (by show w.off+(j:Int).toNat*7+5=_;omega),Pq,_,B,Pq,_,_,P,_,V9 (e:=⟨(BN h 3 [Vi (j:Int)]).a,sL h.a 1 1,s.b4 Z j a m⟩) H u Q ⟨λi v U=>g.cell U,((aQ.bN (N:=0) (n:=1) (k:=1) O B (Al _)).rd).C f.e,Ac B⟩ ?_ D E d G,?_⟩
   .rintro i (U|U)
    .rw[U];exact b.a
    .rw[show i=h.a from U];exact Ae _
   .exact λ_ _ h=>h
def AEy {s:A6} {a:Int} {p:IE} (cs:aC h sb 0 (AG x 0)) (X:Jm h x s lp nv rm) (F:s.V.O) (M:FG h rm l) (K:∀k,Hs l k=s.rest k) (sm:Lp l) (o:j<LB s.V.ns)
 (O:-30000<=a/\a<=30000) (Q:Ix h p) (ah:LB p.P.ns<=1000) (ai:aL p.P.b<=20000) (aj:-100000000<=p.P.c/\p.P.c<=100000000) (H:HW h N q n v es) (R:Em Jk n es) (hN:N<=h.a) (hn:n<26000000000000):
 Bk S L 7 140 [AG p.b 0,Vi j,Vi a,AG sb 0,AG q 0] h λ_ J=>Hr h J N q v es ((s.rest j).map (s.b4 (I p.P) j a)).toList:=
 Cn f140 λd ak hL=>by
  obtain⟨al,c2,rfl⟩:=X.lit;obtain⟨_,T,rfl,q2⟩:=X.M o;have hc:=(F.inv.ok _ (A6.mem o)).2.2.1;have W:=(F.inv.ok _ (A6.mem o)).2.2.2;have W:=W;refine⟨_,ld B cs,_,ld B (X.c 5 _ B),_,_,Cs (CN _) (YO M j),?_⟩;rw[K];cases hr:s.rest j with
  |none=>exact⟨_,_,B,n,v,es,H,R,List.Perm.refl _,(AA.refl h).O _,λi U=>.inl U,λe O=>.inl O⟩
  |some m=>
   have hm:=sm j m (by rw[K,hr]);have hg:(I m).getD (0:Int)=m:=B;have f:=AA.row h 3 [Vi j];have aa:=X.C f;have Y:=Q.C f;have g:=λi v U=>(q2 i v U).C f;refine⟨_,_,B,_,_,i3 50 3 1 (Vi j) h,_,ld B (cs.C f),_,ld B (aa.c 1 _ B),G,_,Dz (ld B (g 2 _ B)) Jq,_,ld B (cs.C f),_,ld B (aa.c 1 _ B),G,_,Dz (ld B (g 5 _ B)) Jq,Pq,_,B,
    _,ld B (Y.c 0 _ B),_,hV Y.n G d G,?_⟩
   rintro w h2 ⟨r,u⟩;have ab:=f.trans r;have y:=f.a;obtain⟨v3,z,t3,A,ad,C⟩:=Tz Kq u (ys:=[Vi (j:Int)]) B B r.a G;have D:=ab.then ad λi U=>Ao y (u.ai i U)
   have t:=Q.C D;have ae:Bn p.P.ns++[Vi j]=Bn (p.P.ns++[j]):=by simp[Bn]
   rw[ae] at A;have C:=λi U=>(C i U).elim (λh=>Ao y (u.ai i h)) λh=>Ao y (Ao r.a h);obtain⟨bb,Z,rfl⟩:=A.lit G;let⟨g4,y4,E⟩:=(aH.nil z).box Ax 262 (.agg #[sL bb (LB p.P.ns+1) Z,Vi (a+(s.C j).c+p.P.c),Vi (a+(s.C j).c+p.P.c+m),Sg (p.P.b++(s.C j).s),.bool Ah]);have af:=D.trans E.e;have ob:=E.dD 0 B;have ag:(p.P.ns++[j]).length=LB p.P.ns+1:=Jq
   refine⟨_,_,i3 50 3 1 (Vi (j:Int)) h2,_,_,t3,_,ld B (t.c 3 _ B),Sg (p.P.b++(s.C j).s),ZS _ _ G,_,ld B (t.c 1 _ B),Pq,Pq,_,_,y4,_,V9 (e:=⟨z.a,sL bb (LB p.P.ns+1) Z,s.b4 (I p.P) j a m⟩) H R af ⟨λi v U=>ob.cell U,?_,by show(p.P.ns++[j]).length<=_;omega⟩ ?_ hN hn d G,?_⟩
   .show Rd g4 _ 1 (p.P.ns++[j]).length (Bn (p.P.ns++[j]))
    rw[ag];exact A.rd.C E.e
   .rintro i (U|U)
    .rw[U];exact D.a
    .exact C i U
   .exact λ_ _ h=>h
def HW.C (H:HW h N q n v es) (x:AA h J):HW J N q n v es:=⟨H.c.C x,H.o.C x,λe a=>(H.i e a).C x,H.a,H.q⟩
def HW.M (H:HW J N q n v es):HW (h.M J) N q n v es:=
 ⟨H.c.M,H.o.M,λe a=>⟨λi v U=>((H.i e a).c i v U).M,(H.i e a).n.M,(H.i e a).l⟩,H.a,H.q⟩
def Hr.ok {a:List Ed} (H:HW h N q n v es) (p:Hr h.ad J N q v es a):N5 h J.lo:=by
 let⟨_,_,_,_,_,_,c,_⟩:=p;refine c.O λi U=>.inl ?_;rcases U with rfl|U
 .let⟨_,b,x,h1,_⟩:=H.c
  exact⟨_,h1,B⟩
 .exact H.o.live U
def Hr.M {a:List Ed} (x:AA h0 h) (p:Hr h.ad J N q v es a):Hr h0 (h.M J) N q v es a:=by
 let⟨n,v',d,H,g,p,c,b,f⟩:=p;exact⟨n,v',d,H.M,g,p,(x.O _).trans c.M,λi U=>(b i U).imp id λk=>Ao x.a Jq,λe j=>(f e j).imp id λk i U=>Ao x.a (by have:=k i U;rw[BF] at this;exact this)⟩
def xj {f:Nat} {s:A6} {r:Int} (i:aC h e 0 (.func (.func 140) #[] #[AG sb 0,AG q 0])) (I:aC h f 0 (AG lp 0)) (m:aC h rb 0 (Vi r))
 (cs:aC h sb 0 (AG x 0)) (X:Jm h x s lp nv rm) (g:s.V.O) (M:FG h rm l) (o:∀k,Hs l k=s.rest k) (t:Lp l) (u:j<LB s.V.ns) (H:HW h N q n v es) (y:Em Jk n es) (z:N<=h.a) (C:n<26000000000000):
 Bk S L 8 143 [Vi j,AG e 0,AG f 0,AG rb 0] h λ_ J=>Hr h J N q v es ((s.rest j).map (s.b4 Z j (s.V.enter r j))).toList:=
 Cn f143 λd D _=>by
  have E:=Cb.bm g r j;refine⟨[.w 6],Kq,_,ld B i,_,ld B I,_,ld B m,_,hU (X.A.C (AA.ad h)) d G,?_⟩;rintro _ c ⟨a,rfl⟩;refine⟨a.C,?_⟩;have a:=a.M;have b:=a.trans (AA.ad (h.M c));refine⟨_,AEb (cs.C b) (X.C b) g (M.C b) o t u G (H.C b) y (Ao z b.a) C d G,λw F p=>?_⟩;exact⟨p.ok (H.C a),p.M a⟩
def xh {o:Nat} {s:A6} {p:IE} (t:aC h m 0 (.func (.func 140) #[] #[AG sb 0,AG q 0])) (u:aC h r 0 (AG p.b 0)) (U:aC h o 0 (AG lp 0)) (y:aC h rb 0 (Vi i))
 (cs:aC h sb 0 (AG x 0)) (X:Jm h x s lp nv rm) (g:s.V.O) (M:FG h rm l) (z:∀k,Hs l k=s.rest k) (C:Lp l) (D:j<LB s.V.ns) (E:Ix h p) (F:LB p.P.ns<=1000) (K:aL p.P.b<=20000) (O:-100000000<=p.P.c/\p.P.c<=100000000) (H:HW h N q n v es) (Q:Em Jk n es) (R:N<=h.a) (T:n<26000000000000):
 Bk S L 8 145 [Vi j,AG m 0,AG r 0,AG o 0,AG rb 0] h λ_ J=>Hr h J N q v es ((s.rest j).map (s.b4 (I p.P) j (s.V.aW i j))).toList:=
 Cn f145 λd W _=>by
  have Y:=Cb.aR g X.A i j;refine⟨[.w 7],Kq,_,ld B t,_,ld B u,_,ld B U,_,ld B y,_,jD (X.A.C (AA.ad h)) g d G,?_⟩;rintro _ f ⟨a,rfl⟩;refine⟨a.C,?_⟩;have a:=a.M;have e:=a.trans (AA.ad (h.M f));refine⟨_,AEy (cs.C e) (X.C e) g (M.C e) z C D G (E.C e) F K O (H.C e) Q (Ao R e.a) T d G,λw Z p=>?_⟩;exact⟨p.ok (H.C a),p.M a⟩
abbrev Ga:=Int×Bd
def kV (k:Ga):Value:=.agg #[.int .i64 k.1,.string k.2]
def kQ (a b:Ga):Bool:=a.1==b.1&&(Gp a.2.data.toList b.2.data.toList&&Ag)
def Ox {a b:Ga}:kQ a b=Ag↔a=b:=by
 unfold kQ;rw[An,Mh,CJ,beq_iff_eq];exact⟨λh=>Prod.ext h.1 h.2,λh=>Jq⟩
def wo (a b:Ga):IZ Ax Op.maxDepth 271 (kV a) (kV b)=I (kQ a b):=by
 have e:IZ Ax Op.maxDepth 271 (kV a) (kV b)=bm (a.1==b.1) (bm (Gp a.2.data.toList b.2.data.toList) (I Ag)):=B;rw[e,L1,L1];rfl
def Akw (k:Ga):Cy (kV k) (kV k)=true:=by
 show((Ag&&decide (k.1=k.1))&&(Gp k.2.data.toList k.2.data.toList&&Ag))=Ag;rw[CJ.2 B];simp
def N3 (k:Ga):List (Ga×Int)->Option Int
 |[]=>Z
 |p::l=>if kQ k p.1=Ag then I p.2 else N3 k l
def RW (k:Ga) (z:Int):List (Ga×Int)->List (Ga×Int)
 |[]=>[(k,z)]
 |p::l=>if kQ k p.1=Ag then(k,z)::l else p::RW k z l
def Qb (k:Ga) (z:Int) (j:Ga):∀l,N3 j (RW k z l)=if kQ j k=Ag then I z else N3 j l
 |[]=>rfl
 |p::l=>by
  rw[RW];split
  .rename_i a
   rw[N3,N3,Ox.1 a];split<;>rfl
  .rename_i a
   rw[N3,N3,Qb k z j l];by_cases h:kQ j p.1=Ag
   .rw[Bi h,Bi h,Bm (λe=>a (by rw[←Ox.1 e];exact h))]
   .rw[Bm h,Bm h]
def N6 (h:Y) (r:Nat) (l:List (Ga×Int)):Prop:=r<h.a/\∃es b,h.t.get r=I (.map es b)/\Fc b 0 es=Ag/\es.map (λe:Ap=>(e.key,e.val))=l.map λp=>(kV p.1,AL .i64 p.2)
def N6.O {l:List (Ga×Int)} (m:N6 h r l) (c:B0 W h J) (a:¬W r):N6 J r l:=⟨AC m.1 c.a,c.t r m.1 a▸m.2⟩
def N6.M {l:List (Ga×Int)} (m:N6 J r l):N6 (h.M J) r l:=by
 unfold N6;rw[CL,DF];exact m
def YX {c:Nat}:∀{es:List Ap} {lo:Nat} {e:Ap},Fc c lo es=Ag->e∈es->lo<=e.born
 |x::es,lo,e,h,a=>by
  simp only[Fc,An] at h;have b:=Ac h.1.1;rcases bZ.1 a with rfl|a
  .exact b
  .have:=YX h.2 a;omega
def LF {c:Nat}:∀{es:List Ap} {lo:Nat} {e:Ap} {j:Nat} (i:Nat),Fc c lo es=Ag->es[j]?=I e->Fx e.born es i=I (i+j)
 |x::es,lo,e,0,i,h,a=>by cases a;rw[Fx,show Am x.born x.born=Ag by simp];rfl
 |x::es,lo,e,j+1,i,h,a=>by
  simp only[Fc,An] at h;have a:=a;have:=YX h.2 (AZ a);rw[Fx,show Am x.born e.born=Ah from MK.2 λb=>Jq];show Fx e.born es (i+1)=_;rw[LF (i+1) h.2 a];congr 1;omega
def Rl (f:Ap->Ap) (x:Ap):∀es:List Ap,Cu (es++[x]) (LB es) f=es++[f x]
 |[]=>rfl
 |e::es=>by rw[KB,AO,Cu,Rl f x es];rfl
def Tc (f:Ap->Ap):∀(es:List Ap) (j:Nat) (e:Ap),es[j]?=I e->(Cu es j f)[j]?=I (f e)
 |x::es,0,e,h=>by cases h;rfl
 |x::es,j+1,e,h=>Tc f es j e h
def oV (k:Ga) (z:Int):∀(es:List Ap) (l:List (Ga×Int)) (i:Nat),es.map (λe:Ap=>(e.key,e.val))=l.map (λp=>(kV p.1,Vi p.2))->
 (CE Ax 271 (kV k) es i=I Z/\N3 k l=Z/\∀m,(es++[({key:=kV k,val:=Vi z,born:=m}:Ap)]).map (λe:Ap=>(e.key,e.val))=(RW k z l).map λp=>(kV p.1,Vi p.2))\/
 ∃j e y,CE Ax 271 (kV k) es i=I (I (i+j,e))/\es[j]?=I e/\e.val=Vi y/\N3 k l=I y/\Cy e.key (kV k)=Ag/\((Cu (Cu es j λe=>{e with key:=kV k}) j λe=>{e with val:=Vi z}).map λe:Ap=>(e.key,e.val))=(RW k z l).map λp=>(kV p.1,Vi p.2)
 |[],[],i,_=>.inl ⟨B,B,λ_=>B⟩
 |[],_::_,_,h=>Jq
 |_::_,[],_,h=>Jq
 |e::es,p::l,i,h=>by
  simp only[Bp,eV.injEq,eD.injEq] at h;let⟨⟨h1,a⟩,b⟩:=h;rw[CE,h1,wo,RW,N3];cases c:kQ k p.1 with
  |true=>
   refine .inr ⟨0,e,p.2,B,B,a,B,?_,?_⟩
   .rw[h1,←Ox.1 c];exact Akw k
   .simp[Cu,b]
  |false=>
   rcases oV k z es l (i+1) b with⟨g,s,f⟩|⟨j,d,y,g,n,f,r,q,o⟩
   .refine .inl ⟨g,s,λm=>?_⟩
    simp only[BE,if_false,KB,Bp,h1,a,f]
   .refine .inr ⟨j+1,d,y,Jq,n,f,r,q,?_⟩
    simp only[BE,if_false,Cu,Bp,h1,a,o]
def iY {l:List (Ga×Int)} (m:N6 h r l) (k:Ga):BW Ax 267 (.map (I r)) (kV k) Ah h=I (Vi ((N3 k l).getD 0)):=by
 let⟨_,es,ck,h1,_,c⟩:=m;have a:Ax.ds.get 267=I (.map 271 3):=B
 have d:CP Ax 3=I (Vi 0):=Kq;have b:Do Ax 5 271 (kV k)=Ag:=B
 unfold BW;rcases oV k 0 es l 0 c with⟨g,f,_⟩|⟨j,e,y,g,_,f,i,_⟩
 .simp only[a,b,D1,h1,g,d,f];rfl
 .simp only[a,b,D1,h1,g,f,i];rfl
def AAb {l:List (Ga×Int)} (m:N6 h r l) (k:Ga) (z:Int):∃(C:Aa) (st:Nat) (s:Y),D6 Ax 267 (.map (I r)) (kV k) h=I (.tuple #[C,Vi (AQ st)],s)/\Er r h s/\
 ∀H:Y,H.t.get r=s.t.get r->r<H.a->∃a,DM (.map (I r)) (Vi (AQ st)) (Vi z) H=I a/\N6 a r (RW k z l)/\Er r H a:=by
 obtain⟨p,es,q,s,d,a⟩:=m;have i:Ax.ds.get 267=I (.map 271 3):=by rfl
 have o:CP Ax 3=I (Vi 0):=Kq;have n:Do Ax 5 271 (kV k)=true:=by rfl
 have U:∀st:Nat,Fs (Vi (AQ st))=I st:=λ_=>B;unfold D6;rcases oV k z es l 0 a with⟨u,_,A⟩|⟨j,e,y,u,v,_,_,x,w⟩
 .have c:=Kd (kV k) (Vi 0) es q 0 d (Al _)
  refine⟨Vi 0,q,h.put r (.map (es++[({key:=kV k,val:=Vi 0,born:=q}:Ap)]) (q+1)),by simp only[i,n,D1,s,u,o],Er.put _ _ _,λH b g=>?_⟩;rw[BQ,Bi B] at b;have hb:=LF (j:=LB es) (e:=({key:=kV k,val:=Vi 0,born:=q}:Ap)) 0 c (by rw[Bq (Ae _),Nat.sub_self];rfl);rw[Ba] at hb;refine⟨H.put r (.map (es++[({key:=kV k,val:=Vi z,born:=q}:Ap)]) (q+1)),?_,⟨by rw[Cc];exact g,_,_,by rw[BQ,Bi B],Kd _ _ es q 0 d (Al _),A q⟩,Er.put _ _ _⟩;unfold DM;simp only[U,b,hb,Rl]
 .rw[Ba] at u
  have c:=Kc (f:=λe:Ap=>{e with key:=kV k}) (λ_=>B) es j q 0 d
  refine⟨e.val,e.born,h.put r (.map (Cu es j λe=>{e with key:=kV k}) q),by simp only[i,n,D1,s,u,x],Er.put _ _ _,λH b g=>?_⟩
  rw[BQ,Bi B] at b;have hb:=LF 0 c (Tc (λe:Ap=>{e with key:=kV k}) es j e v);rw[Ba] at hb;have hb:Fx e.born (Cu es j λe=>{e with key:=kV k}) 0=I j:=hb
  refine⟨H.put r (.map (Cu (Cu es j λe=>{e with key:=kV k}) j λe=>{e with val:=Vi z}) q),?_,⟨by rw[Cc];exact g,_,_,by rw[BQ,Bi B],Kc (f:=λe:Ap=>{e with val:=Vi z}) (λ_=>B) _ _ _ _ c,w⟩,Er.put _ _ _⟩
  unfold DM;simp only[U,b,hb]
namespace A6
def Aja (s:A6) (r:Int) (j:Nat) (m:Int):(s.Axk r j m).C=j:=B
def Z6 {s:A6} {r:Int} {x:Ed}:x∈s.AGu r->∃j∈s.kids s.F,∃m,s.rest j=I m/\x=s.Axk r j m:=λh=>by
 let⟨j,b,e⟩:=gq.1 h;cases a:s.rest j with
 |none=>rw[a] at e;cases e
 |some m=>rw[a] at e;cases e;exact⟨j,b,m,a,B⟩
def start {s:A6} (a:s.V.O) (g:0<=s.F/\s.F<s.T/\s.T<=LB s.V.fs) (r:Int):s.Inv 0 (s.AGu r) [] []:=by
 refine⟨λx b=>?_,Jq,qS.2 ((Rr a _).imp λ{i j} k x b y e=>?_),Jg,Jq,Jq,λ_=>?_,?_⟩
 .obtain⟨j,d,m,f,rfl⟩:=Z6 b
  let⟨n,o,p,q⟩:=cj a d;have v:=(a.inv.ok _ (mem n)).2;have z:=Cb.bm a r j;refine⟨by simp[Axk],λi U=>bQ.1 U▸n,by rw[Aja];omega,⟨m,f,B⟩,(λh=>Jq),?_,?_,?_⟩
  .show 1<=(s.C j).t-s.F;omega
  .show(s.C j).s.size<=256*1;omega
  .show-(70000*(1:Int))<=s.V.enter r j+(s.C j).c/\s.V.enter r j+(s.C j).c<=70000*(1:Int)
   omega
 .cases U:s.rest i with
  |none=>rw[U] at b;cases b
  |
   some m=>
   cases d:s.rest j with
   |none=>rw[d] at e;cases e
   |
    some m'=>
    rw[U] at b;rw[d] at e;cases b;cases e;exact⟨λh=>k (P0 (l:=[]) h),λh=>k (P0 (l:=[]) h).symm⟩
 .obtain⟨j,d,m,f⟩:=dm a g.1 g.2.2 (s.T-1-s.F).toNat s.F G Jq
  exact O7 (gq.2 ⟨j,d,by rw[f];rfl⟩)
 .have u:(s.AGu r).length<=(s.kids s.F).length:=KH _ _
  have C:(s.kids s.F).length<=(s.V.from_ s.F).length:=D7 _ _;have D:=Cb.aY a s.F;omega
def St (s:A6) (r:Int):Nat->List Ed×List (Int×Bd)×List Ed
 |0=>(s.AGu r,[],[])
 |k+1=>s.next (s.St r k)
def CV {s:A6} (d:s.V.O) {a:Y} (A:EI a b s.V) (c:0<=s.F/\s.F<s.T/\s.T<=LB s.V.fs) (r:Int):∀k,(∀i,i<k->(s.St r i).1≠[])->s.Inv k (s.St r k).1 (s.St r k).2.1 (s.St r k).2.2
 |0,_=>start d c r
 |k+1,h=>by
  let⟨p,q,a⟩:=JK (h k G);exact (CV d A c r k λi U=>h i G).next d A a
def tX (s:A6) (r:Int) (k:Nat):∀d,(s.St r k).2.2<+:(s.St r (k+d)).2.2
 |0=>Eb _
 |d+1=>by
  refine(tX s r k d).trans ?_;show _<+:(s.next (s.St r (k+d))).2.2
  unfold next
  split
  .exact Eb _
  .split
   .exact Eb _
   .split
    .exact GS _ _
    .split<;>exact Eb _
def Aha (s:A6) (r:Int) (k:Nat):(s.St r (k+1)).2.2.length<=(s.St r k).2.2.length+1:=by
 show(s.next (s.St r k)).2.2.length<=_
 unfold next
 split
 .omega
 .split
  .exact Yr _
  .split
   .simp
   .split<;>exact Yr _
def Ends (s:A6) (r:Int) (n:Int) (k:Nat):Prop:=(∀i,i<k->(s.St r i).1≠[]/\((s.St r i).2.2.length)<n)/\((s.St r k).1=[]\/n<=((s.St r k).2.2.length))
def Ends.dj {s:A6} {r n n':Int} {k':Nat} (h:s.Ends r n k) (J:s.Ends r n' k') (c:n<=n'):(s.St r k).2.2<+:(s.St r k').2.2:=by
 have:k<=k':=by
  refine gQ λb=>?_;let⟨h1,e⟩:=h.1 _ b;rcases J.2 with a|a
  .exact h1 a
  .omega
 obtain⟨d,rfl⟩:=Nat.le.dest this;exact tX s r k d
def Ends.first {s:A6} (g:s.V.O) {j:Y} (A:EI j b s.V) (l:0<=s.F/\s.F<s.T/\s.T<=LB s.V.fs) {r n:Int} (h:s.Ends r n k) (p:1<=n):(s.St r k).2.2≠[]:=λa=>by
 have c:=CV g A l r k λi U=>(h.1 i U).1;have d:(s.St r k).1=[]:=by
  rcases h.2 with h|h
  .exact h
  .rw[a,fA] at h;omega
 cases m:(s.St r k).2.1 with
 |nil=>exact c.ne m d
 |cons x K=>
  rcases c.a x Jq with⟨o,e,_⟩|⟨_,y,f,_⟩
  .rw[a] at e;cases e
  .rw[d] at f;cases f
end A6
def Lg (e:IE):AH:=[e.c,.int .i64 e.P.a,.string e.P.b]
structure HX (g0 h:Y) (q sm ab n:Nat) (v ov fv:Aa) (es os:List IE) (l:List (Ga×Int)):Prop where
 x:AA g0 h
 Q:HW h g0.a q n v es
 hp:Em Jk n es
 S:N6 h sm l
 O:AS h g0.a 77 3 ov (LB os) (os.flatMap Lg)
 I:∀e∈os,Ix h e
 A:aQ h ab 265 [fv]
 ge:g0.a<=q/\g0.a<=sm/\g0.a<=ab
 ne:q≠sm/\ab≠q/\ab≠sm
 vs:¬BY v sm/\¬BY v ab
 b:∀i,BY ov i->i≠q/\i≠sm/\i≠ab/\¬BY v i
 fz:∀e∈es,∀i,e.C i->i≠sm/\¬BY ov i
 a:∀e∈os,∀i,e.C i->i≠sm/\¬BY ov i/\i≠q/\¬BY v i
section
variable{g0 h J:Y} {q sm ab n:Nat} {v ov fv:Aa} {es os:List IE} {l:List (Ga×Int)}
def HW.O (H:HW h N q n v es) (c:B0 W h J) (f:¬W q) (b:∀i,BY v i->¬W i) (d:∀e∈es,∀i,e.C i->¬W i):HW J N q n v es:=
 ⟨H.c.O c f,H.o.O c b,λe a=>(H.i e a).O c (d e a),H.a,H.q⟩
def HX.C (H:HX g0 h q sm ab n v ov fv es os l) (x:AA h J):HX g0 J q sm ab n v ov fv es os l:=
 ⟨H.x.trans x,H.Q.C x,H.hp,H.S.O (x.O λ_=>False) λh=>h,H.O.C x,λe a=>(H.I e a).C x,H.A.C x,H.ge,H.ne,H.vs,H.b,H.fz,H.a⟩
def HX.seen {l':List (Ga×Int)} (H:HX g0 h q sm ab n v ov fv es os l) (u:B0 (·=sm) h J) (m:N6 J sm l'):HX g0 J q sm ab n v ov fv es os l':=
 ⟨H.x.then u λi U=>by rw[show i=sm from U];exact H.ge.2.1,H.Q.O u H.ne.1 (λi U e=>H.vs.1 Jq) (λe a i U b=>(H.fz e a i U).1 b),H.hp,m,H.O.O u λi U=>(H.b i U).2.1,λe a=>(H.I e a).O u λi U=>(H.a e a i U).1,H.A.O u H.ne.2.2,H.ge,H.ne,H.vs,H.b,H.fz,H.a⟩
def HX.queue {n':Nat} {g:List IE} (H:HX g0 h q sm ab n v ov fv es os l) (c:B0 (λi=>i=q\/BY v i) h J) (Q:HW J g0.a q n' v' g) (k:Em Jk n' g) (j:∀i,BY v' i->BY v i\/h.a<=i)
 (m:∀e∈g,∀i,e.C i->i≠sm/\¬BY ov i):HX g0 J q sm ab n' v' ov fv g os l:=by
 have o:=H.S.1;have p:=H.A.1;refine⟨H.x.then c λi U=>?_,Q,k,H.S.O c λa=>?_,H.O.O c λi U a=>?_,λe d=>(H.I e d).O c λi U a=>?_,H.A.O c λa=>?_,H.ge,H.ne,⟨λb=>?_,λb=>?_⟩,λi U=>?_,m,λe d i U=>?_⟩
 .rcases U with U|U
  .rw[U];exact H.ge.1
  .exact H.Q.o.ai i U
 .exact a.elim (λe=>H.ne.1 e.symm) H.vs.1
 .have:=H.b i U
  exact a.elim this.1 this.2.2.2
 .have:=H.a e d i U
  exact a.elim this.2.2.1 this.2.2.2
 .exact a.elim H.ne.2.1 H.vs.2
 .rcases j sm b with r|r
  .exact H.vs.1 r
  .omega
 .rcases j ab b with r|r
  .exact H.vs.2 r
  .omega
 .have r:=H.b i U
  refine⟨r.1,r.2.1,r.2.2.1,λb=>?_⟩;rcases j i b with f|f
  .exact r.2.2.2 f
  .have:=H.O.aw i U;omega
 .have r:=H.a e d i U
  refine⟨r.1,r.2.1,r.2.2.1,λb=>?_⟩;rcases j i b with f|f
  .exact r.2.2.2 f
  .have:=(H.I e d).M i U;omega
def HX.cM {d:List Ed} (H:HX g0 h q sm ab n v ov fv es os l) (p:Hr h J g0.a q v es d):∃n' s a,HX g0 J q sm ab n' s ov fv a os l/\(a.map IE.P).Perm (d++es.map IE.P):=by
 let⟨n',s,a,Q,g,j,c,b,f⟩:=p;refine⟨n',s,a,H.queue c Q g b λe k i U=>?_,j⟩;have o:=H.S.1;rcases f e k with t|t
 .exact H.fz e t i U
 .have r:=t i U
  exact⟨G,λm=>by have:=H.O.aw i m;omega⟩
def HX.out {g:Aa} {p:IE} (H:HX g0 h q sm ab n v ov fv es os l) (c:B0 (BY ov) h J) (o:AS J g0.a 77 3 g (LB os+1) (os.flatMap Lg++Lg p)) (j:∀i,BY g i->BY ov i\/h.a<=i)
 (m:Ix h p) (r:∀i,p.C i->i≠sm/\¬BY ov i/\i≠q/\¬BY v i):HX g0 J q sm ab n v g fv es (os++[p]) l:=by
 have s:=H.S.1;have t:=H.A.1;have u:=H.Q.c.1;have f:∀e∈os++[p],Ix h e/\∀i,e.C i->i≠sm/\¬BY ov i/\i≠q/\¬BY v i:=λe a=>by
  rcases dF.1 a with a|a
  .exact⟨H.I e a,H.a e a⟩
  .rw[bQ.1 a];exact⟨m,r⟩
 refine⟨H.x.then c λi U=>H.O.ai i U,H.Q.O c (λb=>(H.b q b).1 B) (λi U b=>(H.b i b).2.2.2 U) (λe a i U=>(H.fz e a i U).2),H.hp,H.S.O c λb=>(H.b sm b).2.1 B,?_,λe a=>(f e a).1.O c λi U=>((f e a).2 i U).2.1,H.A.O c λb=>(H.b ab b).2.2.1 B,H.ge,H.ne,H.vs,λi U=>?_,λe a i U=>⟨(H.fz e a i U).1,λd=>?_⟩,λe a i U=>?_⟩
 .rw[Aj,E0]
  simpa using o
 .rcases j i U with w|w
  .exact H.b i w
  .exact⟨G,G,G,λd=>by have:=H.Q.o.aw i d;omega⟩
 .rcases j i d with w|w
  .exact(H.fz e a i U).2 w
  .have:=(H.Q.i e a).M i U;omega
 .have w:=(f e a).2 i U
  refine⟨w.1,λd=>?_,w.2.2⟩;rcases j i d with k|k
  .exact w.2.1 k
  .have:=(f e a).1.M i U;omega
def HX.pop {n':Nat} {a:List IE} {p:IE} (H:HX g0 h q sm ab n v ov fv es os l) (d:es.Perm (p::a)) (g:Em Jk n' a) (Q:HW J g0.a q n' v' a) (c:B0 (λi=>i=q\/BY v i) h J) (f:∀i,BY v' i->BY v i):
 HX g0 J q sm ab n' v' ov fv a os l/\Ix J p/\∀i,p.C i->i≠sm/\¬BY ov i/\i≠q/\¬BY v' i:=by
 have b:=d.mem_iff.2 Av;have o:=H.Q.a p b;exact⟨H.queue c Q g (λi U=>.inl (f i U)) λe j=>H.fz e (d.mem_iff.2 (Az _ j)),(H.Q.i p b).O c λi U k=>(k.elim (o i U).2 (o i U).1),λi U=>⟨(H.fz p b i U).1,(H.fz p b i U).2,(o i U).2,λm=>(o i U).1 (f i m)⟩⟩
def Aia {s:A6} {Q:List Ed} {h:List Ed} (i:s.Inv k Q K h) {b:List IE} {p:IE} (a:(es.map IE.P).Perm Q) (c:es.Perm (p::b)) (j:∀y∈es,Jk p y):∃q,Oa Q=I (p.P,q)/\(b.map IE.P).Perm q:=by
 have d:=a.mem_iff.1 (Gn (c.mem_iff.2 Av));let⟨x,q,f⟩:=JK (O7 d);let⟨h1,l⟩:=HN f;have m:∀y∈Q,Tu p.P y:=λy n=>by
  obtain⟨e,o,rfl⟩:=dP.1 (a.mem_iff.2 n);exact j e o
 have e:=M4 h1 i.b l d m;subst e;refine⟨q,f,?_⟩;have g:=((c.map IE.P).symm.trans a).trans h1;rw[Bp] at g;exact g.cons_inv
end
def Jn (s:Bd):Nat->Nat
 |0=>0
 |k+1=>Jn s k+(FF (s.data.toList.drop (Jn s k))).2
def Ti (s:Bd) (i:Nat):∀d,Jn s i<=Jn s (i+d)
 |0=>Ae _
 |d+1=>Ao (Ti s i d) (GW _ _)
def jl (s:Bd) (k:Nat):Nat:=if k<H5 s then Jn s k else aL s
def RV (s:Bd) (f t:Int):Bd×Bool:=if f<0\/t<f\/El s<t then(⟨#[]⟩,Ah) else(EY ((s.data.toList.drop (jl s f.toNat)).take (jl s t.toNat-jl s f.toNat)),Ag)
def sx {l:Nat} (b:l<=m) (a:m<=aL s):C7 Ax 9 (Sg s) (I (Vi (l:Int))) (I (Vi (m:Int))) Z=I (Sg (EY ((s.data.toList.drop l).take (m-l)))):=by
 show(bif Ar l m&&Ar m s.size then I (Sg (EY ((s.data.toList.drop l).take (m-l)))) else Z)=_
 rw[Aq b,Aq a];rfl
def xl [cJ S L] (ab:Ce h) {f t:Int} (hs:aL s<=100000000):iB S L 7 24 [Sg s,Vi f,Vi t] h λw J=>w=.tuple #[Sg (RV s f t).1,.bool (RV s f t).2]:=
 Cn f24 λd aj hL=>by
  have E:∀{H:Y},AA h H->(f<0\/t<f\/El s<t)->AA h H/\C4 #[Sg ⟨#[]⟩,.bool Ah]=.tuple #[Sg (RV s f t).1,.bool (RV s f t).2]:=λx hb=>⟨x,by unfold RV;rw[Bi hb]⟩;apply Ad<;>intro F
  .exact E (AA.refl h) (.inl (Fp F))
  have F:=KK F;apply Ad<;>intro K
  .exact E (AA.refl h) (.inr (.inl (Fp K)))
  have K:=KK K;refine cl (gB ab hs) ?_;rintro _ T ⟨l,rfl⟩;apply Ad<;>intro M
  .exact E l (.inr (.inr (Fp M)))
  have M:=KK M;obtain⟨a,rfl⟩:∃a:Nat,f=a:=⟨bH f,G⟩;obtain⟨b,rfl⟩:∃b:Nat,t=b:=⟨bH t,G⟩;have m:=(aH.nil T).add (a:=aB T.a (.str s 0)) (AA.new T (.str s 0)) ⟨by rw[Ck];omega,by rw[CK,Bi B]⟩ λi U=>A2 U.symm;have hN:H5 s<=aL s:=Kp s.size (aI s.data);have ad:∀{H:Y} (x y:Nat),AA h H->x=jl s a->y=jl s b->AA h H/\C4 #[Sg (EY ((s.data.toList.drop x).take (y-x))),.bool Ag]=.tuple #[Sg (RV s a b).1,.bool (RV s a b).2]:=λx y e T h2=>⟨e,by
   unfold RV;rw[Bm G,T,h2];rfl⟩
  refine⟨_,_,(B:Gh Ax 9 (Sg s) T=I (AG T.a 0,T.new (.str s 0))),λV A n=>∃(p c x y:Nat),A=[(0,Sg s),(1,Vi a),(2,Vi b),(8,Vi x),(9,Vi y),(10,Vi c),(30,AG T.a 0)]/\V=aL s-p/\p=Jn s c/\c+(CA (aL s-p) (s.data.toList.drop p)).length=H5 s/\(x=if a<c then Jn s a else aL s)/\(y=if b<c then Jn s b else aL s)/\(∀k,k<c->Jn s k<aL s)/\aH T n [aB T.a (.str s p)],
   ⟨_,_,Sq,?_,0,0,aL s,aL s,B,B,B,Ba _,by rw[Bm G],by rw[Bm G],(λk h=>Cf h (F5 k)),m⟩,?_⟩
  .omega
  rintro V A n ⟨p,c,x,y,rfl,rfl,N,q,g,j,W,m⟩ ak;rcases NE (m.a7 0 B) with⟨O,w,z,X,r⟩|⟨O,r⟩
  .have ae:=Rw O
   rw[←X.2.1] at ae;have s2:=m.pu 0 (.str s (p+w)) B;obtain⟨P,af⟩:∃P,P=n.put T.a (.str s (p+w)):=⟨_,B⟩;rw[←af] at s2 r;have Z:∀(u C:Nat),(u=if a<c+1 then Jn s a else aL s)->(C=if b<c+1 then Jn s b else aL s)->∀{A:As},Sub [(0,Sg s),(1,Vi a),(2,Vi b),(8,Vi u),(9,Vi C),(10,Vi ((c+1:Nat):Int)),(30,AG T.a 0)] A->
    ∃m' A0,Sub A0 A/\m'<aL s-p/\∃(p c x y:Nat),A0=[(0,Sg s),(1,Vi a),(2,Vi b),(8,Vi x),(9,Vi y),(10,Vi c),(30,AG T.a 0)]/\m'=aL s-p/\p=Jn s c/\c+(CA (aL s-p) (s.data.toList.drop p)).length=H5 s/\(x=if a<c then Jn s a else aL s)/\(y=if b<c then Jn s b else aL s)/\(∀k,k<c->Jn s k<aL s)/\aH T P [aB T.a (.str s p)]:=λu C ag ah A ai=>
    ⟨_,_,ai,(show aL s-(p+w)<aL s-p by omega),p+w,c+1,u,C,B,B,by rw[Jn,←N,X.2.1],G,ag,ah,λk Q=>by
     rcases A8 k c with h|h
     .exact W k h
     .rw[show k=c by omega,←N];exact O,s2⟩
   have l:∀(i o:Nat),i=c->p=if i<c+1 then Jn s i else o:=λi o e=>by rw[Bi G,e,←N]
   have D:∀(i o v:Nat),¬i=c->(v=if i<c then Jn s i else o)->v=if i<c+1 then Jn s i else o:=λi o v e h=>by
    rw[h];by_cases U:i<c
    .rw[Bi U,Bi G]
    .rw[Bm U,Bm G]
   refine⟨_,_,r,Bz (λk4=>?_) (λk4=>?_)⟩
   .apply Bz<;>intro k5
    .exact⟨Pq,Z p p (l a _ G) (l b _ G) (Sq)⟩
    .exact⟨Pq,Z p y (l a _ G) (D b _ y G j) (Sq)⟩
   .apply Bz<;>intro k5
    .exact⟨Pq,Z x p (D a _ x G g) (l b _ G) (Sq)⟩
    .exact⟨Pq,Z x y (D a _ x G g) (D b _ y G j) (Sq)⟩
  .rw[show aL s-p=0 by omega,CA] at q
   have q:c=H5 s:=q;rw[q] at g j;have aa:x<=y/\y<=aL s:=by
    have Q:∀i,i<H5 s->Jn s i<=aL s:=λi U=>Bf (W i G);by_cases R:a<H5 s
    .rw[Bi R] at g
     by_cases hb:b<H5 s
     .rw[Bi hb] at j
      obtain⟨e,he⟩:=Nat.le.dest (show a<=b by omega);have:=Ti s a e;rw[he] at this;exact⟨G,by rw[j];exact Q b hb⟩
     .rw[Bm hb] at j
      exact⟨by rw[g,j];exact Q a R,G⟩
    .rw[Bm R] at g
     rw[Bm G] at j;omega
   exact⟨_,_,r,_,_,Cs (CN _) (sx aa.1 aa.2),ad x y (l.trans m.e) g j⟩
def Acn {a:Type} (p:a->Prop) (l:List a) (z:Int):Prop:=(z=-1/\∀x∈l,¬p x)\/∃(k:Nat) (x:a),z=k/\l[k]?=I x/\p x/\∀y∈l.take k,¬p y
def Tk {b:Type} {p:b->Prop} {l:List b} (c:k<LB l) (h:∀y∈l.take k,¬p y) (d:¬p l[k]):∀y∈l.take (k+1),¬p y:=λy a=>by
 rw[A5 c] at a;rcases dF.1 a with a|a
 .exact h y a
 .rw[bQ.1 a];exact d
def wA (r:Rd h v 1 (LB ss) (AR ss)) (p:LB ss<=1000000000):Bk S L 1 252 [v,.string s] h λw J=>J=h/\∃z:Int,w=Vi z/\Acn (s=·) ss z:=
 Cn f252 λd t u=>by
  obtain⟨m,n,rfl⟩:∃A c,v=.slice A (LB ss) c:=by let⟨_,A,c,e,_⟩:=r;exact⟨A,c,e⟩
  refine⟨λi A f=>∃k:Nat,A=[(0,.slice m (LB ss) n),(1,.string s),(7,Vi (LB ss)),(8,Vi k)]/\k<=LB ss/\i=LB ss-k/\(∀y∈ss.take k,¬s=y)/\f=h,
   ⟨_,_,Sq,G,0,B,Al _,B,(λy o=>Jq),B⟩,?_⟩
  rintro i A f ⟨k,rfl,x,rfl,a,rfl⟩ C;apply Bz<;>intro D;rotate_left
  .rw[Bj G] at a
   exact⟨B,-1,B,.inl ⟨B,a⟩⟩
  have g:k<LB ss:=G;let⟨j,E,e,_,q⟩:=r.at_ G;cases e;refine⟨G,_,ld B (by rw[BJ];exact q k _ (Dl g):aC f j.block (j.off+(k:Int).toNat*1) (.string ss[k])),_,B,Ad (λb=>?_) (λb=>?_)⟩
  .exact⟨B,k,B,.inr ⟨k,ss[k],B,Ab g,CJ.1 b,a⟩⟩
  .exact⟨Pq,_,_,Sq,G,k+1,B,G,B,Tk g a (λe=>by rw[CJ.2 e] at b;cases b),B⟩
def pD (r:Rd h v 1 (LB ss) (AR ss)) (e:LB ss<=1000000000):Bk S L 2 161 [v,.string s] h λw J=>J=h/\∃b:Bool,w=.bool b/\(b=Ag↔s∈ss):=
 Cn f161 λd g _=>by
  refine⟨_,wA r e d G,?_⟩;rintro _ c ⟨rfl,z,rfl,a⟩;refine⟨B,_,B,?_⟩;rcases a with⟨rfl,a⟩|⟨k,x,rfl,f,rfl,_⟩
  .exact⟨(λh=>Jq),λh=>Cf B (a s h)⟩
  .exact⟨λ_=>AZ f,λ_=>decide_eq_true G⟩
abbrev Eu:=Bd×Int
def ME (c:Eu):AH:=[.string c.1,.int .i64 c.2]
def UV (h:Y) (r:Nat) (a:BZ):Prop:=r<h.a/\∃es b,h.t.get r=I (.map es b)/\es.map (λe:Ap=>(e.key,e.val))=a.map λt=>(Value.string t,CU Ag)
def UV.O {a:BZ} (m:UV h r a) (c:B0 W h J) (b:¬W r):UV J r a:=⟨AC m.1 c.a,c.t r m.1 b▸m.2⟩
def oi (t:Bd):∀(es:List Ap) (a:BZ) (i:Nat),es.map (λe:Ap=>(e.key,e.val))=a.map (λt=>(Sg t,CU Ag))->
 (CE Ax 9 (Sg t) es i=I Z/\t∉a)\/∃j e,CE Ax 9 (Sg t) es i=I (I (j,e))/\e.val=.bool Ag/\t∈a
 |[],[],i,_=>.inl ⟨B,Jq⟩
 |[],_::_,_,h=>Jq
 |_::_,[],_,h=>Jq
 |
  e::es,x::a,i,h=>by
  simp only[Bp,eV.injEq,eD.injEq] at h;obtain⟨⟨n,d⟩,f⟩:=h;have g:IZ Ax Op.maxDepth 9 (Sg t) (Sg x)=I (Gp (aI t.data) (aI x.data)):=B;rw[CE,n,g];cases b:Gp (aI t.data) (aI x.data) with
  |true=>exact .inr ⟨i,e,B,d,CJ.1 b▸Av⟩
  |false=>
   rcases oi t es a (i+1) f with⟨m,l⟩|⟨j,k,m,l,o⟩
   .refine .inl ⟨m,λc=>?_⟩
    rcases bZ.1 c with rfl|c
    .rw[CJ.2 B] at b;cases b
    .exact l c
   .exact .inr ⟨j,k,m,l,Az _ o⟩
def NB {a:BZ} (m:UV h r a) (t:Bd):∃b:Bool,BW Ax 160 (.map (I r)) (Sg t) Ah h=I (.bool b)/\(b=Ag↔t∈a):=by
 let⟨_,es,ck,h1,f⟩:=m;have c:Ax.ds.get 160=I (.map 9 4):=B
 have g:CP Ax 4=I (.bool Ah):=Kq;have d:Do Ax 5 9 (Sg t)=Ag:=B
 unfold BW;rcases oi t es a 0 f with⟨l,i⟩|⟨j,e,l,i,k⟩
 .exact⟨Ah,Jq,λh=>Jq,λh=>Cf h i⟩
 .exact⟨Ag,Jq,λ_=>k,λ_=>B⟩
def AEw {a:BZ} (m:UV h r a) (t:Bd) (c:t∉a):∃J,BH Ax 160 (.map (I r)) (Sg t) (.bool Ag) h=I J/\UV J r (a++[t])/\Er r h J:=by
 let⟨d,es,ck,h1,b⟩:=m;have f:Ax.ds.get 160=I (.map 9 4):=B
 have g:Do Ax 5 9 (Sg t)=Ag:=B
 unfold BH;rcases oi t es a 0 b with⟨k,_⟩|⟨j,e,k,_,i⟩
 .exact⟨h.put r (.map (es++[({key:=.string t,val:=.bool Ag,born:=ck})]) (ck+1)),Jq,⟨Jq,_,_,by rw[BQ,Bi B],by simp[b]⟩,Er.put _ _ _⟩
 .exact Cf i c
open Classical in
structure H7 (h:Y) (N ob kb mb km:Nat) (cv:Aa) (most:Nat) (cs:List Eu):Prop where
 o:aQ h ob 44 [cv]
 s:AS h N 48 2 cv (LB cs) (cs.flatMap ME)
 k:aC h kb 0 (.map (I km))
 m:aC h mb 0 (.int .i64 most)
 t:UV h km (cs.map Eh)
 ne:ob≠kb/\ob≠mb/\ob≠km/\kb≠km/\mb≠km
 b:∀i,BY cv i->i≠ob/\i≠kb/\i≠mb/\i≠km
 d:(cs.map Eh).Nodup/\∀c∈cs,aL c.1<=1100000
def xn {u y x w most:Nat} {C v:Value} {cs:List Eu} {n:Int} {j:BZ} (O:H7 h N u y x w C most cs) (E:LB cs<=most) (hN:N<=h.a) (hm:most<=1000) (r:Rd h v 1 (LB j) (AR j)) (hts:LB j<=1000000) (hz:∀s∈j,aL s<=1100000) (hr:∀i,BY v i->i≠u/\i≠w/\¬BY C i):
 Bk S L 1 67 [Vi n,v,AG u 0,AG x 0,AG y 0] h λ_ J=>∃p H,H7 J N u y x w p most H/\LB H<=most/\B0 (λi=>i=u\/i=w\/BY C i) h J/\∀i,BY p i->BY C i\/h.a<=i:=
 Cn f67 λd hd' hL=>by
  have hvl:=r.aw;obtain⟨A0,c0,rfl⟩:∃A c,v=.slice A (LB j) c:=by obtain⟨_,A,c,e,_⟩:=r;exact⟨A,c,e⟩
  refine⟨λX A B=>∃(k:Nat) (p:Value) (es:List Eu),A=[(0,Vi n),(2,AG u 0),(3,AG x 0),(4,AG y 0),(9,.slice A0 (LB j) c0),(10,Vi (LB j)),(11,Vi k)]/\k<=LB j/\X=LB j-k/\H7 B N u y x w p most es/\LB es<=most/\B0 (λi=>i=u\/i=w\/BY C i) h B/\∀i,BY p i->BY C i\/h.a<=i,
   ⟨_,_,Sq,G,0,C,cs,rfl,Al _,rfl,O,E,(AA.refl h).O _,λi g=>.inl g⟩,?_⟩
  clear O;rintro X A B ⟨k,p,es,rfl,hk,rfl,O,E,c,hb⟩ hLt;apply Bz<;>intro k1;rotate_left
  ·exact⟨p,es,O,E,c,hb⟩
  have R:k<LB j:=G;have r':Rd B (.slice A0 (LB j) c0) 1 (LB j) (AR j):=r.O c λi g f=>by
   have:=hr i g;rcases f with f|f|f
   ·exact this.1 f
   ·exact this.2.1 f
   ·exact this.2.2 f
  obtain⟨ad,c',e,_,q⟩:=r'.at_ G;cases e;have q1:aC B ad.block (ad.off+(k:Int).toNat*1) (Sg j[k]):=by rw[BJ];exact q k _ (Dl R)
  obtain⟨A1,c1,rfl⟩:∃A c,p=.slice A (LB es) c:=by obtain⟨_,A,c,e,_⟩:=O.s.rd;exact⟨A,c,e⟩
  obtain⟨b,lb,U⟩:=NB O.t j[k];refine⟨G,_,ld rfl q1,_,ld rfl (O.o.cell (i:=0) rfl),_,ld rfl O.m,Bz (λk2=>?_) (λk2=>?_)⟩;rotate_left
  ·exact⟨Pq,_,_,Sq,(G:j.length-(k+1)<_),k+1,_,es,rfl,G,rfl,O,E,c,hb⟩
  refine⟨_,ld rfl O.k,_,_,congrArg (CN _) lb,_,_,rfl,Ad (λK=>?_) (λK=>?_)⟩;rotate_left
  ·exact⟨Pq,_,_,Sq,(G:j.length-(k+1)<_),k+1,_,es,rfl,G,rfl,O,E,c,hb⟩
  have K:b=false:=by simpa using K
  have Q:j[k]∉es.map Eh:=λh=>by have:=U.2 h;rw[K] at this;cases this
  obtain⟨V,u2,m2,I⟩:=AEw O.t j[k] Q;have T:LB es<most:=G;have Z:aQ V u 44 [_]:=O.o.ah I O.ne.2.2.1;have s2:=O.s.ah I λi g=>(O.b i g).2.2.2;have hx2:V.a=B.a:=I.a;have hNh:N<=B.a:=Ao hN c.a;obtain⟨M,h3,t3,Y,W,b3⟩:=Tz (τ:=Ax) (st:=44) (t2:=44) (e:=48) (k:=2) Kq s2 (ys:=[Sg j[k],Vi n]) rfl rfl G G;have o4:aQ h3 u 44 [_]:=Z.O W λf=>(O.b u f).1 rfl;obtain⟨h5,u5,o5,P⟩:=aQ.st (τ:=Ax) (t:=44) rfl o4 (i:=0) (v:=M) (HL 0) (D5 Y);have hob:=O.o.1;have hkb:=O.k.1;have hmb:=O.m.1;have hkm:=O.t.1;have bw:∀i,BY M i->i≠u/\i≠y/\i≠x/\i≠w:=λi g=>by
   rcases b3 i g with F|F
   ·exact O.b i F
   ·exact⟨G,G,G,G⟩
  have D:B0 (λi=>i=u\/i=w\/BY (.slice A1 (LB es) c1) i) B h5:=((I.O.mono λi g=>.inr (.inl g)).trans (W.mono λi g=>.inr (.inr g))).trans (P.O.mono λi g=>.inl g);have O':H7 h5 N u y x w M most (es++[(j[k],n)]):=by
   refine⟨o5,?_,O.k.O D λf=>?_,O.m.O D λf=>?_,?_,O.ne,bw,⟨by rw[BS];exact(Gm _ _).nodup_iff.2 (List.nodup_cons.2 ⟨Q,O.d.1⟩),λc h=>(dF.1 h).elim (O.d.2 c) λh=>by rw[bQ.1 h];exact hz _ (Bu _)⟩⟩
   ·rw[Aj,E0];exact Y.ah P λi g=>(bw i g).1
   ·rcases f with f|f|f
    ·exact O.ne.1 f.symm
    ·exact O.ne.2.2.2.1 f
    ·exact(O.b y f).2.1 rfl
   ·rcases f with f|f|f
    ·exact O.ne.2.1 f.symm
    ·exact O.ne.2.2.2.2 f
    ·exact(O.b x f).2.2.1 rfl
   ·rw[BS];exact(m2.O W λf=>(O.b w f).2.2.2 rfl).O P.O λe=>O.ne.2.2.1 e.symm
  refine⟨_,ld rfl O.k,_,_,congrArg Nb u2,_,ld rfl (Z.cell (i:=0) rfl),_,_,i3 44 48 2 (.agg #[Sg j[k],Vi n]) V,_,_,t3,_,u5,Pq,
   _,_,CG (l:=[(0,_),(2,_),(3,_),(4,_),(9,_),(10,_),(11,Vi ((k+1:Nat):Int))]) ⟨rfl,rfl,rfl,rfl,rfl,rfl,congrArg (λz=>some (Vi z)) (G),trivial⟩,(show LB j-(k+1)<LB j-k by omega),k+1,M,_,rfl,G,rfl,O',by rw[Aj];exact T,c.then D λi g=>?_,λi g=>?_⟩
  ·rcases g with g|g|g
   ·exact .inl (.inl g)
   ·exact .inl (.inr (.inl g))
   ·exact(hb i g).imp (λh=>.inr (.inr h)) id
  ·rcases b3 i g with F|F
   ·exact hb i F
   ·have:=c.a;exact .inr G
section
variable{τ:Bb} {h0 h:Y} {l:List Ct}
def aH.cT (t:Ai) (v:Aa) (s:aH h0 h l):∃g,K7 τ t v h.ad=I (AG h.a 0,g)/\aH h0 (h.M g) (aO h.a t (AJ v)::l):=by
 let⟨g,y,a⟩:=(aH.nil h.ad).box τ t v;have o:=a.dD 0 B;rw[BF] at y o;exact⟨g,y,s.cf a.e o λi U=>A2 U.symm⟩
def aH.dt {z:Aa} (b:CP τ t=I z) (s:aH h0 h l):∃g,(∀A,D9 τ A h.ad (.alloc t)=I (AG h.a 0,g))/\aH h0 (h.M g) (aO h.a t (AJ z)::l):=by
 let⟨g,y,a⟩:=(aH.nil h.ad).O b;have o:=a.dD 0 B;rw[BF] at o;exact⟨g,λA=>by rw[y,BF],s.cf a.e o λi U=>A2 U.symm⟩
def aH.cx {z:Aa} (e:CP τ t=I z) (s:aH h0 h l) (a:(match τ.b.get t with|some i=>Am (AJ v).length i.size|none=>Ah)=Ag) (f:(AJ v).length=(AJ z).length) (n:(AJ v).all one=Ag):
 ∃g,(∀A,D9 τ A h.ad (.alloc t)=I (AG h.a 0,g))/\∃b,BA τ t (h.M g).ad h.a 0 v=I b/\aH h0 ((h.M g).M b) (aO h.a t (AJ v)::l):=by
 let⟨g,y,c⟩:=s.dt e;obtain⟨J,j,d,k⟩:=((c.dD 0 B).C (AA.ad _)).bb (i:=0) G n;refine⟨g,y,J,?_,?_⟩
 .unfold BA
  split at a
  .rename_i i U
   simp[U,a,D1,j]
  .cases a
 .have:=JB (AJ v) [] (AJ z) f
  simp[IW,fA] at this;rw[this] at d;exact c.aZ 0 B k.O d λx m=>.inl m
end
def Akq {e:Y} {f:Nat} {g:Aa} {os:List IE} {l:List (Ga×Int)} (P:HX e h q a f n v g fv es os l) (p:Ga):∃(s:Aa) (st:Nat) (r b:Y),
 BW Ax 267 (.map (I a)) (kV p) Ah h.ad=I (Vi ((N3 p l).getD 0))/\D6 Ax 267 (.map (I a)) (kV p) h.ad=I (.tuple #[s,Vi (AQ st)],r)/\
 DM (.map (I a)) (Vi (AQ st)) (Vi ((N3 p l).getD 0+1)) (h.M r).ad=I b/\HX e ((h.M r).M b) q a f n v g fv es os (RW p ((N3 p l).getD 0+1) l)/\B0 (·=a) h ((h.M r).M b)/\r.lo=.one a/\
 BW Ax 267 (.map (I a)) (kV p) Ah ((h.M r).M b)=I (Vi ((N3 p l).getD 0+1)):=by
 have M:=P.S.O ((AA.ad h).O λ_=>False) λh=>h;let⟨s,st,r,j,d,H⟩:=AAb M p ((N3 p l).getD 0+1);obtain⟨b,k,m,o⟩:=H (h.M r).ad (by rw[Ow,DF]) (by rw[BF,CL,d.a];exact M.1);have c:=d.M.O.trans o.M.O;have i:N6 ((h.M r).M b) a (RW p ((N3 p l).getD 0+1) l):=m.M;refine⟨s,st,r,b,iY M p,j,k,P.seen c i,c,by rw[d.lo,DZ];rfl,?_⟩;rw[iY i p,Qb,Bi (Ox.2 B)];rfl
namespace A6
def Aui {s:A6} {Q q:List Ed} {p:Ed} (a:Oa Q=I (p,q)) (h:Cw p∈K):s.next (Q,K,o)=(q,K,o):=by
 unfold next;simp only[a];rw[Bi h]
def Azk {s:A6} {Q q:List Ed} {p:Ed} (a:Oa Q=I (p,q)) (h:¬Cw p∈K) (b:p.d=Ag):s.next (Q,K,o)=(q,Cw p::K,o++[p]):=by
 unfold next;simp only[a];rw[Bm h,Bi b]
def Azl {s:A6} {Q q:List Ed} {p:Ed} (b:Oa Q=I (p,q)) (h:¬Cw p∈K) (d:¬p.d=Ag) (e:(s.C p.C).t=s.T):s.next (Q,K,o)=(⟨p.ns,p.c,p.a,p.b,Ag⟩::q,Cw p::K,o):=by
 unfold next;simp only[b];rw[Bm h,Bm d,Bi e]
def Auj {s:A6} {Q q:List Ed} {p:Ed} (a:Oa Q=I (p,q)) (h:¬Cw p∈K) (b:¬p.d=Ag) (c:¬(s.C p.C).t=s.T):s.next (Q,K,o)=(s.Aou p++q,Cw p::K,o):=by
 unfold next;simp only[a];rw[Bm h,Bm b,Bm c]
end A6
def gJ (s:A6) (r n:Int) (a:Y) (q b c:Nat) (e:Aa) (k:Nat) (d:Aa) (h:Y):Prop:=k<=25000000000000/\(∀i,i<k->(s.St r i).1≠[]/\((s.St r i).2.2.length:Int)<n)/\
 ∃(m:Nat) (v:Aa) (es os:List IE) (l:List (Ga×Int)),HX a h q b c m v d e es os l/\(es.map IE.P).Perm (s.St r k).1/\(∀j,(N3 j l).isSome=Ag↔j∈(s.St r k).2.1)/\(∀j z,N3 j l=I z->1<=z/\z<=k)/\os.map IE.P=(s.St r k).2.2
def gJ.next {s:A6} {r n:Int} {d:Y} {f g m':Nat} {m:Aa} {b c:List IE} {l:List (Ga×Int)} {B:Ga} {X:List Ed×List (Int×Bd)×List Ed} (p:k<25000000000000) (t:∀i,i<k->(s.St r i).1≠[]/\((s.St r i).2.2.length:Int)<n) (u:(s.St r k).1≠[]) (v:((s.St r k).2.2.length:Int)<n)
 (w:∀j,(N3 j l).isSome=Ag↔j∈(s.St r k).2.1) (o:∀j z,N3 j l=I z->1<=z/\z<=k) (e:s.next (s.St r k)=X) (P:HX d J q f g m' v' m fv b c (RW B ((N3 B l).getD 0+1) l)) (x:(b.map IE.P).Perm X.1) (A:∀j,j∈X.2.1↔j=B\/j∈(s.St r k).2.1) (C:c.map IE.P=X.2.2):gJ s r n d q f g fv (k+1) m J:=by
 subst e;refine⟨p,λi U=>?_,m',v',b,c,_,P,x,λj=>?_,λj z a=>?_,C⟩
 .by_cases h1:i=k
  .subst h1;exact⟨u,v⟩
  .exact t i G
 .show _↔j∈(s.next (s.St r k)).2.1
  rw[A,Qb];by_cases h1:kQ j B=Ag
  .rw[Bi h1];exact⟨λ_=>.inl (Ox.1 h1),λ_=>rfl⟩
  .rw[Bm h1,w];exact⟨.inr,λh=>h.elim (λe=>Cf (Ox.2 e) h1) id⟩
 .rw[Qb] at a
  by_cases h1:kQ j B=Ag
  .rw[Bi h1] at a
   cases a;cases D:N3 B l with
   |none=>exact⟨Jq,Jq⟩
   |some y=>have:=o B y D;show 1<=y+1/\y+1<=_;omega
  .rw[Bm h1] at a
   have:=o j z a;omega
def aH.cast {l l':List Ct} (s:aH h0 h l) (e:l=l'):aH h0 h l':=e▸s
def HW.dr (H:HW h N q n v es) (c:B0 (λi=>i=q\/BY v i) h.ad J):N5 h J.lo:=by
 refine c.O λi U=>.inl ?_;rcases U with rfl|U
 .let⟨_,a,x,h1,_⟩:=H.c
  exact⟨_,h1,B⟩
 .exact H.o.live U
def ACk {a:Y} {u O o:Nat} {s:A6} {p:IE} (E:AA a h) (X:Jm a x s lp nv rm) (y:s.V.O) (M:FG a rm l) (hl:∀k,Hs l k=s.rest k) (sm:Lp l) (cs:aC a sb 0 (AG x 0)) (cl:aC a O 0 (AG lp 0))
 (ca:aQ h u 265 [.func (.func 140) #[] #[AG sb 0,AG q 0]]) (ad:u≠q/\¬BY v u) (ci:aC h w 0 (AG p.b 0)) (ae:w≠q/\¬BY v w) (cb:aC h o 0 (.int .i64 p.P.C)) (af:o≠q/\¬BY v o) (ip:Ix h p) (fp:∀i,p.C i->i≠q/\¬BY v i) (A:s.ADf p.P)
 (hF:0<=s.F/\s.T-s.F<=64) (H:HW h a.a q n v es) (hq:a.a<=q) (hh:Em Jk n es) (hn:n<=25000000000001):
 Bk S L 11 142 [AG x 0,.int .i64 (s.C p.P.C).t,.func (.func 145) #[] #[AG u 0,AG w 0,AG O 0,AG o 0]] h λ_ J=>Hr h J a.a q v es (s.Aou p.P):=by
 have au:=H.c.1;have ag:=H.o.aw;have ah:=H.o.ai;have av:=A.j;have aw:=A.len;have ax:=A.b;have ay:=A.c;have ext:∀{d:Y},B0 (λi=>i=q\/BY v i) h d->AA a d:=λc=>E.then c λi U=>U.elim (λe=>by rw[e];exact hq) (ah i)
 refine(lE (e:=8) (p:=(s.C p.P.C).t) (X.C E) y (λD N d=>(h.a<=N/\N<=d.a)/\∃(n':Nat) (Z:Aa) (g:List IE),HW d a.a q n' Z g/\Em Jk n' g/\(g.map IE.P).Perm ((D.filterMap λj=>(s.rest j).map (s.AGz p.P j))++es.map IE.P)/\B0 (λi=>i=q\/BY v i) h d/\(∀i,BY Z i->BY v i\/N<=i)/\∀e∈g,e∈es\/∀i,e.C i->h.a<=i)
  (λD N d j=>X.C (ext j.2.choose_spec.choose_spec.choose_spec.2.2.2.1)) (λd x=>⟨⟨x.a,Ae _⟩,n,v,es,H.C x,hh,List.Perm.refl _,x.O _,λi U=>.inl U,λe Q=>.inl Q⟩) ⟨145,#[],#[AG u 0,AG w 0,AG O 0,AG o 0],B,?_⟩).mono ?_
 .rintro D N d j ⟨⟨R,n2⟩,n',Z,g,Q',W,C,c,b,f⟩ hj ai
  obtain⟨k1,k2,k3,k4⟩:=A6.cj y hj;have z:=ext c;have aj:=ai.length_le;have h1:(s.kids (s.C p.P.C).t).length<=(s.V.from_ (s.C p.P.C).t).length:=D7 _ _;have h2:=Cb.aY y (s.C p.P.C).t;have h3:=y.len;have h4:(D.filterMap λj=>(s.rest j).map (s.AGz p.P j)).length<=LB D:=KH _ _;have l1:=C.length_eq;rw[Aj,A4,A4,Q'.len,H.len] at l1;rw[Aj,Br] at aj;have K:∀{i:Nat},i≠q/\¬BY v i->¬(i=q\/BY v i):=λh hw=>hw.elim h.1 h.2;refine(xh (x:=x) (sb:=sb) (rb:=o) (i:=p.P.C) (p:=p) ((ca.O c (K ad)).cell (i:=0) B) (ci.O c (K ae)) (cl.C z) (cb.O c (K af)) (cs.C z) (X.C z) y (M.C z) hl sm k1 (ip.O c λi U=>K (fp i U)) G G G Q' W (by have:=z.a;omega) G).mono ?_;rintro _ J ⟨ak,al,am,an,ao,ap,aa,aq,ar⟩;refine⟨⟨⟨R,Ao n2 aa.a⟩,ak,al,am,an,ao,?_,c.then aa λi U=>?_,λi U=>?_,λe Q=>?_⟩,aa.mono λi U=>?_⟩
  .refine ap.trans ?_
   rw[ZD];have e1:((s.rest j).map (s.b4 (I p.P) j (s.V.aW p.P.C j))).toList=[j].filterMap λj=>(s.rest j).map (s.AGz p.P j):=by
    cases hr:s.rest j with
    |none=>rw[WZ (by rw[hr];rfl)];rfl
    |some m=>rw[W2 (by rw[hr];rfl)];rfl
   rw[e1];refine(C.append_left _).trans ?_;rw[←KA];exact ZC.append_right _
  .rcases U with U|U
   .exact .inl (.inl U)
   .exact(b i U).imp .inr λh=>G
  .rcases aq i U with r|r
   .exact b i r
   .exact .inr G
  .rcases ar e Q with r|r
   .exact f e r
   .exact .inr λi U=>by have:=r i U;omega
  .rcases U with U|U
   .exact .inl G
   .exact(b i U).imp (λh=>ag i h) id
 .rintro _ J ⟨N,⟨R,n2⟩,n',Z,g,Q',W,C,c,b,f⟩
  exact⟨n',Z,g,Q',W,C,c,λi U=>(b i U).imp id λh=>Ao R h,f⟩
def ol (h0 h:Y) (V:Cb) (F T r a n:Int) (w:Aa):Prop:=
 ((F<0\/T<=F\/(LB V.fs:Int)<T)/\w=.slice Z 0 0)\/((0<=F/\F<T/\T<=LB V.fs)/\∃(k:Nat) (os:List IE),A6.Ends ⟨V,F,T,a⟩ r (min n 200) k/\os.map IE.P=(A6.St ⟨V,F,T,a⟩ r k).2.2/\AS h h0.a 77 3 w (LB os) (os.flatMap Lg)/\∀e∈os,one e.c=Ag/\aL e.P.b<=20000)
def zh (h:Y) (g:Nat) (V:Cb) (F T r d n:Int) (A:As) (a:Y):Prop:=∃(b c rb xs x f:Nat) (j:Aa) (e:Y),A=[(4,.int .i64 n),(5,AG b 0),(6,AG c 0),(7,AG rb 0),(11,AG xs 0)]/\AA h a/\jU e ⟨V,F,T,d⟩ g j f/\AA e a/\x≠f/\
 (∀(i:Nat) v,(P5 ⟨V,F,T,d⟩ g j f)[i]?=I v->aC a x i v)/\FG a f []/\(aC a b 0 (AG g 0)/\b≠f)/\(BK a c 0 [.int .i64 F,.int .i64 T]/\c≠f)/\(aC a rb 0 (.int .i64 r)/\rb≠f)/\aC a xs 0 (AG x 0)/\xs≠f/\h.a<=f
def gC [ab:aF S L] {V:Cb} (A:EI h lp V) (ok:V.O) {F T r g n:Int} (hn:n<=60):iB S L 13 68 [AG lp 0,.agg #[Vi F,Vi T],Vi r,Vi g,Vi n] h λw J=>ol h J V F T r g n w:=
 Nu (fn:=f68) Kq B 3 (zh h lp V F T r g n) λd dn=>by
  have hL:=ab.a;obtain⟨g1,y1,s1⟩:=(aH.nil h).box Ax 66 (AG lp 0);obtain⟨g2,y2,s2⟩:=s1.box Ax 120 (.agg #[Vi F,Vi T]);obtain⟨u,y3,s3⟩:=s2.box Ax 3 (Vi r);obtain⟨lb,bi⟩:∃lb,lb=h.a:=⟨_,B⟩;obtain⟨K,ay⟩:∃K,K=g1.a:=⟨_,B⟩;obtain⟨rb,bj⟩:∃rb,rb=g2.a:=⟨_,B⟩;have cl:aC u lb 0 (AG lp 0):=by rw[bi];exact(s3.dD 2 B).cell B
  have cF:aC u K 0 (Vi F):=by rw[ay];exact(s3.dD 1 B).cell B
  have cT:aC u K 1 (Vi T):=by rw[ay];exact(s3.dD 1 B).cell B
  have cr:aC u rb 0 (Vi r):=by rw[bj];exact(s3.dD 0 B).cell B
  rw[←bi] at y1;rw[←ay] at y2;rw[←bj] at y3;have ah:AA h u:=s3.e;have a9:∀{H:Y},AA h H->(F<0\/T<=F\/(LB V.fs:Int)<T)->AA h H/\ol h H V F T r g n (sN):=λx hb=>⟨x,.inl ⟨hb,B⟩⟩;have bk:=A.C ah;refine⟨Dc B,?_,?_⟩;rotate_left
  .rintro A0 dp ⟨lb,K,rb,xs,x,rm,nv,g0,rfl,X,b,E,hx,cx,M,⟨cl,b8⟩,⟨cp,b9⟩,⟨cr,ca⟩,cs,cb,bl⟩
   refine⟨_,ld B cs,_,xk b E hx cx M d G,?_⟩;rintro _ gc ⟨cc,l,bm,hl⟩;have ae:Jm gc x ⟨V,F,T,g⟩ lp nv rm:=b.at_ E cc (λi U=>by rw[show i=rm from U];exact b.rm) hx cx;obtain⟨az,cn,rfl⟩:=ae.lit;have hF:=b.F;have hN:=b.ok.N;have sm:Lp l:=λk z hz=>by
    rw[hl] at hz;have:=A6.a9 b.ok ae.A _ _ _ hz;have h1:0<=F/\F<T/\T<=(LB V.fs:Int):=hF;have h2:((A6.mk V F T g).T-(A6.mk V F T g).F).toNat<=64:=by show(T-F).toNat<=64;have:LB V.fs<=64:=hN.2;omega
    omega
   have cl:=cl.O cc b8;have cp:=cp.O cc b9;have cr:=cr.O cc ca;have cs:=cs.O cc cb;obtain⟨ga,ya,sa⟩:=(aH.nil gc).O (z:=sN) Kq;obtain⟨gb,yb,gd,yd,sd⟩:=sa.var (τ:=Ax) (t:=265) (z:=.nilFunc) Kq (v:=.func (.func 140) #[] #[AG xs 0,AG gc.a 0]) B B B;obtain⟨q,hq⟩:∃q,q=gc.a:=⟨_,B⟩;obtain⟨R,bn⟩:∃R,R=ga.a:=⟨_,B⟩;rw[←bn] at yb yd;rw[←hq] at ya yd;have oq:aQ gd q 259 [sN]:=by rw[hq];exact sd.dD 1 B
   have oa:aQ gd R 265 [.func (.func 140) #[] #[AG xs 0,AG q 0]]:=by rw[bn,hq];exact sd.dD 0 B
   have bo:R≠q:=by have:=(sa.dD 0 B).1;omega
   have xd:AA gc gd:=sd.e;have cd:aC gd K 0 (Vi F):=by
    have:=(cp.C xd).at (i:=0) (v:=Vi F) B;exact this
   have dq:q<gd.a:=oq.1;have dr:R<gd.a:=oa.1;refine⟨_,_,ya _,_,_,yb _,_,yd,_,ld B (cs.C xd),_,ld B cd,_,lE (e:=8) (s:=⟨V,F,T,g⟩) (ae.C xd) b.ok (λD N H=>(gd.a<=N/\N<=H.a)/\AA gc H/\aQ H R 265 [.func (.func 140) #[] #[AG xs 0,AG q 0]]/\∃(n':Nat) (v':Aa) (af:List IE),HW H gc.a q n' v' af/\Em Jk n' af/\(af.map IE.P).Perm (D.filterMap λj=>(A6.rest ⟨V,F,T,g⟩ j).map (A6.Axk ⟨V,F,T,g⟩ r j))/\(∀i,BY v' i->N<=i)/\n'<=LB D)
    (λD N H j=>ae.C j.2.1) (λH x=>⟨⟨x.a,Ae _⟩,xd.trans x,oa.C x,0,sN,[],⟨oq.C x,AS.nil _ _ _ _,(λ_ h=>by cases h),(λ_ h=>by cases h),λh=>h⟩,(λk _ _ _ h=>Cf h (F5 k)),List.Perm.refl _,(λi h=>h.elim),Ae _⟩)
    ⟨143,#[],#[AG R 0,AG lb 0,AG rb 0],B,?_⟩ d G,?_⟩
   .rintro D N H j ⟨⟨n1,n2⟩,xH,oH,n',v',af,Q',aq,pm,hv,ce⟩ hj cf
    obtain⟨k1,_⟩:=A6.cj b.ok hj;have bp:=cf.length_le;have h1:(A6.kids ⟨V,F,T,g⟩ F).length<=(V.from_ F).length:=D7 _ _;have h2:=Cb.aY b.ok F;have h3:=b.ok.len;rw[Aj,Br] at bp;have h4:LB D+1<=10000:=by
     have e1:(A6.mk V F T g).V.ns.length=LB V.ns:=B;have e2:((A6.mk V F T g).V.from_ F).length=(V.from_ F).length:=B;omega
    refine(xj (x:=x) (sb:=xs) (oH.cell (i:=0) B) (cl.C xH) (cr.C xH) (cs.C xH) (ae.C xH) b.ok (bm.C xH) hl sm k1 Q' aq (by have:=xH.a;omega) G).mono ?_;rintro _ J ⟨cg,ch,ci,bq,cj,br,a0,ck,_⟩;have l1:=br.length_eq;rw[Aj,A4,A4,bq.len,Q'.len] at l1;have l2:((A6.rest ⟨V,F,T,g⟩ j).map (A6.b4 ⟨V,F,T,g⟩ Z j ((A6.mk V F T g).V.enter r j))).toList.length<=1:=by cases A6.rest ⟨V,F,T,g⟩ j<;>simp
    refine⟨⟨⟨n1,Ao n2 a0.a⟩,xH.then a0 λi U=>?_,oH.O a0 λhw=>?_,cg,ch,ci,bq,cj,?_,λi U=>?_,by rw[Aj,Br];omega⟩,a0.mono λi U=>?_⟩
    .rcases U with U|U
     .rw[U,hq];exact Ae _
     .have:=hv i U;have:=xd.a;omega
    .rcases hw with hw|hw
     .exact bo hw
     .have:=hv R hw;omega
    .refine br.trans ?_
     rw[ZD];refine(ZC).trans ?_;refine pm.append ?_;cases hr:A6.rest ⟨V,F,T,g⟩ j with
     |none=>rw[WZ (by rw[hr];rfl)];exact List.Perm.refl _
     |some m=>rw[W2 (by rw[hr];rfl)];exact List.Perm.refl _
    .rcases ck i U with h5|h5
     .exact hv i h5
     .omega
    .rcases U with U|U
     .exact .inl G
     .exact .inr (hv i U)
   rintro _ h7 ⟨N,⟨n1,n2⟩,xH,oH,n',v',af,Q',aq,pm,hv,ce⟩;obtain⟨m8,bs⟩:∃m8,m8=h7.a:=⟨_,B⟩;have ba:=AA.new h7 (.map [] 0);have bt:HX gc (h7.new (.map [] 0)) q m8 R n' v' (sN) (.func (.func 140) #[] #[AG xs 0,AG q 0]) af [] []:=by
    refine⟨xH.trans ba,Q'.C ba,aq,⟨by rw[Ck];omega,[],0,by rw[CK,Bi bs],B,B⟩,AS.nil _ _ _ _,(λ_ h=>by cases h),oH.C ba,⟨G,by have:=xH.a;omega,by have:=sa.e.a;omega⟩,⟨G,bo,G⟩,⟨λh=>?_,λh=>?_⟩,(λi h=>h.elim),λe he i U=>⟨?_,λh=>h.elim⟩,(λ_ h=>by cases h)⟩
    .have:=Q'.o.aw m8 h;omega
    .have:=hv R h;omega
    .have:=(Q'.i e he).M i U;omega
   obtain⟨fv,bu⟩:∃fv:Aa,fv=.func (.func 140) #[] #[AG xs 0,AG q 0]:=⟨_,B⟩;rw[←bu] at bt;refine⟨λμ A hh=>∃(k:Nat) (ov:Aa),A=[(4,Vi n),(5,AG lb 0),(6,AG K 0),(11,AG xs 0),(12,AG q 0),(13,AG R 0),(14,.map (I m8)),(15,ov)]/\μ=25000000000000-k/\gJ ⟨V,F,T,g⟩ r (min n 200) gc q m8 R fv k ov hh,
    ⟨_,_,CG (l:=[(4,_),(5,_),(6,_),(11,_),(12,_),(13,_),(14,.map (I m8)),(15,sN)]) ⟨B,B,B,B,B,B,Cs (λz=>I (Value.map (I z))) bs.symm,B,trivial⟩,G,0,sN,B,B,Al _,(λi U=>Cf U (F5 i)),n',v',af,[],[],bt,pm,(λCw=>⟨(λh=>by cases h),(λh=>by cases h)⟩),(λCw z h=>by cases h),B⟩,?_⟩
   rintro μ A hh ⟨k,ov,rfl,rfl,hk,ai,m,v,es,os,l',P,hp,aj,ak,al⟩ ds;obtain⟨A1,c1,rfl⟩:∃A c,v=.slice A m c:=by obtain⟨_,A,c,e,_⟩:=P.Q.o.rd;exact⟨A,c,e⟩
   obtain⟨bv,c2,rfl⟩:∃A c,ov=.slice A (LB os) c:=by obtain⟨_,A,c,e,_⟩:=P.O.rd;exact⟨A,c,e⟩
   have cm:=P.Q.len;have dt:LB os=(A6.St ⟨V,F,T,g⟩ r k).2.2.length:=by rw[←al,A4]
   have Da:((A6.St ⟨V,F,T,g⟩ r k).1=[]\/min n 200<=((A6.St ⟨V,F,T,g⟩ r k).2.2.length:Int))->AA h hh/\ol h hh V F T r g n (.slice bv (LB os) c2):=λhe=>
    ⟨((X.then (cc.mono λi U=>U) λi U=>by rw[show i=rm from U];exact bl).trans P.x:AA h hh),.inr ⟨hF,k,os,⟨ai,he⟩,al,P.O.mono (by have:=X.a;have:=cc.a;omega),λe he=>⟨(P.I e he).n.one,by
     have a:=(A6.CV b.ok ae.A hF r k λi U=>(ai i U).1).oo e.P (al▸Gn he);have:=a.b;have:=a.len;have:=a.j;have h1:(A6.mk V F T g).T=T:=B;have h2:(A6.mk V F T g).F=F:=B;have h3:0<=F/\F<T/\T<=(LB V.fs:Int):=hF;omega⟩⟩⟩
   refine⟨_,ld B (P.Q.c.cell (i:=0) B),Bz (λk1=>?_) (λk1=>?_)⟩;rotate_left
   .have cq:es=[]:=BO G
    rw[cq] at hp;exact Da (.inl hp.symm.eq_nil)
   intro z hz;apply Bz<;>intro k2;rotate_left
   .exact Da (.inr G)
   have bb:=A6.CV b.ok ae.A hF r k λi U=>(ai i U).1;have du:=bb.sum b.ok (by show T-F<=64;have h1:0<=F/\F<T/\T<=(LB V.fs:Int):=hF;have:LB V.fs<=64:=hN.2;omega) G;have bw:(A6.St ⟨V,F,T,g⟩ r k).1.length=m:=by rw[←hp.length_eq,A4,cm]
   obtain⟨m',rfl⟩:∃m',m=m'+1:=⟨m-1,G⟩;refine⟨_,xi P.Q P.hp G d G,?_⟩;rintro w am ⟨p,v1,dv,rfl,pm,ct,cu,cv,gh,b1⟩;obtain⟨P1,ip,fp⟩:=P.pop pm cu cv gh b1;obtain⟨q1,ar,a1⟩:=Aia bb hp pm ct;obtain⟨dw,cw,bc,cy,bd⟩:=(aH.nil am).var (τ:=Ax) (t:=260) (z:=.pointer Z) Kq (v:=AG p.b 0) B B B;refine⟨_,_,B,_,_,cw _,_,cy,?_⟩;have a2:=bb.ok p.P ((HN ar).1.mem_iff.2 Av);have au:=ip.C bd.e;have PT:aC bc am.a 0 (AG p.b 0):=bd.q 0 0 B B;obtain⟨be,cz,f⟩:=p;obtain⟨dx,an,rfl⟩:∃A c,cz=.slice A (LB f.ns) c:=by obtain⟨_,A,c,e,_⟩:=au.n;exact⟨A,c,e⟩
   have bp:0<LB f.ns:=List.length_pos_iff.2 a2.ne;obtain⟨ag,rfl,ql⟩:=au.n.int (k:=LB f.ns-1) G;have dy:LB f.ns<=1000000:=au.l;have c0:f.ns[LB f.ns-1]'G=f.C:=by
    unfold Ed.C;rw[List.getLastD_eq_getLast?,List.getLast?_eq_getElem?,Ab G];rfl
   rw[c0] at ql;obtain⟨c3,c5,c6,c7,av⟩:=bd.cx (τ:=Ax) (t:=3) (z:=Vi 0) Kq (v:=Vi f.C) B B B;refine⟨[],Kq,_,ld B PT,_,ld B (au.c 0 _ B),_,ld B PT,_,ld B (au.c 0 _ B),Pq,G,_,Dz (ld B ql) (by show ag.off+(((LB f.ns:Nat):Int)-1).toNat*1=ag.off+(LB f.ns-1)*1;omega),_,_,c5 _,_,c7,?_⟩;have Xc:=av.q 0 0 B B;have PT:=av.q 1 0 B B;obtain⟨dz,c8,ea,c9,a3⟩:=av.cx (τ:=Ax) (t:=271) (z:=.agg #[Vi 0,Sg ⟨#[]⟩]) Kq (v:=.agg #[Vi f.C,Sg f.b]) B B B;have PT:=a3.q 2 0 B B;obtain⟨Cw,ao⟩:∃Cw,Cw=A6.Cw f:=⟨_,B⟩;have a4:k<25000000000000:=G;have a5:(A6.St ⟨V,F,T,g⟩ r k).1≠[]:=λe=>by rw[e] at bw;cases bw
   have a6:((A6.St ⟨V,F,T,g⟩ r k).2.2.length:Int)<min n 200:=G;have Sm:0<=(N3 Cw l').getD 0/\(N3 Cw l').getD 0<=k:=by
    cases h2:N3 Cw l' with
    |none=>exact⟨Int.le_refl _,by show(0:Int)<=_;omega⟩
    |some y=>have:=ak Cw y h2;show 0<=y/\y<=_;omega
   have eb:m8<am.a:=P1.S.1;have da:f.b=Cw.2:=by rw[ao];rfl
   refine⟨[],Kq,_,ld B Xc,_,ld B (av.q 1 0 B B),_,ld B ((ip.C av.e).c 3 _ B),_,_,c8 _,_,c9,_,ld B PT,_,ld B ((ip.C a3.e).c 4 _ B),Ad (λkd=>?_) (λkd=>?_)⟩;obtain⟨ec,db,aa⟩:=a3.sT 3 0 0 (Vi (-1)) B (Ac B) B;have bx:Cw.1=-1:=by rw[ao];exact Bi kd
   refine⟨_,db,?_⟩;rotate_left;have aa:=a3;have bx:Cw.1=f.C:=by rw[ao];exact Bm (by rw[kd];simp)
   all_goals
    have aa:=aa.cast (l':=[aO ((bc.M c3).M c6).a 271 [Vi Cw.1,Sg Cw.2],aO bc.a 3 [Vi f.C],aO am.a 260 [AG be 0]]) (by rw[bx,←da];rfl);have dc:=P1.C aa.e;obtain⟨ev,st,ed,ee,e1,e2,e3,C,Sn,dd,e4⟩:=Akq dc Cw;have W:=(ip.C aa.e).O Sn λi U=>(fp i U).1;have kc:=(aa.dD 0 B).cells;have kn:∀{i:Nat},am.a<=i->¬i=m8:=λh=>G;have b1:=aa.ge 1 B _ B;have k2:=kc.O Sn (kn (aa.ge 0 B _ B));have PT:=(aa.q 2 0 B B).O Sn (kn (Ae _));have Xc:=(aa.q 1 0 B B).O Sn (kn b1);have aw:=C.x;have bz:=ae.C aw;obtain⟨_,b0,rfl,q2⟩:=bz.M (j:=f.C) a2.j.1;have de:aC _ K 1 (Vi T):=(cp.C aw).at (i:=1) B;have ef:=P1.Q.c.1;have bf:=cs.C aw;have b2:=bz.c 1 _ B;have eg:f.C<(A6.mk V F T g).V.ns.length:=a2.j.1;have bg:=P1.Q.o.aw;refine⟨[.x 4 2],Kq,_,EQ (k:=2) Kq kc B,_,_,Cs (CN _) e1,Pq,_,_,e2,⟨dd,B⟩,_,_,Cs Nb e3,_,EQ (k:=2) Kq k2 B,_,_,Cs (CN _) e4,Bz (λk3=>?_) (λk3=>?_)⟩
    .have b3:Cw∈(A6.St ⟨V,F,T,g⟩ r k).2.1:=by
      rw[←aj];cases h2:N3 Cw l' with
      |none=>rw[h2] at k3;exact Cf k3 xc
      |some y=>rfl
     exact⟨_,_,Sq,(by show 25000000000000-(k+1)<_;omega),k+1,_,B,B,gJ.next a4 ai a5 a6 aj ak (A6.Aui ar (ao▸b3)) C a1 (λj=>⟨.inr,λh=>h.elim (λe=>by rw[e];exact b3) id⟩) al⟩
    have bh:¬A6.Cw f∈(A6.St ⟨V,F,T,g⟩ r k).2.1:=λh=>by
     rw[←ao,←aj] at h;cases h2:N3 Cw l' with
     |none=>rw[h2] at h;cases h
     |
      some y=>
      have:=ak Cw y h2;rw[h2] at k3;have h3:¬(1:Int)<y+1:=k3;omega
    have hK:∀j,j∈A6.Cw f::(A6.St ⟨V,F,T,g⟩ r k).2.1↔j=Cw\/j∈(A6.St ⟨V,F,T,g⟩ r k).2.1:=λj=>by rw[ao];exact bZ
    refine⟨_,ld B PT,_,ld B (W.c 4 _ B),Ad (λk4=>?_) (λk4=>?_)⟩
    .obtain⟨gx,z1,xx,v',J,z3,z4,z5,z6⟩:=Aef (τ:=Ax) (st:=92) (t2:=92) (e:=77) (k:=3) Kq C.O (ys:=Lg ⟨be,.slice (I ag) (LB f.ns) an,f⟩) B B aw.a G
     subst z1;exact⟨[],Kq,_,ld B PT,_,ld B (W.c 0 _ B),_,ld B PT,_,ld B (W.c 2 _ B),_,ld B PT,_,ld B (W.c 3 _ B),_,_,i3 92 77 3 (.agg #[.slice (I ag) (LB f.ns) an,Vi f.a,Sg f.b]) _,_,_,z3,_,_,Sq,(by show 25000000000000-(k+1)<_;omega),k+1,_,B,B,gJ.next a4 ai a5 a6 aj ak (A6.Azk ar bh k4) ((C.C xx).out z5.M z4.M z6 (W.C xx) fp) a1 hK (by rw[BS,al];rfl)⟩
    refine⟨[],Kq,_,ld B bf,_,ld B b2,_,ld B Xc,G,_,Dz (ld B (q2 1 _ B)) (by show b0.off+((f.C:Nat):Int).toNat*7+1=_;omega),_,ld B de,Bz (λk5=>?_) (λk5=>?_)⟩
    .obtain⟨eh,df,a7⟩:=(aH.nil _).cT (τ:=Ax) 262 (.agg #[.slice (I ag) (LB f.ns) an,Vi f.c,Vi f.a,Sg f.b,.bool Ag])
     have ap:=C.C a7.e;have ei:=a7.e.a;have dg:=aa.e.a;have dh:=Sn.a;have di:Ix _ ⟨_,.slice (I ag) (LB f.ns) an,⟨f.ns,f.c,f.a,f.b,Ag⟩⟩:=⟨λi v U=>a7.q 0 _ B U,(W.C a7.e).n,W.l⟩;have ft:∀i,i=_\/BY (.slice (I ag) (LB f.ns) an) i->i≠m8/\¬BY (.slice bv (LB os) c2) i/\i≠q/\¬BY v1 i:=λi U=>U.elim (λe=>by
      have h1:am.a<=i:=by rw[e];exact Ao dg dh
      exact⟨G,λh=>by have:=C.O.aw i h;omega,G,λh=>by have:=bg i h;omega⟩) λh=>fp i (.inr h)
     refine⟨[.w 20],Kq,_,ld B PT,_,ld B (W.c 0 _ B),_,ld B PT,_,ld B (W.c 1 _ B),_,ld B PT,_,ld B (W.c 2 _ B),_,ld B PT,_,ld B (W.c 3 _ B),_,_,df,_,pE (ap.Q.C (AA.ad _)) ap.hp (di.C (AA.ad _)) (λi U=>⟨(ft i U).2.2.2,(ft i U).2.2.1⟩) ap.x.a G d G,?_⟩;rintro _ ej ⟨v',af,Q',b4,aq,c',b'⟩;refine⟨ap.Q.dr c',_,_,Sq,(by show 25000000000000-(k+1)<_;omega),k+1,_,B,B,gJ.next a4 ai a5 a6 aj ak (A6.Azl ar bh (by rw[k4];simp) k5) (ap.queue c'.M Q'.M aq (λi U=>(b' i U).imp id λh=>h) λe he i U=>?_) ((b4.map IE.P).trans (a1.cons _)) hK al⟩
     rcases bZ.1 (b4.mem_iff.1 he) with h1|h1
     .subst h1;exact⟨(ft i U).1,(ft i U).2.1⟩
     .exact ap.fz e h1 i U
    refine⟨[.w 10],Kq,_,ld B bf,_,ld B bf,_,ld B b2,_,ld B Xc,G,_,Dz (ld B (q2 1 _ B)) (by show b0.off+((f.C:Nat):Int).toNat*7+1=_;omega),_,ACk (p:=⟨be,.slice (I ag) (LB f.ns) an,f⟩) (aw.trans (AA.ad _)) ae b.ok bm hl sm cs cl (by rw[←bu];exact C.A.C (AA.ad _)) ⟨C.ne.2.1,C.vs.2⟩ (PT.C (AA.ad _)) ⟨G,λh=>by have:=bg _ h;omega⟩ (Xc.C (AA.ad _)) ⟨G,λh=>by have:=bg _ h;omega⟩ (W.C (AA.ad _)) (λi U=>⟨(fp i U).2.2.1,(fp i U).2.2.2⟩) a2 ⟨hF.1,G⟩ (C.Q.C (AA.ad _)) C.ge.1 C.hp G d G,?_⟩;rintro _ ek b5;obtain⟨n4,v4,en,dj,dk⟩:=C.cM (b5.M (AA.refl _));exact⟨b5.ok C.Q,_,_,Sq,(by show 25000000000000-(k+1)<_;omega),k+1,_,B,B,gJ.next a4 ai a5 a6 aj ak (A6.Auj ar bh (by rw[k4];simp) k5) dj (dk.trans (a1.append_left _)) hK al⟩
  refine⟨_,_,y1,_,_,y2,_,_,y3,[],Kq,_,ld B cl,_,B,_,ld B cF,Ad (λk1=>?_) (λk1=>?_)⟩
  .exact a9 ah (.inl (Fp k1))
  have k1:=KK k1;refine⟨_,ld B cF,_,ld B cT,Ad (λk2=>?_) (λk2=>?_)⟩
  .exact a9 ah (.inr (.inl (Fp k2)))
  have k2:=KK k2;refine⟨_,ld B cT,_,ld B cl,_,gh (h:=u.ad) (bk.C (AA.ad u)) d G,?_⟩;rintro _ _ ⟨rfl,rfl⟩;refine⟨B,?_⟩;have ad:AA u (nb u):=AT (AA.refl u);apply Ad<;>intro k3
  .exact a9 (ah.trans ad) (.inr (.inr (Fp k3)))
  have k3:=KK k3;have b6:=bk.C ad;have a8:=cl.C ad;have c4:=(by rw[ay];exact(s3.dD 1 B).cells:BK u K 0 [Vi F,Vi T]).C ad;refine⟨[],Kq,_,ld B a8,_,ld B a8,_,iF (h:=(nb u).ad) (b6.C (AA.ad _)) ok d G,?_⟩;rintro nv h5 ⟨x5,o5⟩;refine⟨x5.C,?_⟩;have ax:AA (nb u) ((nb u).M h5):=x5.M;obtain⟨az,cn,rfl⟩:∃A c,nv=.slice A (LB V.ns) c:=by obtain⟨_,A,c,e,_⟩:=o5.rd;exact⟨A,c,e⟩
  obtain⟨o,b7⟩:∃o,o=(nb u).M h5:=⟨_,B⟩;rw[←b7] at ax⊢;have dl:=c4.C ax;have s6:=(aH.nil o).cf (a:=aB o.ad.a (.map [] 0)) (J:=o.ad.new (.map [] 0)) (AA.new _ _) ⟨by rw[Ck];omega,by rw[CK,Bi B]⟩ λi U=>by rw[show i=o.ad.a from U,BF];exact Ae _
  obtain⟨g7,y7,s7⟩:=s6.cT (τ:=Ax) 257 (.agg #[AG lp 0,.slice az (LB V.ns) cn,Vi F,Vi T,Vi g,.map (I o.ad.a)]);obtain⟨g8,y8,g9,y9,s9⟩:=s7.cx (τ:=Ax) (t:=254) (z:=.pointer Z) Kq (v:=AG (o.M (o.ad.new (.map [] 0))).a 0) B B B;have hx:(o.M (o.ad.new (.map [] 0))).a=o.a+1:=by rw[CL,Ck,BF]
  have bl:o.ad.a=o.a:=BF _;have n0:=ah.a;have n4:=ad.a;have n5:=ax.a;have l1:=a8.1;have l2:=(cF.C ad).1;have l3:=(cr.C ad).1;have E:=ax.trans s9.e;have eo:o.a+1<=((o.M (o.ad.new (.map [] 0))).M g7).a:=by
   have:=(s7.dD 0 B).1;omega
  have dm:Rd o (.slice az (LB V.ns) cn) 7 (LB V.ns) (V.ns.flatMap Bt):=by rw[b7];exact o5.rd.M
  exact⟨_,EQ (k:=2) Kq (show BK o K 0 [Vi F,Vi T] from dl) B,_,_,y7,_,_,y8 _,_,y9,[(4,Vi n),(5,AG lb 0),(6,AG K 0),(7,AG rb 0),(11,_)],Sq,lb,K,rb,_,_,o.ad.a,.slice az (LB V.ns) cn,o,B,(ah.trans ad).trans E,⟨ok,b6.C ax,dm,G,by show 0<=F/\F<T/\T<=(LB V.fs:Int);omega⟩,s9.e,(by rw[hx];omega),(λi v U=>s9.q 1 _ B U),⟨(s9.2.1 2 _ B).1.1,[],0,s9.a7 2 B,B⟩,⟨a8.C E,G⟩,⟨c4.C E,G⟩,⟨(cr.C ad).C E,G⟩,s9.q 0 0 B B,G,G⟩
end
section
variable{S:A9} {L:Nat} [aF S L]
section
variable {h J h0 h1 H:Y} {v fv nv pv cv ev lv u v':Aa} {xs args vs ys:AH} {n b N i k e r j x m c q d a p t2 sb mo ck lp rm b0 sz off:Nat} {t:Ai} {f:Au} {fn:BC} {s:Bd} {bs:Bl} {ws:Bo} {W:Nat->Prop} {Q:Aa->Y->Prop} {A:Option BD} {z df day:Int} {ss:BZ} {τ:Bb}
def I5 (h:Y) (b:Nat) (e:Ai) (xs:AH):Prop:=b<h.a/\∃c,h.t.get b=I (.cells c (LB xs) e 0 0 Ag)/\∀(i:Nat) v,xs[i]?=I v->c.get i=I v
def I5.dD (o:I5 h b e xs):aQ h b e xs:=by
 let⟨h1,c,a,d⟩:=o;exact⟨h1,c,Ag,a,d⟩
def I5.O (o:I5 h b e xs) (x:B0 W h J) (a:¬W b):I5 J b e xs:=by
 let⟨hb,c,h1,d⟩:=o;exact⟨AC hb x.a,c,x.t b hb a▸h1,d⟩
def I5.M (o:I5 J b e xs):I5 (h.M J) b e xs:=by
 unfold I5;rw[CL,DF];exact o
def I5.row (h:Y) (e:Ai) (xs:AH):I5 (BN h e xs) h.a e xs:=
 ⟨by show _<(h.new _).a;rw[Ck];omega,_,by show(h.new _).t.get _=_;rw[CK,Bi B],λ_ _ U=>NP xs U⟩
def I5.st (a:Gv τ t=Ag) (o:I5 h b e xs) (j:i<LB xs) (l:one v=Ag):
 ∃J,BA τ t h b i v=I J/\I5 J b e (xs.set i v)/\Er b h J:=by
 let⟨hb,c,d,f⟩:=o;have g:AJ v=[v]:=by cases v<;>first|rfl|cases l
 refine⟨h.put b (.cells (T.laid [v] i c) (LB xs) e 0 0 Ag),?_,⟨Jq,_,by rw[BQ,Bi B,B4],OF [v] xs i c f Jq⟩,Er.put _ _ _⟩;unfold Gv at a;split at a
 .rename_i k U
  unfold BA Gi;simp[U,g,d];have:RP (LB xs) 0 0 i 1=Ag:=by unfold RP;simp;omega
  simp[Af a,this,l]
 .cases a
def NA [a:aF S L] {e:KS} (b:Ax.fn.get f=I fn) (hb:fn.body=Z) (c:Ax.ex.get f=I e) (d:Nf.contains f=Ah) (i:R6 Ax e args h=I (v,J)):Bk S L 1 f args h λw g=>w=v/\g=J:=by
 intro n l;obtain⟨m,rfl⟩:∃m,n=m+1:=⟨n-1,G⟩;let⟨h1,j,_⟩:=a.plain f d;refine⟨v,J,⟨B,B⟩,λk kp=>?_⟩;rw[Kl h1 j];unfold DY;simp[b,hb,c,i]
def Gc (h:Y) (N:Nat) (v:Aa) (bs:Bl):Prop:=
 (v=.slice Z 0 0/\bs=[])\/∃b c a x,v=.slice (I ⟨b,0,Z⟩) (LB bs) c/\N<=b/\LB bs<=c/\c≠0/\b<h.a/\h.t.get b=I (.cells a c 5 0 0 x)/\∀(i:Nat) u,(Ay bs)[i]?=I u->a.get i=I u
section
variable{h J:Y} {N b:Nat} {v:Aa} {bs:Bl} {l:List Ct}
def Gc.O (o:Gc h N v bs) (x:B0 W h J) (d:∀i,BY v i->¬W i):Gc J N v bs:=by
 rcases o with o|⟨b,c,e,y,rfl,f,g,j,a,k,l⟩
 .exact .inl o
 .exact .inr ⟨b,c,e,y,B,f,g,j,AC a x.a,x.t b a (d b B)▸k,l⟩
def Gc.C (o:Gc h N v bs) (x:AA h J):Gc J N v bs:=o.O (x.O λ_=>False) λ_ _ h=>h
def Gc.M (o:Gc J N v bs):Gc (h.M J) N v bs:=by
 unfold Gc;rw[CL,DF];exact o
def Gc.lt (o:Gc h N v bs):∀i,BY v i->i<h.a:=by
 rcases o with⟨rfl,_⟩|⟨b,c,d,y,rfl,_,_,_,a,_⟩
 .exact λi U=>U.elim
 .exact λi U=>(U)▸a
def Gc.ge (o:Gc h N v bs):∀i,BY v i->N<=i:=by
 rcases o with⟨rfl,_⟩|⟨b,c,d,y,rfl,a,_⟩
 .exact λi U=>U.elim
 .exact λi U=>(U)▸a
def Gc.one (o:Gc h N v bs):one v=true:=by
 rcases o with⟨rfl,_⟩|⟨b,c,a,y,rfl,_⟩<;>rfl
def Gc.lit (o:Gc h N v bs):∃A c,v=.slice A (LB bs) c:=by
 rcases o with⟨rfl,rfl⟩|⟨b,c,a,y,rfl,_⟩<;>exact⟨_,_,B⟩
def mZ (p:G1 Ax 98 t2 5 1=Ag) (o:Gc h N v bs) {x:Aa} {cs:Bl} (q:MM x=I (LB cs)) (r:MN 1 h x (LB cs)=I (Ay cs)) (f:N<=h.a) (hb:LB bs+LB cs<=1000000000):
 ∃M J,Bx Ax .append [98,t2] [v,x] h=I (M,J)/\Gc J N M (bs++cs)/\B0 (BY v) h J/\(∀i,BY M i->BY v i\/h.a<=i):=by
 obtain⟨X,s,i,z,W,V,S,Z,R,Q,P⟩:=In p;have w:E3 (LB cs*i.bytes)=true:=Ha (by
  have:LB cs*i.bytes<=1000000000*1024:=Cj G P;omega)
 have A:E3 (LB cs)=true:=Ha G
 suffices H:∃M J,Gj Ax [98,t2] [v,x] h=I (M,J)/\Gc J N M (bs++cs)/\B0 (BY v) h J/\(∀i,BY M i->BY v i\/h.a<=i) by
  obtain⟨M,J,C,D⟩:=H;exact⟨M,J,by simp[Bx,C],D⟩
 unfold Gj;simp only[List.head?_cons,s,I0,X,W,q,V,S,r,R,Q,(by rw[Fa];rfl:(AD 0 1&&(Ay cs).all one&&Am 1 1&&Ag)=Ag),D1];have Y:∀{c:T Aa},(∀(i:Nat) u,(Ay bs)[i]?=I u->c.get i=I u)->∀(i:Nat) u,(Ay (bs++cs))[i]?=I u->(T.laid (Ay cs) (LB bs) c).get i=I u:=λE i u U=>by
  rw[T.O,A7];rw[Ee,gM,A7] at U;split at U
  .rw[Bm G];exact E i u U
  .have:=(cG.1 U).1
   rw[A7] at this;rw[Bi G];exact U
 rcases o with⟨rfl,rfl⟩|⟨b,c,g,y,rfl,j,F,k,l,a,d⟩
 .cases cs with
  |nil=>exact⟨_,_,B,.inl ⟨B,B⟩,(AA.refl h).O _,λi U=>U.elim⟩
  |
   cons m cs=>
   simp only[w,A];exact⟨sL h.a (LB cs+1) (LB cs+1),Go.Ev.HY h 5 (Ay (m::cs)),B,.inr ⟨h.a,_,_,Ah,B,f,Ae _,Nat.succ_ne_zero _,by show _<(h.new _).a;rw[Ck];omega,by show(h.new _).t.get _=_;rw[CK,Bi B,A7];rfl,λ_ _ U=>NP _ U⟩,(AA.a4 h 5 _).O _,λi U=>.inr (A2 U.symm)⟩
 .simp only[]
  cases e:Ar (LB bs+LB cs) c with
  |
   true=>
   have K:=Ac e;have st:Gi h b (0+LB bs*1) (Ay cs)=I (h.put b (.cells (T.laid (Ay cs) (LB bs) g) c 5 0 0 y)):=by
    unfold Gi;have:RP c 0 0 (0+LB bs*1) (Ay cs).length=true:=by unfold RP;rw[A7];simp;omega
    simp only[a,this,Fa];rw[Ba,BJ];rfl
   simp only[D1,st];cases cs with
   |nil=>exact⟨_,_,B,.inr ⟨b,c,g,y,by simp,j,by simpa using F,k,l,a,by simpa using d⟩,(AA.refl h).O _,λi U=>.inl U⟩
   |cons m cs=>exact⟨_,_,B,.inr ⟨b,c,_,y,by rw[Aj],j,by rw[Aj];exact K,k,by rw[Cc];exact l,by rw[BQ,Bi B],Y d⟩,(Er.put h b _).O,λi U=>.inl U⟩
  |
   false=>
   have L:c<LB bs+LB cs:=by
    rcases A8 c (LB bs+LB cs) with h|h
    .exact h
    .rw[Aq h] at e;cases e
   have n:=HQ λi u U=>by rw[Ba];exact d i u U
   rw[A7] at n;simp only[I0,(M2 hb P:Tx (LB bs+LB cs) i.bytes=Ag),Bool.and_self,D1,a,(B:Am 5 5=Ag),BJ,n,(B:Ar 0 0=Ag),Bool.true_or,Mh];refine⟨sL h.a (LB bs+LB cs) (LB bs+LB cs),(h.put b .dead).new (.cells (T.laid (Ay bs++Ay cs) 0 .nil) (Ay bs++Ay cs).length 5 0 0 Ah),by rw[show Am (0+c) c=Ag by simp];rfl,.inr ⟨h.a,_,_,Ah,by rw[Aj],f,by rw[Aj];exact Ae _,G,by rw[Ck,Cc];omega,?_,λi u U=>NP _ U⟩,?_,λi U=>.inr (A2 U.symm)⟩
   .rw[CK,Bi (Cc _ _ _).symm,←Ee,A7,Aj]
   .exact((Er.put h b .dead).O).trans ((AA.new _ _).O _)
def VA {a:T Aa} {x:Bool} (hb:h.t.get b=I (.cells a c 5 0 0 x)) (f:∀(i:Nat) u,(Ay bs)[i]?=I u->a.get i=I u) (g:LB bs<=c) (h0:0<LB bs) (m:LB bs<=1000000000):∃J,Bx Ax .unsafeString [437,3] [AG b 0,Vi (LB bs)] h=I (.string ⟨⟨bs⟩⟩,J)/\Er b h J:=by
 have d:=HQ λi u U=>by rw[Ba];exact f i u U
 rw[A7] at d;have j:Ax.ds.get 437=I (.pointer 5):=by rfl
 have k:Ax.ds.get 5=I (.int .u8):=by rfl
 obtain⟨i,U,l⟩:∃i,Ax.b.get 5=I i/\i.size=1:=⟨_,B,B⟩;refine⟨_,?_,Er.put h b (.cells a c 5 0 (LB bs) x)⟩
 .simp[Bx]
  unfold EP;simp[(B:(AL IntKind.i64 (LB bs:Int))=Vi (.ofNat (LB bs))),AG,(MK.2 λe=>by have:=Af e;omega:Am (LB bs) 0=Ah),I0,Ha (show LB bs<=1099511627776 by omega),D1,j,hb,Ba,Aq g,k,U,l,d,EM];rfl
structure Ey (h:Y) (N b:Nat) (v:Aa) (bs:Bl):Prop where
 c:I5 h b 363 [.pointer Z,v]\/I5 h b 363 [AG b 0,v]
 o:Gc h N v bs
 ne:¬BY v b
def Gu (h J:Y) (N b:Nat) (v:Aa) (bs:Bl):Prop:=∃c,Ey J N b c bs/\B0 (λi=>i=b\/BY v i) h J/\∀i,BY c i->BY v i\/h.a<=i
def Ey.O (H:Ey h N b v bs) (c:B0 W h J) (a:∀i,i=b\/BY v i->¬W i):Ey J N b v bs:=
 ⟨H.c.imp (λo=>o.O c (a _ (.inl B))) λo=>o.O c (a _ (.inl B)),H.o.O c λi U=>a i (.inr U),H.ne⟩
def Ey.C (H:Ey h N b v bs) (x:AA h J):Ey J N b v bs:=H.O (x.O λ_=>False) λ_ _ h=>h
def Ey.lt (H:Ey h N b v bs):b<h.a:=H.c.elim (λo=>o.1) λo=>o.1
def Ey.cell (H:Ey h N b v bs):aC h b 1 v:=H.c.elim (λo=>o.dD.cell B) λo=>o.dD.cell B
def RK (N b:Nat) (v:Aa) (bs:Bl):Ct:={
 C:=λi=>i=b\/BY v i
 holds:=λh=>Ey h N b v bs
 a:=λc a o=>o.O c a
 lt:=λo i U=>U.elim (λe=>e▸o.lt) λh=>o.o.lt i h
 M:=λo=>⟨o.c.imp I5.M I5.M,o.o.M,o.ne⟩}
def aH.bf (s:aH h0 h l) (i:Nat) {d:Bl} (U:l[i]?=I (RK N b v bs)) (p:Gu h J N b v d):∃e,aH h0 J (l.set i (RK N b e d)):=by
 let⟨e,H,c,q⟩:=p;refine⟨e,s.ah _ U c H λx a=>?_⟩;rcases a with a|a
 .exact .inl (.inl a)
 .exact(q x a).imp .inr id
def aH.M (s:aH h0 h l) (i:Nat) (U:l[i]?=I (RK N b v bs)):Ey h N b v bs:=(s.2.1 i _ U).1
def aH.a3 (s:aH h0 h l):∃g,(∀A,D9 Ax A h (.alloc 363)=I (AG h.a 0,g))/\aH h0 g (RK h0.a h.a (.slice Z 0 0) []::l):=by
 refine⟨BN h 363 [.pointer Z,.slice Z 0 0],λA=>Kq,s.add (AA.row _ _ _) ⟨.inl (I5.row _ _ _),.inl ⟨B,B⟩,λh=>h⟩ λi U=>?_⟩;rcases U with U|U
 .exact A2 U.symm
 .exact U.elim
def Ey.put (H:Ey h N b v bs) (c:B0 (BY v) h h1) {d:Bl} (o:Gc h1 N v' d) (hb:∀i,BY v' i->BY v i\/h.a<=i):∃J,BA Ax 98 h1 b 1 v'=I J/\Ey J N b v' d/\B0 (λi=>i=b\/BY v i) h J/\∀i,BY v' i->BY v i\/h.a<=i:=by
 have l:=H.lt;have g:=λj=>(hb b j).elim H.ne λh=>G;have m:∀{a:Aa} {J},I5 J b 363 [a,v']->(a=.pointer Z\/a=AG b 0)->Er b h1 J->Ey J N b v' d/\B0 (λi=>i=b\/BY v i) h J/\∀i,BY v' i->BY v i\/h.a<=i:=λo' k u=>
  ⟨⟨k.elim (λe=>.inl (e▸o')) λe=>.inr (e▸o'),o.O u.O λi U e=>g (e▸U),g⟩,(c.mono λi=>.inr).trans (u.O.mono λi=>.inl),hb⟩
 rcases H.c with o'|o'
 .obtain⟨J,e,f,u⟩:=(o'.O c H.ne).st Kq (by show 1<2;decide) o.one
  exact⟨J,e,m f (.inl B) u⟩
 .obtain⟨J,e,f,u⟩:=(o'.O c H.ne).st Kq (by show 1<2;decide) o.one
  exact⟨J,e,m f (.inr B) u⟩
def vC {c:T Aa} (a:h.t.get b=I (.cells c 2 363 0 0 Ag)):Ea Ax 361 475 (AG b 0) h=I (AG b 0,h)/\Ea Ax 475 361 (AG b 0) h=I (AG b 0,h):=by
 have f:Ax.ds.get 361=I (.pointer 363):=B
 have e:Ax.ds.get 475=I .unsafePointer:=B
 obtain⟨i,U,d⟩:∃i,Ax.b.get 363=I i/\i.size=2:=⟨_,B,B⟩;unfold Ea;constructor
 .simp[f,e,AG,U,a,d];rfl
 .simp[f,e,AG,U,a,d];rfl
def Ari {ox oy:BU}:Jo Ax .neq 361 ox oy (AG b 0) (AG b 0)=I (.bool Ah):=by
 obtain⟨i,U,a⟩:∃i,Ax.b.get 363=I i/\i.size=2:=⟨_,B,B⟩;unfold Jo;simp[Jq,AG,U,a,Mi];rfl
def kx (H:Ey h N b v bs):Bk S L 2 304 [AG b 0] h λ_ J=>Ey J N b v bs/\B0 (·=b) h J:=
 Cn f304 λd l _=>by
  rcases H.c with o|o
  .refine⟨_,ld B (o.dD.cell B),_,B,?_⟩
   obtain⟨f,c,a,j⟩:=o;obtain⟨g,e,k,u⟩:=I5.st (τ:=Ax) (t:=361) Kq ⟨f,c,a,j⟩ (by show 0<2;decide) (v:=AG b 0) B;refine⟨_,(vC a).1,_,NA (e:=.aU) (fn:=f358) Kq B Kq B B d G,?_⟩;rintro _ _ ⟨rfl,rfl⟩;exact⟨_,(vC a).2,_,e,⟨.inr k,H.o.O u.O λi U e=>H.ne (e▸U),H.ne⟩,u.O⟩
  .refine⟨_,ld B (o.dD.cell B),_,B,_,ld B (o.dD.cell B),_,Ari,H,(AA.refl h).O _⟩
def Gu.pre (c:B0 (·=b) h h1) (w:Gu h1 J N b v bs):Gu h J N b v bs:=by
 let⟨v',H,a,q⟩:=w;exact⟨v',H,(c.mono λi=>.inl).trans a,λi U=>(q i U).imp id λh=>Ao c.a h⟩
def eQ (H:Ey h N b v bs) (e:N<=h.a) (f:LB bs+aL s<=1000000000):Bk S L 3 220 [AG b 0,.string s] h λ_ J=>Gu h J N b v (bs++aI s.data):=
 Cn f220 λd l _=>by
  refine⟨_,kx H d G,λ_ p ⟨a,c1⟩=>?_⟩;obtain⟨m,n,c,g,i,j⟩:=mZ Kq a.o B (Zp s) (Ao e c1.a) f;obtain⟨o,k,w⟩:=a.put i g j;exact⟨_,ld B a.cell,_,_,c,_,k,Gu.pre c1 ⟨_,w⟩⟩
def AEi (H:Ey h N b v bs) {x:UInt8} (f:N<=h.a) (g:LB bs+1<=1000000000):Bk S L 3 322 [AG b 0,.int .u8 (dE x:Int)] h λ_ J=>Gu h J N b v (bs++[x]):=
 Cn f322 λd n _=>by
  refine⟨_,kx H d G,λ_ e ⟨c,c1⟩=>?_⟩;have a:=AA.row e 5 (Ay [x]);obtain⟨o,p,r,j,k,l⟩:=mZ Kq (c.o.C a) (x:=sL e.a 1 1) (cs:=[x]) B (by rw[Il (aQ.row e 5 (Ay [x])) (Ae 1)];rfl) (Ao f (Ao c1.a a.a)) g;let⟨q,m,w⟩:=c.put ((a.O _).trans k) j λi U=>(l i U).imp id λh=>Ao a.a h;exact⟨_,ld B c.cell,_,_,hY x e,_,_,r,_,m,Gu.pre c1 ⟨_,w⟩⟩
def gg (H:Ey h N b v bs) (j:LB bs<=1000000000):Bk S L 1 221 [AG b 0] h λw J=>w=.string ⟨⟨bs⟩⟩/\B0 (BY v) h J:=
 Cn f221 λd p _=>by
  have a:=H.cell;rcases H.o with⟨rfl,rfl⟩|⟨f,c,q,x,rfl,r,k,l,s,m,n⟩
  .exact⟨[],Kq,_,ld B a,_,_,B,_,ld B a,_,_,B,B,(AA.refl h).O _⟩
  .have eu:∀g:Y,Bx Ax .unsafeSliceData [98] [sL f (LB bs) c] g=I (AG f 0,g):=λg=>by
    simp[Bx];unfold Fg;simp[MK.2 λe=>l (Af e)];rfl
   by_cases h0:LB bs=0
   .have:=BO h0
    subst this;exact⟨[],Kq,_,ld B a,_,_,eu _,_,ld B a,_,_,B,B,(AA.refl h).O _⟩
   .obtain⟨J,o,u⟩:=VA (by rw[Ow];exact m) n k G j
    exact⟨[],Kq,_,ld B a,_,_,eu _,_,ld B a,_,_,o,B,u.M.O⟩
end
end
end
section
variable {h J h0 h1 H:Y} {v fv nv pv cv ev lv u v':Aa} {xs args vs ys:AH} {n b N i k e r j x m c q d a p t2 st sb mo ck lp rm b0 sz off:Nat} {t:Ai} {f:Au} {fn:BC} {s:Bd} {bs:Bl} {ws:Bo} {W:Nat->Prop} {Q:Aa->Y->Prop} {A:Option BD} {z df day:Int} {ss:BZ} {τ:Bb}
variable{S:A9} {L:Nat} {ds:Bl} {y:Int} [aF S L]
def AEa (a b:Int) (h:Y):Bs Ax 98 2 [(0,.int .u8 a),(1,.int .u8 b)] h=I (sL h.a 2 2,BN h 5 [.int .u8 a,.int .u8 b]):=Kq
def sY (a b c:Int) (h:Y):Bs Ax 98 3 [(0,.int .u8 a),(1,.int .u8 b),(2,.int .u8 c)] h=I (sL h.a 3 3,BN h 5 [.int .u8 a,.int .u8 b,.int .u8 c]):=Kq
def AEh (a b c d:Int) (h:Y):Bs Ax 98 4 [(0,.int .u8 a),(1,.int .u8 b),(2,.int .u8 c),(3,.int .u8 d)] h=I (sL h.a 4 4,BN h 5 [.int .u8 a,.int .u8 b,.int .u8 c,.int .u8 d]):=Kq
def gZ (p:Int×Int):UInt8:=dR (JP .u8 p.1 p.2).toNat
def AAw (ps:List (Int×Int)):ps.map (λp=>AL .u8 (JP .u8 p.1 p.2))=Ay (ps.map gZ):=by
 unfold Ay;rw[O5];refine List.map_congr_left λp _=>?_;let⟨y,a⟩:=ur p.1 p.2;simp[gZ,a]
def kg (h J:Y) (N:Nat) (v w:Aa) (bs:Bl):Prop:=Gc J N w bs/\B0 (BY v) h J/\∀i,BY w i->BY v i\/h.a<=i
section
variable{h J:Y} {N b:Nat} {v w:Aa} {bs:Bl}
def mK (o:Gc h N v bs) {cs:Bl} (b:ys=Ay cs) (c:N<=h.a) (hb:LB bs+LB cs<=1000000000):
 ∃w J,Bx Ax .append [98,98] [v,sL h.a (LB cs) (LB cs)] (BN h 5 ys)=I (w,J)/\kg h J N v w (bs++cs):=by
 subst b;have a:=AA.row h 5 (Ay cs);obtain⟨d,e,k,f,g,j⟩:=mZ Kq (o.C a) (x:=sL h.a (LB cs) (LB cs)) (cs:=cs) B (by rw[Il (aQ.row h 5 (Ay cs)) (by rw[A7];omega)];rw[dQ,BJ,Bj (by rw[A7];exact Ae _)]) (Ao c a.a) hb;exact⟨d,e,k,f,(a.O _).trans g,λi U=>(j i U).imp id λh=>Ao a.a h⟩
def mO (o:Gc h N v bs) (ps:List (Int×Int)) (b:N<=h.a) (hb:LB bs+LB ps<=1000000000):
 ∃w J,Bx Ax .append [98,98] [v,sL h.a (LB ps) (LB ps)] (BN h 5 (ps.map λp=>.int .u8 (JP .u8 p.1 p.2)))=I (w,J)/\kg h J N v w (bs++ps.map gZ):=by
 let⟨w,J,a,c⟩:=mK o (AAw ps) b Jq;rw[A4] at a;exact⟨w,J,a,c⟩
def hQ (r k:Int):Int:=D8 .u8 (IntKind.u8.wrap (DN .i32 r k)) 63
def ik (r:Int):Bl:=if IntKind.u32.wrap r<=2047 then [(192,IntKind.u8.wrap (DN .i32 r 6)),(128,D8 .u8 (IntKind.u8.wrap r) 63)].map gZ else if IntKind.u32.wrap r<55296\/(57343<IntKind.u32.wrap r/\IntKind.u32.wrap r<=65535) then [(224,IntKind.u8.wrap (DN .i32 r 12)),(128,hQ r 6),(128,D8 .u8 (IntKind.u8.wrap r) 63)].map gZ else if 65535<IntKind.u32.wrap r/\IntKind.u32.wrap r<=1114111 then [(240,IntKind.u8.wrap (DN .i32 r 18)),(128,hQ r 12),(128,hQ r 6),(128,D8 .u8 (IntKind.u8.wrap r) 63)].map gZ else [239,191,189]
def ij (r:Int):Bl:=if IntKind.u32.wrap r<=127 then [dR (IntKind.u8.wrap r).toNat] else ik r
def ACj (o:Gc h N v bs) {r:Int} (b:N<=h.a) (hb:LB bs+4<=1000000000):Bk S L 1 359 [v,.int .i32 r] h λw J=>∃cs,(1<=LB cs/\LB cs<=4)/\cs=ik r/\kg h J N v w (bs++cs):=
 Cn f359 λd l _=>by
  refine⟨_,.inr B,Bz (λc=>?_) (λc=>?_)⟩
  ·let⟨w,J,n,m⟩:=mO o [(192,IntKind.u8.wrap (DN .i32 r 6)),(128,D8 .u8 (IntKind.u8.wrap r) 63)] b (by show _+2<=_;omega);exact⟨by decide,_,.inr B,_,.inr B,_,_,AEa _ _ _,_,_,n,_,⟨by show 1<=2;decide,by show 2<=4;decide⟩,by unfold ik;rw[if_pos c],m⟩
  let⟨q,u,j,f⟩:=mO o [(224,IntKind.u8.wrap (DN .i32 r 12)),(128,hQ r 6),(128,D8 .u8 (IntKind.u8.wrap r) 63)] b (by show _+3<=_;omega);let⟨p,t,i,e⟩:=mO o [(240,IntKind.u8.wrap (DN .i32 r 18)),(128,hQ r 12),(128,hQ r 6),(128,D8 .u8 (IntKind.u8.wrap r) 63)] b (by show _+4<=_;omega);obtain⟨s,h0,k,g⟩:=mK o (cs:=[239,191,189]) B b (by show _+3<=_;omega)
  repeat' (refine Bz (λ_=>?_) (λ_=>?_))
  all_goals first
   |exact⟨by decide,_,.inr rfl,by decide,_,.inr rfl,_,.inr rfl,_,_,sY _ _ _ _,_,_,j,_,⟨by show 1<=3;decide,by show 3<=4;decide⟩,by unfold ik;(repeat' split)<;>first|rfl|omega,f⟩
   |exact⟨by decide,_,.inr rfl,by decide,_,.inr rfl,by decide,_,.inr rfl,_,.inr rfl,_,_,AEh _ _ _ _ _,_,_,i,_,⟨by show 1<=4;decide,by show 4<=4;decide⟩,by unfold ik;(repeat' split)<;>first|rfl|omega,e⟩
   |exact⟨_,_,sY _ _ _ _,_,_,k,_,by decide,by unfold ik;(repeat' split)<;>first|rfl|omega,g⟩
def ADu (o:Gc h N v bs) {r:Int} (hN:N<=h.a) (hb:LB bs+4<=1000000000):Bk S L 2 305 [v,.int .i32 r] h λw J=>∃cs:Bl,(1<=LB cs/\LB cs<=4)/\(0<=r->r<=127->∃x:UInt8,cs=[x]/\(dE x:Int)=r)/\cs=ij r/\kg h J N v w (bs++cs):=
 Cn f305 λd i _=>by
  refine⟨_,.inr B,Bz (λb=>?_) (λb=>?_)⟩
  ·let⟨x,hx⟩:=DH r;obtain⟨w,J,e2,e3⟩:=mK o (ys:=Ay [x]) B hN (by show _+1<=_;omega);refine⟨_,.inr hx.symm,_,_,hY x _,_,_,e2,[x],⟨Ae 1,Jq⟩,λh1 h2=>⟨x,B,?_⟩,by unfold ij;rw[if_pos b,hx];simp,e3⟩;rw[←hx];exact FC ⟨h1,G⟩
  ·refine cl (ACj o hN hb) ?_;rintro w J ⟨cs,h1,h2,h3⟩;refine⟨cs,h1,λh3 h4=>absurd ?_ b,by unfold ij;rw[if_neg b];exact h2,h3⟩;rw[FC (k:=.u32) ⟨h3,G⟩];exact h4
def hT (H:Ey h N b v bs) {r:Int} (hN:N<=h.a) (hs:LB bs+4<=1000000000):Bk S L 3 227 [AG b 0,.int .i32 r] h λ_ J=>∃cs:Bl,(1<=LB cs/\LB cs<=4)/\(0<=r->r<=127->∃x:UInt8,cs=[x]/\(dE x:Int)=r)/\cs=ij r/\Gu h J N b v (bs++cs):=
 Cn f227 λd hd' _=>by
  refine cl (kx H) ?_;rintro _ h1 ⟨H1,c1⟩;obtain⟨A1,k1,rfl⟩:=H1.o.lit;refine⟨_,ld B H1.cell,_,ld B H1.cell,_,ADu H1.o (Ao hN c1.a) hs d G,λw t ⟨cs,e1,e2,e4,e3⟩=>?_⟩;obtain⟨A2,k2,rfl⟩:=e3.1.lit;obtain⟨s,e5,H3,l,f⟩:=H1.put e3.2.1 e3.1 e3.2.2;have hl:(bs++cs).length=LB bs+LB cs:=Aj;exact⟨_,e5,_,ld B H3.cell,Pq,cs,e1,e2,e4,Gu.pre c1 ⟨_,H3,l,f⟩⟩
def AGh (H:Ey h N b (sN) []) (g:N<=h.a) (l:0<n/\n<=1000000000):Bk S L 2 367 [AG b 0,Vi n] h λ_ J=>Gu h J N b (sN) []:=
 Cn f367 λd m _=>by
  have c:AA h.ad (h.ad.new (.cells .nil n 5 0 0 Ah)):=AA.new _ _;have j:R6 Ax (.makeNoZero 5) [Vi (2*0+(n:Int))] h.ad=I (sL h.ad.a n n,h.ad.new (.cells .nil n 5 0 0 Ah)):=by
   rw[show(2*0+(n:Int))=AQ n from by simp];show(bif E3 n then _ else Z)=_
   rw[Ha G];rfl
  have X:=c.M;have f:=H.C X;have o:Gc (h.M (h.ad.new (.cells .nil n 5 0 0 Ah))) N (sL h.ad.a 0 n) []:=.inr ⟨h.ad.a,n,.nil,Ah,B,by rw[BF];exact g,Al _,G,by rw[CL,Ck];omega,by rw[DF,CK,Bi B],λi u U=>by cases U⟩;obtain⟨p,k,w⟩:=H.put (X.O _) o λi U=>.inr (by rw[show i=h.ad.a from U,BF];exact Ae _);refine⟨[],Kq,_,ld B H.cell,_,_,B,⟨by decide,by decide⟩,⟨by show _<=2*(0:Int)+n;omega,by show 2*(0:Int)+n<=_;omega⟩,_,NA (e:=.makeNoZero 5) (fn:=f396) (v:=sL h.ad.a n n) (J:=h.ad.new (.cells .nil n 5 0 0 Ah)) Kq B Kq B j d G,?_⟩;rintro _ _ ⟨rfl,rfl⟩;exact⟨c.C,_,ld B f.cell,_,_,B,_,ld B f.cell,_,_,B,_,k,_,w⟩
def tn (H:Ey h N b (sN) []) {n:Int} (g:N<=h.a) (j:0<=n/\n<=1000000000):Bk S L 4 312 [AG b 0,Vi n] h λ_ J=>Gu h J N b (sN) []:=
 Cn f312 λd k _=>by
  refine cl (kx H) ?_;rintro _ c ⟨a,c1⟩;refine Ad (λf=>Cf (Fp f) G) (λf=>?_);refine⟨[],Kq,_,ld B a.cell,_,_,B,_,ld B a.cell,⟨Jq,Jq⟩,Ad (λe=>?_) (λe=>?_)⟩
  .obtain⟨m,rfl⟩:∃m:Nat,n=m:=⟨bH n,G⟩
   have e:(0:Int)-0<m:=Fp e;exact⟨_,AGh a (Ao g c1.a) G d G,λ_ J w=>Gu.pre c1 w⟩
  .exact Gu.pre c1 ⟨_,a,(AA.refl c).O _,λi=>.inl⟩
end
def Rd.str (r:Rd h (.slice A n c) 1 (LB ss) (AR ss)) (b:k<LB ss):∃a,A=I a/\aC h a.block (a.off+k*1) (.string ss[k]):=by
 let⟨d,f,e,_,q⟩:=r.at_ G;cases e;exact⟨d,B,by rw[BJ];exact q k _ (Dl b)⟩
def ta {g:Bd} (r:Rd h v 1 (LB ss) (AR ss)) (hl:LB ss<=100) (u:∀s∈ss,aL s<=10000) (hp:aL g<=10):iB S L 5 239 [v,.string g] h λw J=>∃t,w=.string t/\aL t<=1100000:=
 Cn f239 λd ae hL=>by
  obtain⟨A0,F,rfl⟩:∃A c,v=.slice A (LB ss) c:=by obtain⟨_,A,c,e,_⟩:=r;exact⟨A,c,e⟩
  refine Ad (λy=>⟨AA.refl h,_,B,by decide⟩) (λy=>Ad (λn=>?_) (λn=>?_))
  .have n:=Fp n
   obtain⟨a,rfl,q⟩:=r.str (k:=0) G;exact⟨⟨by decide,G⟩,_,ld B q,AA.refl h,_,B,Ao (u _ (Bu _)) xc⟩
  have y:=KK y;have n:=KK n;obtain⟨a,rfl,O⟩:=r.str (k:=0) G;obtain⟨P,Q,C,b1⟩:=r.slice Kq (lo:=I (Vi 1)) (U:=Z) (l:=1) B B G Jq;obtain⟨f,H⟩:∃f,f=ss.drop 1:=⟨_,B⟩;have R:((AR ss).drop (1*1)).take ((LB ss-1)*1)=AR f:=by
   rw[H,AR,←List.map_drop,Bj wl];rfl
  have T:LB ss-1=LB f:=Gq;rw[R,T] at C;have K:∀x:Int,0<=x/\x<=11->0<=x*((LB ss:Int)-1)/\x*((LB ss:Int)-1)<=11*99:=λx M=>⟨Int.mul_nonneg M.1 G,Int.mul_le_mul M.2 G G G⟩;have m1:=K (aL g:Int) G;refine Ad (λV=>?_) (λV=>?_);refine⟨Pq,⟨by decide,G,by decide,by decide⟩,Bz (λW=>?_) (λW=>?_)⟩
  .have m2:=K ((aL g:Int)+1) G
   have:=Int.le_ediv_of_mul_le (a:=(aL g:Int)+1) (b:=9223372036854775807) (c:=(LB ss:Int)-1) G G;omega
  refine⟨Pq,Pq,Pq,?_⟩
  all_goals
   refine⟨λo A j=>∃(k:Nat) (z:Int),A=[(0,.slice (I a) (LB ss) F),(1,.string g),(5,Vi z),(39,.slice (I a) (LB ss) F),(40,Vi (LB ss)),(41,Vi k)]/\k<=LB ss/\(0<=z/\z<=2000+10000*k)/\o=LB ss-k/\j=h,
    ⟨_,_,Sq,G,0,_,B,Al _,G,B,B⟩,?_⟩
   rintro o A j ⟨k,z,rfl,X,hz,rfl,rfl⟩ aa;apply Bz<;>intro k5
   .obtain⟨a',e,q⟩:=r.str (k:=k) G
    cases e;have ab:=u _ (Bu (show k<LB ss by omega));exact⟨G,_,ld B q,Pq,Ad (λk6=>Cf (Fp k6) G) (λk6=>(⟨Pq,Pq,_,_,Sq,G,k+1,_,B,G,G,B,B⟩))⟩
   obtain⟨g1,y1,D⟩:=(aH.nil j).a3;refine⟨_,_,y1 _,_,tn (D.M 0 B) D.e.a G d G,?_⟩;rintro _ g2 w2;obtain⟨v2,p⟩:=D.bf 0 B w2;have af:=u _ (Bu (show 0<LB ss by omega));refine⟨Jq,_,ld B (O.C p.e),_,eQ (p.M 0 B) p.e.a (by simp;omega) d G,?_⟩;rintro _ g3 w3;obtain⟨v3,s3⟩:=p.bf 0 B w3;obtain⟨A1,c1,rfl⟩:∃A c,P=.slice A (LB f) c:=by obtain⟨_,A,c,e,_⟩:=C;exact⟨A,c,e⟩
   refine⟨_,_,Cs (CN _) Q,λo A N=>∃(k:Nat) (v:Aa) (bs:Bl),A=[(1,.string g),(8,AG j.a 0),(63,.slice A1 (LB f) c1),(64,Vi (LB f)),(65,Vi k)]/\k<=LB f/\o=LB f-k/\LB bs<=10000+10010*k/\aH j N [RK j.a j.a v bs],
    ⟨_,_,Sq,G,0,_,_,B,Al _,B,by simp;omega,s3⟩,?_⟩
   rintro o A N ⟨k,v,bs,rfl,X,rfl,hb,s⟩ aa;apply Bz<;>intro k7
   .obtain⟨a',rfl,q⟩:=(C.C s.e).str (k:=k) G
    have ab:f[k].size<=10000:=(λs h=>u s (List.drop_subset 1 ss (H▸h)):∀s∈f,aL s<=10000) _ (Bu (G:k<LB f));refine⟨G,_,ld B q,_,eQ (s.M 0 B) s.e.a G d G,?_⟩;rintro _ ad w4;obtain⟨v4,E⟩:=s.bf 0 B w4;refine⟨_,eQ (E.M 0 B) E.e.a (by simp;omega) d G,?_⟩;rintro _ ag w5;obtain⟨v5,s5⟩:=E.bf 0 B w5;exact⟨Pq,_,_,Sq,G,k+1,_,_,B,G,B,by simp;omega,s5⟩
   refine⟨_,gg (s.M 0 B) G d G,?_⟩;rintro _ ad ⟨rfl,c6⟩;exact⟨s.e.then c6 λi U=>(s.M 0 B).o.ge i U,_,B,by show LB bs<=_;omega⟩
def fL (x:UInt8):Prop:=48<=dE x/\dE x<=57
def Ml (ds:Bl):Prop:=∀x∈ds,fL x
def jj (n:Nat) (s:Bd):Bool:=Ar n s.size&&(BG n).all λi=>Ar 48 (Cv s i).toNat&&Ar (Cv s i).toNat 57
def HR (a:jj n s=Ag) {x:Int} (h0:0<=x) (b:x<n):0<=x/\x<(aL s:Int):=by
 have:=Ac (An ..▸a).1;omega
def G9 (a:jj n s=Ag) (b:x<n):fL (Cv s x):=by
 have:=Jf.1 ((An ..▸a).2) x (dX.2 b);rw[An] at this;exact⟨Ac this.1,Ac this.2⟩
def aH.ct (a:Gv τ t=Ag) {l:List Ct} (s:aH h0 h l) (U:l[i]?=I (aO b e xs)) (c:j<LB xs) (g:one v=Ag) {K:Y->Prop}
 (H:∀J,aH h0 (h.M J) (l.set i (aO b e (xs.set j v)))->K J):∃J,BA τ t h.ad b j v=I J/\K J:=by
 let⟨J,d,f⟩:=s.stM a U c g;exact⟨J,d,H J f⟩
def Jx (h:Y):Prop:=∀i:Nat,i<5->aC h 7 i (.int .u64 ((10^i:Nat):Int))
def US (x:Nat):Nat:=bE x*78913/262144
def Ahl (g:100<=x) (f:x<=9999):US x<5/\US x+(if 10^US x<=x then 1 else 0)=if x<1000 then 3 else 4:=by
 have:=Jf.1 (Kq:(BG 10000).all (λx=>AD x 100||(AD (US x) 5&&Am (US x+(bif Ar (10^US x) x then 1 else 0)) (bif AD x 1000 then 3 else 4)))=Ag) x (dX.2 G)
 rw[Dm,An] at this;rcases this with h|⟨b,a⟩
 .rw[AK] at h;omega
 .refine⟨by rwa [AK] at b,?_⟩
  have a:=Af a;have c:(bif Ar (10^US x) x then 1 else 0)=if 10^US x<=x then 1 else 0:=by
   by_cases h:10^US x<=x
   .rw[Bi h,Aq h];rfl
   .rw[Bm h,show Ar (10^US x) x=Ah from MK.2 λe=>h (Ac e)];rfl
  have d:(bif AD x 1000 then 3 else 4)=if x<1000 then 3 else 4:=by
   by_cases h:x<1000
   .rw[Bi h,show AD x 1000=Ag by rw[AK];exact h];rfl
   .rw[Bm h,show AD x 1000=Ah from MK.2 λe=>h (by rwa [AK] at e)];rfl
  rw[c,d] at a;exact a
def sE (q:Jx h) (h1:100<=x) (f:x<=9999):Bk S L 2 398 [.int .u64 x] h λw J=>w=Vi (if x<1000 then 3 else 4:Nat)/\J=h:=
 Cn f398 λd k _=>by
  have c:=Ahl h1 f;refine⟨_,sr G d G,?_⟩;rintro _ h ⟨rfl,hb,rfl⟩;have g:DN .i64 ((bE x:Int)*78913) 18=((bE x*78913/262144:Nat):Int):=by
   show((bE x:Int)*78913).fdiv (2^min 18 64)=_;rw[Int.fdiv_eq_ediv_of_nonneg _ xc];have:(2:Int)^min 18 64=262144:=by decide
   rw[this];omega
  have e:Bk S L 1 422 [Vi (bE x)] h λw J=>w=Vi (US x)/\J=h:=Cn f422 λd _ _=>⟨Pq,by decide,Cs (AL .i64) g,B⟩;refine⟨_,e d G,?_⟩;rintro _ h ⟨rfl,rfl⟩;have i:∀b:Bool,Bk S L 1 423 [.bool b] h λw J=>w=Vi (if b=Ag then 1 else 0:Nat)/\J=h:=λb=>Cn f423 λd _ _=>by
   cases b<;>exact⟨B,B⟩
  refine⟨⟨G,by have:=c.1;show(US x:Int)<20;omega⟩,_,Dz (ld B (q (US x) c.1)) xU,_,i _ d G,?_⟩;rintro _ h ⟨rfl,rfl⟩;have j:(if decide (((10^US x:Nat):Int)<=(x:Int))=Ag then 1 else 0:Nat)=if 10^US x<=x then 1 else 0:=by
   simp only[decide_eq_true_iff,Int.ofNat_le]
  rw[j];have e:(if 10^US x<=x then 1 else 0)<=1:=by split<;>omega
  refine⟨Pq,?_,B⟩;rw[←c.2];rfl
def zs (n:Nat):AH:=AE n (.int .u8 0)
def aH.dh (a:Gv τ t=Ag) {l:List Ct} (s:aH h0 h l) (U:l[i]?=I (aO b e xs)) (c:j<LB xs) (g:one v=Ag) {K:Y->Prop}
 (H:∀J,aH h0 J (l.set i (aO b e (xs.set j v)))->K J):∃J,BA τ t h b j v=I J/\K J:=by
 let⟨J,d,f⟩:=s.st a U c g;exact⟨J,d,H J f⟩
def fL.cons {x:UInt8} {l:Bl} (h:fL x) (d:Ml l):Ml (x::l):=λy a=>(bZ.1 a).elim (λe=>e▸h) (d y)
def Ml.nil:Ml []:=λ_ h=>Jq
def Li (s:aH h0 h [aO b 506 (zs 24)]) (l:x<1000):Bk S L 1 399 [.slice (I ⟨b,1,I 0⟩) 3 23,.int .u64 x] h λ_ J=>∃ds:Bl,aH h0 J [aO b 506 (zs 1++Ay ds++zs 20)]/\LB ds=3/\Ml ds:=
 Cn f399 λd m o=>by
  refine⟨λe A a=>A=[(0,.slice (I ⟨b,1,I 0⟩) 3 23),(1,.int .u64 x),(4,Vi 3)]/\a=h,⟨0,_,Sq,G,B,B⟩,?_⟩;rintro e A a ⟨rfl,rfl⟩ p;obtain⟨y,f,dy⟩:∃y:UInt8,(dE y:Int)=48+(x:Int)/100/\fL y:=⟨dR (48+x/100),by rw[rh];omega,by constructor<;>rw[rh]<;>omega⟩;refine⟨_,.inl ⟨Pq,B⟩,⟨G,by decide⟩,Pq,⟨G,by decide,G,G⟩,[],Kq,⟨by decide,by decide⟩,⟨by decide,by decide⟩,Pq,HR (n:=200) Kq G G,HR (n:=200) Kq G G,⟨by decide,by decide⟩,aH.ct Kq s (i:=0) B (by show 3<24;decide) B λq g=>⟨⟨by decide,by decide⟩,aH.ct Kq g (i:=0) B (by show 2<24;decide) B λr j=>⟨⟨by decide,by decide⟩,Pq,_,.inl ⟨Pq,f⟩,⟨by decide,by decide⟩,aH.dh Kq j (i:=0) B (by show 1<24;decide) B λt k=>⟨[y,_,_],k,B,dy.cons ((G9 (n:=200) Kq G).cons ((G9 (n:=200) Kq G).cons .nil))⟩⟩⟩⟩
def Vr (s:aH h0 h [aO b 506 (zs 24)]) (l:x<10000):Bk S L 1 399 [.slice (I ⟨b,1,I 0⟩) 4 23,.int .u64 x] h λ_ J=>∃ds:Bl,aH h0 J [aO b 506 (zs 1++Ay ds++zs 19)]/\LB ds=4/\Ml ds:=
 Cn f399 λd m o=>by
  refine⟨λe A a=>A=[(0,.slice (I ⟨b,1,I 0⟩) 4 23),(1,.int .u64 x),(4,Vi 4)]/\a=h,⟨0,_,Sq,G,B,B⟩,?_⟩;rintro e A a ⟨rfl,rfl⟩ p;refine⟨_,.inl Pq,Jq,⟨G,by decide,G,G⟩,⟨G,by decide,G,G⟩,Pq,Jq,Pq,[],Kq,Jq,Jq,Pq,HR (n:=200) Kq G G,HR (n:=200) Kq G G,Jq,aH.ct Kq s (i:=0) B (by show 4<24;decide) B λq f=>⟨Jq,aH.ct Kq f (i:=0) B (by show 3<24;decide) B λr g=>
   ⟨[],Kq,⟨by decide,by decide⟩,⟨by decide,by decide⟩,Pq,HR (n:=200) Kq G G,HR (n:=200) Kq G G,⟨by decide,by decide⟩,aH.ct Kq g (i:=0) B (by show 2<24;decide) B λt j=>⟨⟨by decide,by decide⟩,aH.ct Kq j (i:=0) B (by show 1<24;decide) B λu k=>⟨⟨by decide,by decide⟩,[_,_,_,_],k,B,(G9 (n:=200) Kq G).cons ((G9 (n:=200) Kq G).cons ((G9 (n:=200) Kq G).cons ((G9 (n:=200) Kq G).cons .nil)))⟩⟩⟩⟩⟩
def o0 {a b:Int} (h0:0<=a) (d:a<=b) (c:b<=aL s):C7 Ax 9 (.string s) (I (Vi a)) (I (Vi b)) Z=I (.string (EY ((s.data.toList.drop a.toNat).take (bH b-bH a)))):=by
 obtain⟨l,rfl⟩:=B9 h0;obtain⟨m,rfl⟩:=B9 (show 0<=b by omega);exact sx G G
def Y9 (a:jj n s=Ag) {l:Nat} (h:l+m<=n) (d:1<=m/\m<=4):Ml ((s.data.toList.drop l).take m)/\1<=((s.data.toList.drop l).take m).length/\((s.data.toList.drop l).take m).length<=4:=by
 have e:=Ac (An ..▸a).1;refine⟨λx b=>?_,Jq,Jq⟩;obtain⟨i,U,rfl⟩:=N2 b;have c:=U;rw[Cg,AV] at c;rw[List.getElem_take,List.getElem_drop];have:=G9 a (x:=l+i) G;unfold Cv at this
 rwa [Ak,Ab G] at this
def ko (w:Aa):Prop:=∃ds:Bl,w=.string (EY ds)/\Ml ds/\1<=LB ds/\LB ds<=4
def AGi (c:x<100):Bk S L 1 397 [Vi x] h λw J=>ko w/\J=h:=
 Cn f397 λd e _=>by
  refine Bz (λb=>?_) (λb=>?_)
  .exact⟨Pq,_,_,Cs (CN _) (o0 G G (by show _<=(36);omega)),⟨_,B,Y9 (n:=10) Kq G G⟩,B⟩
  .exact⟨Pq,Pq,Pq,_,_,Cs (CN _) (o0 G G (by show _<=(200);omega)),⟨_,B,Y9 (n:=200) Kq G G⟩,B⟩
def aQ.cV {sp:Option Nat} {pre post:AH} (o:aQ h b e (pre++ys++post)) (d:LB ys=n*k) (f:n<=c):Rd h (.slice (I ⟨b,LB pre,sp⟩) n c) k n ys:=by
 let⟨h1,g,x,j,l⟩:=o;refine⟨d,_,_,B,f,Jq,λa m=>?_⟩;cases m;refine⟨h1,g,_,e,0,0,x,j,λi u U=>l _ u ?_⟩;show(pre++ys++post)[LB pre+i]?=_;rw[KA,Bq G,Ds,AB (cG.1 U).1];exact U
def Jx.C (q:Jx h) (x:AA h J):Jx J:=λi U=>(q i U).C x
def ADe (q:Jx h) (t:x<=9999):iB S L 3 368 [Vi x,Vi 10] h λw J=>ko w:=
 Cn f368 λd u _=>by
  refine Bz (λp=>?_) (λp=>?_)
  .refine⟨_,AGi G d G,?_⟩
   rintro _ _ ⟨i,rfl⟩;exact⟨AA.refl _,i⟩
  obtain⟨g,y,s⟩:=(aH.nil h).O (z:=.agg ⟨zs 24⟩) Kq;refine⟨_,_,y _,_,.inl Pq,?_⟩;have c:∀{f:Y} {ds:Bl} {n m:Nat},aH h f [aO h.a 506 (zs 1++Ay ds++zs m)]->LB ds=n->n<=23->Ea Ax 98 9 (.slice (I ⟨h.a,1,I 0⟩) n 23) f=I (.string (EY ds),f):=λs k r=>FB Kq (aQ.cV (s.dD 0 B) (by rw[A7];omega) r);rcases A8 x 1000 with l|l
  .refine⟨_,((sE (q.C s.e) G G).mono (Q':=λw J=>w=Vi 3/\J=g) λ_ _ ⟨a,b⟩=>⟨Jq,b⟩) d G,?_⟩
   rintro _ g ⟨rfl,rfl⟩;refine⟨Jq,_,_,B,_,Li s l d G,λ_ f ⟨ds,j,k,o⟩=>⟨⟨Jq,Jq⟩,_,_,B,_,c j k Jq,j.e,ds,B,o,G,G⟩⟩
  .refine⟨_,((sE (q.C s.e) G G).mono (Q':=λw J=>w=Vi 4/\J=g) λ_ _ ⟨a,b⟩=>⟨Jq,b⟩) d G,?_⟩
   rintro _ g ⟨rfl,rfl⟩;refine⟨Jq,_,_,B,_,Vr s G d G,λ_ f ⟨ds,j,k,o⟩=>⟨⟨Jq,Jq⟩,_,_,B,_,c j k Jq,j.e,ds,B,o,G,G⟩⟩
def nM (q:Jx h) (b:x<=9999):iB S L 5 241 [Vi x] h λw J=>ko w:=
 Cn f241 λd c _=>⟨_,(Cn f313 λd c _=>⟨_,ADe q b d G,λ_ _ h=>h⟩:iB S L 4 313 [Vi x] h λw J=>ko w) d G,λ_ _ h=>h⟩
def OL:∀l:List Bool,(CW l).all one=Ag
 |[]=>rfl
 |_::l=>OL l
def Aac (l:List Bool) (i:Nat) (b:Bool):(CW l).set i (.bool b)=CW (l.set i b):=by
 unfold CW;rw[Cp]
def gY {a:Int} (h0:0<=a) (b:a<=aL s):C7 Ax 9 (Sg s) (I (Vi a)) Z Z=I (Sg (EY ((s.data.toList.drop a.toNat).take (aL s-bH a)))):=by
 obtain⟨l,rfl⟩:=B9 h0;show(bif Ar l s.size&&Ar s.size s.size then I (Sg (EY ((s.data.toList.drop l).take (aL s-l)))) else Z)=_
 rw[Aq (show l<=aL s by omega),Aq (Ae _)];rfl
def jr {b:Int} (h0:0<=b) (a:b<=aL s):C7 Ax 9 (Sg s) Z (I (Vi b)) Z=I (Sg (EY ((s.data.toList.drop 0).take (bH b-0)))):=by
 obtain⟨l,rfl⟩:=B9 h0;exact kT G
def un (h:a<=aL s):(EY ((s.data.toList.drop a).take (aL s-a))).size=aL s-a:=by
 have:LB s.data.toList=aL s:=B;rw[VM,Cg,AV];omega
def uB (h:a<=aL s):(EY ((s.data.toList.drop 0).take (a-0))).size=a:=by
 have:LB s.data.toList=aL s:=B;rw[VM,Cg,AV];omega
def YE (h:Y) (b:Nat):Prop:=∃l:List Bool,LB l=256/\aQ h b 479 (CW l)
def Agy {l:List Bool} (h:i<LB l):(CW l)[i]?=I (.bool l[i]):=by
 unfold CW;rw[AX,Ab h];rfl
def sF {x:UInt8} (o:YE h b):Bk S L 1 393 [AG b 0,.int .u8 (dE x:Int)] h λw J=>(∃t:Bool,w=.bool t)/\J=h:=
 Cn f393 λd c _=>by
  let⟨l,e,o⟩:=o;have f:=Pd x;exact⟨⟨G,Jq⟩,_,Dz (ld B (o.cell (Agy (i:=dE x) G))) xU,⟨_,B⟩,B⟩
def AAc (o:YE h b) (j:aL s<=1000):Bk S L 2 363 [Sg s,AG b 0] h λw J=>(∃t,w=.string t)/\J=h:=
 Cn f363 λd m n=>by
  refine⟨λg A k=>∃t:Bd,A=[(0,Sg t),(1,AG b 0)]/\k=h/\aL t<=1000/\g=aL t,⟨_,_,Sq,G,s,B,B,j,B⟩,?_⟩;rintro g A h ⟨t,rfl,rfl,p,rfl⟩ q;refine Ad (λe=>?_) (λe=>⟨⟨_,B⟩,B⟩);have e:=Fp e;refine⟨G,_,sF o d G,?_⟩;rintro _ h ⟨⟨c,rfl⟩,rfl⟩;refine⟨_,_,B,?_⟩;refine Ad (λl=>⟨⟨_,B⟩,B⟩) (λl=>?_);have i:=un (s:=t) (a:=bH 1) (by show 1<=_;omega);have f:bH 1=1:=B;exact⟨_,_,Cs (CN _) (gY xc G),_,_,Sq,by rw[i];omega,_,B,B,by rw[i];omega,B⟩
def ACu (o:YE h b) (k:aL s<=1000):Bk S L 2 364 [Sg s,AG b 0] h λw J=>(∃t:Bd,w=.string t/\aL t<=1000)/\J=h:=
 Cn f364 λd n p=>by
  refine⟨λg A l=>∃t:Bd,A=[(0,Sg t),(1,AG b 0)]/\l=h/\aL t<=1000/\g=aL t,⟨_,_,Sq,G,s,B,B,k,B⟩,?_⟩;rintro g A h ⟨t,rfl,rfl,i,rfl⟩ q;refine Ad (λe=>?_) (λe=>⟨⟨_,B,i⟩,B⟩);have e:=Fp e;refine⟨Pq,G,_,sF o d G,?_⟩;rintro _ h ⟨⟨c,rfl⟩,rfl⟩;refine⟨_,_,B,?_⟩;refine Ad (λm=>⟨⟨_,B,i⟩,B⟩) (λm=>?_);have j:=uB (s:=t) (a:=((aL t:Int)-1).toNat) G;exact⟨Pq,_,_,Cs (CN _) (jr G G),_,_,Sq,by rw[j];omega,_,B,B,by rw[j];omega,B⟩
def AEm (q:jj s.size s=Ag) (F:aL s<=1000):iB S L 1 362 [Sg s] h λw J=>∃l:List Bool,LB l=256/\w=.tuple #[.agg ⟨CW l⟩,.bool Ag]:=
 Cn f362 λd H K=>by
  obtain⟨g,y,r⟩:=(aH.nil h).O (τ:=Ax) (t:=479) (z:=.agg ⟨CW (AE 256 Ah)⟩) Kq;refine⟨_,_,y _,λf A j=>∃(k:Nat) (l:List Bool),A=[(0,Sg s),(2,AG h.a 0),(4,Vi k)]/\k<=aL s/\f=aL s-k/\LB l=256/\aH h j [aO h.a 479 (CW l)],⟨_,_,Sq,G,0,_,B,Al _,B,B,r⟩,?_⟩;rintro f A j ⟨k,l,rfl,M,rfl,a,b⟩ N;apply Bz<;>intro O
  .have u:=G9 q (x:=k) G
   have P:=u.2;refine⟨G,Ad (λm=>Cf (Fp m) (by rw[show((k:Nat):Int).toNat=k from B];omega)) (λm=>?_)⟩;refine⟨⟨G,by rw[show((k:Nat):Int).toNat=k from B];show _<((256:Nat):Int);omega⟩,aH.dh (t:=4) Kq b (i:=0) B (by rw[show(CW l).length=LB l by simp[CW],a,show((k:Nat):Int).toNat=k from B];show 0+((Cv s k).toNat:Int).toNat*1<256;omega) B λv C=>⟨Pq,_,_,Sq,G,k+1,l.set (0+((Cv s ((k:Nat):Int).toNat).toNat:Int).toNat*1) Ag,B,G,B,by rw[B4,a],by rw[←Aac];exact C⟩⟩
  .have o:=b.dD 0 B
   have c:(CW l).length=256:=by simp[CW,a]
   obtain⟨v,D,n,E⟩:=o.bD (τ:=Ax) (t:=479) (k:=256) Kq (i:=0) c G (OL l);have:=JB (CW l) [] (CW l) B;simp only[IW,fA] at this;rw[this] at n;exact⟨_,EQ (k:=256) Kq o.cells c,_,D,_,EQ (k:=256) Kq n.cells c,b.e.ah E (Ae _),l,a,B⟩
def ABn {c:Bd} (k:jj c.size c=Ag) (m:c=⟨#[48,49,50,51,52,53,54,55,56,57]⟩) (n:aL s<=1000):iB S L 3 306 [Sg s,Sg c] h λw J=>∃t,w=.string t:=
 Cn f306 λd y _=>by
  subst m;refine⟨_,B,Ad (λo=>⟨AA.refl h,_,B⟩) (λo=>?_)⟩;refine⟨_,B,_,AEm k xc d G,?_⟩;rintro _ i ⟨p,l,b,rfl⟩;have f:(CW l).length=256:=by simp[CW,b]
  obtain⟨A,q,r,u,j⟩:=(aH.nil i).var (τ:=Ax) (t:=479) (z:=.agg ⟨CW (AE 256 Ah)⟩) Kq (v:=.agg ⟨CW l⟩) (by show Am (CW l).length 256=Ag;rw[f];rfl) (by show(CW l).length=_;rw[f];rfl) (OL l);have st:YE r i.a:=⟨l,b,j.dD 0 B⟩;refine⟨_,_,q _,_,u,_,ACu st n d G,?_⟩;rintro _ g ⟨⟨t,rfl,x⟩,rfl⟩;refine cl (AAc st x) ?_;rintro _ g ⟨⟨t,rfl⟩,rfl⟩;exact⟨p.trans j.e,t,B⟩
def kC:iB S L 4 228 [Sg s] h λw J=>∃b:Bool,w=.bool b/\(b=Ag->1<=aL s/\aL s<=20):=
 Cn f228 λd j _=>by
  let⟨⟨l⟩⟩:=s;cases l with
  |nil=>exact⟨_,B,AA.refl h,Ah,B,λh=>Jq⟩
  |
   cons x l=>
   have e:1<=(ByteArray.mk ⟨x::l⟩).size:=Nat.succ_le_succ (Al _);refine⟨_,B,Bz (λf=>?_) (λf=>?_)⟩
   .refine cl (ABn Kq B G) ?_
    rintro _ c ⟨a,t,rfl⟩;refine⟨_,B,Ad (λg=>?_) (λg=>?_)⟩
    .refine⟨G,Ad (λi=>?_) (λi=>?_)⟩
     .exact⟨a,_,B,λ_=>⟨e,G⟩⟩
     .exact⟨_,B,a,_,B,λ_=>⟨e,G⟩⟩
    .exact⟨a,_,B,λh=>Jq⟩
   .exact⟨AA.refl h,_,B,λh=>Jq⟩
def AAe {P:Bd->Prop} (o:AS h N 9 1 v n (AR ss)) (E:∀s∈ss,P s) (Y:n<=1000000):Bk S L 1 307 [v] h λ_ J=>B0 (BY v) h J/\∃a,LB a=LB ss/\(∀s∈a,P s)/\AS J N 9 1 v n (AR a):=
 Cn f307 λd aa Z=>by
  obtain⟨u,l,rfl⟩:∃A c,v=.slice A n c:=by obtain⟨_,A,c,e,_⟩:=o.rd;exact⟨A,c,e⟩
  refine⟨Pq,λw A f=>∃(i:Nat) (j:Int) (a:BZ),A=[(0,.slice u n l),(2,Vi i),(3,Vi j)]/\j=(n:Int)-1-i/\i<=n/\w=n-i/\LB a=LB ss/\(∀s∈a,P s)/\AS f N 9 1 (.slice u n l) n (AR a)/\B0 (BY (.slice u n l)) h f,
   ⟨_,_,Sq,G,0,_,ss,B,G,Al _,B,B,E,o,(AA.refl h).O _⟩,?_⟩
  rintro w A f ⟨i,j,a,rfl,rfl,U,rfl,x,m,o,c⟩ ab;refine Ad (λp=>?_) (λp=>⟨c,a,x,m,o⟩);have p:=Fp p;obtain⟨j,F⟩:∃j:Nat,(j:Int)=(n:Int)-1-i:=⟨n-1-i,G⟩;rw[←F] at p⊢;have r:=o.rd;obtain⟨y,⟨e,rfl⟩|⟨b,c1,sp,e,H,K,M,O⟩⟩:=o
  .omega
  cases e;rw[CM,BJ] at y;subst y;obtain⟨_,e,Q⟩:=r.str (k:=i) G;cases e;obtain⟨_,e,R⟩:=r.str (k:=j) G;cases e;have q:∀k:Nat,k<LB a->0<=(k:Int)/\(k:Int)<LB a:=λk z=>G;obtain⟨I,T,V,W⟩:=aQ.st (τ:=Ax) (t:=9) B (show aQ f.ad b 9 _ from O) (i:=i) (v:=.string (a[j]'G)) Jq B;obtain⟨h2,X,C,D⟩:=aQ.st (τ:=Ax) (t:=9) B (show aQ (f.M I).ad b 9 _ from V.M (h:=f)) (i:=j) (v:=.string (a[i]'G)) Jq B;refine⟨[],Kq,q j G,_,ld B R,q i G,_,ld B Q,q i G,_,Jp T (by show 0+i*1=i;omega),q j G,_,Jp X (by show 0+j*1=j;omega),Pq,Pq,_,_,Sq,Jq,i+1,_,(a.set i (a[j]'G)).set j (a[i]'G),B,G,G,B,by rw[B4,B4,x],λs g=>?_,?_,c.trans ((W.M.O.trans D.M.O).mono λk z=>z)⟩
  .rcases BT g with g|rfl
   .rcases BT g with g|rfl
    .exact m s g
    .exact m _ Jq
   .exact m _ Jq
  .refine⟨by rw[CM,B4,B4];omega,.inr ⟨b,l,sp,B,H,K,?_,?_⟩⟩
   .rw[Aj,CM,B4,B4,←M,Aj,CM]
   .rw[Hj,Bi (by rw[CM];omega),Hj,Bi (by rw[B4,CM];omega)] at C
    rw[show AR ((a.set i (a[j]'G)).set j (a[i]'G))=((AR a).set i (.string (a[j]'G))).set j (.string (a[i]'G)) by unfold AR;rw[Cp,Cp]];exact C.M
def Qu (l:BZ) (t:Bool):AH:=AR l++[.bool t]
def uv (h:Y) (b:Nat):Prop:=∃l t,LB l=14/\(∀s∈l,aL s<=100)/\BK h b 0 (Qu l t)
structure Mo (h:Y):Prop where
 p:uv h 2
 f:uv h 3
 g:∃l:BZ,LB l=5/\(∀s∈l,aL s<=100)/\BK h 5 0 (AR l)
def Mo.C (a:Mo h) (x:AA h J):Mo J:=by
 let⟨⟨l,t,h1,b,c⟩,⟨l',d,e,f,g⟩,i,j,k,m⟩:=a;exact⟨⟨l,t,h1,b,c.C x⟩,⟨l',d,e,f,g.C x⟩,i,j,k,m.C x⟩
def Za {l:BZ} {t:Bool} (h:i<LB l):(Qu l t)[i]?=I (Sg l[i]):=by
 unfold Qu;rw[AB (by rw[CM];exact h),Dl h]
def ng (S:A9) (L d f:Nat) (h:Y):Prop:=∀a,AA h a->∀n:Nat,n<=9->Bk S L d f [.int .i64 n] a λw J=>(∃s:Bd,w=.string s/\aL s<=100)/\J=a
def AAm:ng S L 1 230 h:=λb _ n c=>
 Cn f230 λd e _=>⟨_,.inl Pq,Pq,_,B,⟨_,B,Ao (Nz _) Jq⟩,B⟩
def ABv (b:Mo h):ng S L 1 308 h:=λf x n g=>
 Cn f308 λd j _=>by
  let⟨l,t,h1,c,e⟩:=(b.C x).p;exact⟨⟨G,Jq⟩,_,Dz (ld B (e.at (i:=n) (Za G))) (by show 0+0+(n:Int).toNat*1=0+n;omega),⟨_,B,c _ (Bu _)⟩,B⟩
def V2 (a:Ml ds) (b:k<LB ds):fL (Cv (EY ds) k):=by
 show fL (ds.getD k 0);rw[Ak,Ab b];exact a _ Jq
def tA {f:Nat} (j:Ml ds) (y:LB ds<=20) (l:ng S L e f h):iB S L (e+5) 229 [Sg (EY ds),.func (.func f) #[] #[]] h λw J=>∃t:Bd,w=.string t/\aL t<=2000:=
 Cn f229 λd z C=>by
  have D:(EY ds).size=LB ds:=B;obtain⟨E,m,o⟩:=(aH.nil h).a3;refine⟨_,_,m _,λc A b=>∃(k:Nat) (v:Aa) (bs:Bl),A=[(0,Sg (EY ds)),(1,.func (.func f) #[] #[]),(5,AG h.a 0),(8,Vi (LB ds)),(9,Vi k)]/\k<=LB ds/\c=LB ds-k/\LB bs<=100*k/\aH h b [RK h.a h.a v bs],
   ⟨_,_,Sq,G,0,_,_,B,Al _,B,Al _,o⟩,?_⟩
  rintro c A b ⟨k,v,bs,rfl,F,rfl,hb,s⟩ H;apply Bz<;>intro K
  .obtain⟨M,N⟩:=V2 j (k:=k) G
   obtain⟨n,p⟩:∃n:Nat,(n:Int)=((Cv (EY ds) k).toNat:Int)-48:=⟨(Cv (EY ds) k).toNat-48,G⟩;refine⟨Jq,⟨?_,?_⟩,_,.inl ⟨⟨?_,?_⟩,p⟩,_,l _ s.e n G d G,?_⟩
   .show 0<=((Cv (EY ds) k).toNat:Int)-48;omega
   .show((Cv (EY ds) k).toNat:Int)-48<=255;omega
   .show _<=((Cv (EY ds) k).toNat:Int)-48;omega
   .show((Cv (EY ds) k).toNat:Int)-48<=_;omega
   rintro _ b ⟨⟨t,rfl,q⟩,rfl⟩;refine cl (eQ (s.M 0 B) s.e.a G) ?_;rintro _ O r;obtain⟨P,u⟩:=s.bf 0 B r;have Q:LB t.data.toList<=100:=q;exact⟨Pq,_,_,Sq,G,k+1,_,_,B,G,B,by rw[Aj];omega,u⟩
  .refine cl (gg (s.M 0 B) G) ?_
   rintro _ g ⟨rfl,x⟩;exact⟨s.e.then x λi U=>(s.M 0 B).o.ge i U,_,B,by show LB bs<=_;omega⟩
def iS (S:A9) (L d f:Nat) (h:Y):Prop:=∀a,AA h a->∀ds:Bl,Ml ds->iB S L d f [.string (EY ds)] a λw J=>∃(t:Bd) (b:Bool),w=.tuple #[.string t,.bool b]/\aL t<=1100000
def ACc (f:Mo h):iS S L 8 232 h:=λj x ds g=>
 Cn f232 λd k _=>by
  refine cl (kC) ?_;rintro _ a ⟨c,b,rfl,hb⟩;refine⟨_,_,B,Ad (λe=>⟨c,_,_,B,by decide⟩) (λe=>?_)⟩;refine cl (tA g (hb Jq).2 (ABv ((f.C x).C c))) ?_
  rintro _ l ⟨i,t,rfl,m⟩;exact⟨c.trans i,_,_,B,Ao m xc⟩
def ACq:iS S L 8 231 h:=λM x ds N=>
 Cn f231 λd O P=>by
  refine cl (kC) ?_;rintro _ h1 ⟨p,b,rfl,hb⟩;refine⟨_,_,B,Ad (λz=>⟨p,_,_,B,by decide⟩) (λz=>?_)⟩;have hb:=hb Jq;refine⟨λq A g=>∃(s:Bd) (v:Aa) (l:BZ),A=[(4,v),(5,Sg s)]/\aL s<=20/\q=aL s/\LB l+aL s<=20/\(∀s∈l,aL s<=10000)/\AS g h1.a 9 1 v (LB l) (AR l)/\AA h1 g,
   ⟨_,_,Sq,G,_,_,[],B,hb.2,B,by show 0+_<=_;omega,(λs h=>by cases h),AS.nil _ _ _ _,AA.refl _⟩,?_⟩
  rintro q A g ⟨s,v,l,rfl,C,rfl,Q,R,o,r⟩ T;have UN:∀t:Bd,∃v' e,Bx Ax .append [40,40] [v,sL g.a 1 1] (BN g 9 [Sg t])=I (v',e)/\AS e h1.a 9 1 v' (l++[t]).length (AR (l++[t]))/\AA h1 e:=λt=>by
   obtain⟨v',e,f,o',c,_⟩:=Tz Kq o (ys:=[Sg t]) B B r.a G;exact⟨v',e,f,by rw[Aj,show AR (l++[t])=AR l++[Sg t] by simp[AR]];exact o',r.then c λi U=>o.ai i U⟩
  have w:∀{t:Bd},aL t<=20->∀u∈l++[t],aL u<=10000:=λV u W=>Gq;apply Bz<;>intro X
  .obtain⟨v',e,f,o',m⟩:=UN s
   refine⟨_,_,i3 40 _ 1 (Sg s) g,_,_,f,_,AAe o' (w C) Jq d G,?_⟩;rintro _ g2 ⟨D,ss,E,F,y⟩;have aa:LB ss<=21:=Gq;rw[←E] at y;refine cl (ta y.rd G F Jq) ?_;rintro _ Z ⟨H,t,rfl,m9⟩;exact⟨(p.trans (m.then D λi U=>o'.ai i U)).trans H,_,_,B,m9⟩
  .have K:=un (s:=s) (a:=((aL s:Int)-3).toNat) G
   have n:=uB (s:=s) (a:=((aL s:Int)-3).toNat) G;obtain⟨v',e,f,o',m⟩:=UN (EY ((s.data.toList.drop ((aL s:Int)-3).toNat).take (aL s-((aL s:Int)-3).toNat)));exact⟨Pq,_,_,Cs (CN _) (gY G G),_,_,i3 40 _ 1 (.string _) g,_,_,f,Pq,_,_,Cs (CN _) (jr G G),_,_,Sq,by rw[n];omega,_,_,_,B,by rw[n];omega,B,by rw[n,Aj];simp;omega,w (by rw[K];omega),o',m⟩
def rY (y:Mo h) {l:BZ} {t:Bool} (W:LB l=14) (X:∀s∈l,aL s<=100) (hd:Ml ds):iB S L 6 309 [.agg ⟨Qu l t⟩,Sg (EY ds)] h λw J=>∃(t:Bd) (b:Bool),w=.tuple #[Sg t,.bool b]/\aL t<=10000:=
 Cn f309 λd ag hL=>by
  obtain⟨g0,y0,C⟩:=(aH.nil h).box Ax 443 (.agg ⟨Qu l t⟩);refine⟨_,_,y0,_,kC d G,?_⟩;rintro _ h1 ⟨D,b,rfl,hb⟩;have q:=C.e.trans D;refine⟨_,_,B,Ad (λk1=>⟨q,_,_,B,by decide⟩) (λk1=>?_)⟩;have hb:=hb Jq;have f:(EY ds).size=LB ds:=rfl;have E:=(C.dD 0 B:aQ g0 h.a 443 (Qu l t)).C D;obtain⟨lg,ah,aa,ab⟩:=(y.C q).g;refine⟨_,B,Ad (λk2=>⟨q,_,_,B,by decide⟩) (λk2=>?_)⟩;obtain⟨g2,y2,s2⟩:=(aH.nil h1).a3;refine⟨_,_,y2 _,λF A r=>∃(k:Nat) (v:Aa) (bs:Bl) (c:Bool),A=[(1,Sg (EY ds)),(2,AG h.a 0),(6,AG h1.a 0),(7,.bool c),(17,Vi (LB ds)),(18,Vi k)]/\k<=LB ds/\F=LB ds-k/\LB bs<=300*k/\aH h1 r [RK h1.a h1.a v bs],
   ⟨_,_,Sq,G,0,_,_,_,B,Al _,B,Al _,s2⟩,?_⟩
  rintro F A r ⟨k,v,bs,c,rfl,hk,rfl,ai,s⟩ aj;apply Ad<;>intro K;rotate_left
  .refine cl (gg (s.M 0 B) G) ?_
   rintro _ g ⟨rfl,c6⟩;exact⟨q.trans (s.e.then c6 λi U=>(s.M 0 B).o.ge i U),_,_,B,by show LB bs<=_;omega⟩
  have K:=Fp K;have len:∀(x:Bl) (s:Bd),(x++aI s.data).length=LB x+aL s:=λ_ _=>Aj;have M:∀{H:Y} {i:Nat},AA h1 H->i<LB l->∃s:Bd,aL s<=100/\aC H h.a i (Sg s):=λx U=>⟨_,X _ (Bu U),((E.C x).cell (Za U))⟩;have ad:∀{H:Y} {i:Nat},AA h1 H->i<5->∃s:Bd,aL s<=100/\aC H 5 i (Sg s):=λ{H i} x U=>⟨lg[i]'G,aa _ (Bu _),by
   have:=(ab.C x).at (i:=i) (Dl G);rw[Ba] at this;exact this⟩
  obtain⟨q1,q2⟩:=V2 hd (k:=k) G;obtain⟨n,hn⟩:∃n:Nat,(n:Int)=((Cv (EY ds) k).toNat:Int)-48:=⟨(Cv (EY ds) k).toNat-48,G⟩;have ae:((Cv (EY ds) ((k:Nat):Int).toNat).toNat:Int)-48=n:=hn.symm;obtain⟨p,hp⟩:∃p:Nat,(p:Int)=(LB ds:Int)-1-k:=⟨LB ds-1-k,G⟩;obtain⟨sn,ak,cn⟩:=M s.e (show n<LB l by omega);refine⟨[],Kq,⟨by rw[f];omega,by rw[f];omega⟩,⟨by rw[f];omega,by rw[f];omega⟩,⟨G,by rw[f];omega⟩,Pq,?_⟩;have Da:∀{N:As} {y:Y} {v:Aa} {bs:Bl} {c:Bool},Sub [(1,Sg (EY ds)),(2,AG h.a 0),(6,AG h1.a 0),(7,.bool c),(17,Vi (LB ds)),(18,Vi ((k+1:Nat):Int))] N->LB bs<=300*k+300->aH h1 y [RK h1.a h1.a v bs]->∃m' O,Sub O N/\m'<LB ds-k/\∃(k:Nat) (v:Aa) (bs:Bl) (c:Bool),O=[(1,Sg (EY ds)),(2,AG h.a 0),(6,AG h1.a 0),(7,.bool c),(17,Vi (LB ds)),(18,Vi k)]/\k<=LB ds/\m'=LB ds-k/\LB bs<=300*k/\aH h1 y [RK h1.a h1.a v bs]:=λhA hb s=>
   ⟨_,_,hA,(show LB ds-(k+1)<_ by omega),k+1,_,_,_,B,G,B,G,s⟩
  apply Ad<;>intro q;refine Ad (λe1=>?a) (λe1=>⟨_,ld B ((E.C s.e).cell (by unfold Qu;rw[Bq (by rw[CM];omega),CM,W];rfl):aC r h.a 14 (.bool t)),Ad (λe2=>?b) (λe2=>⟨⟨by rw[f];omega,by decide⟩,Ad (λe3=>?c) (λe3=>?d)⟩)⟩)
  case' d=>obtain⟨u,Z,o,af⟩:∃u Z,aH h1 r [RK h1.a h1.a u Z]/\LB Z<=300*k+100:=⟨v,bs,s,G⟩
  case' a|b|c=>
   refine⟨⟨G,by show _<((10:Nat):Int);omega⟩,_,Dz (ld B cn) (by rw[ae];show 0+0+((n:Nat):Int).toNat*1=_;omega),_,eQ (s.M 0 B) s.e.a G d G,?_⟩;rintro _ al w1;obtain⟨u,o⟩:=s.bf 0 B w1;obtain⟨Z,P⟩:∃x,x=bs++aI sn.data:=⟨_,B⟩;rw[←P] at o;have af:LB Z<=300*k+100:=by rw[P,len];omega
  case' a|b|c|d=>
   obtain⟨Q,am,cu⟩:=M o.e (show 10+p%4<LB l by omega);refine⟨⟨by rw[f];omega,by decide⟩,⟨by rw[f];omega,by rw[f];show _<((4:Nat):Int);omega⟩,_,Dz (ld B cu) (by rw[f];show 0+10+(((LB ds:Int)-1-k)%4).toNat*1=_;omega),_,eQ (o.M 0 B) o.e.a G d G,?_⟩;rintro _ an w3;obtain⟨v3,j⟩:=o.bf 0 B w3;have R:(Z++aI Q.data).length<=300*k+200:=by rw[len];omega
   obtain⟨T,V⟩:∃x,x=Z++aI Q.data:=⟨_,B⟩;rw[←V] at j;have R:LB T<=300*k+200:=by rw[V,len];omega
   refine⟨⟨by rw[f];omega,by decide⟩,Ad (λz=>?_) (λz=>?_)⟩
  rotate_right
  obtain⟨v3,T,j,R⟩:∃u Z,aH h1 r [RK h1.a h1.a u Z]/\LB Z<=300*k+200:=⟨v,bs,s,G⟩;refine⟨⟨by rw[f];omega,by decide⟩,Ad (λz=>Ad (λe5=>?_) (λe5=>?_)) (λz=>?_)⟩
  all_goals first
   |exact⟨Pq,Da (Sq) G j⟩
   |
    obtain⟨sg,ao,cg⟩:=ad j.e (show p/4<5 by omega);refine⟨⟨by rw[f];omega,by decide,by rw[f];omega,by rw[f];omega⟩,⟨by rw[f];omega,by rw[f];show _<((5:Nat):Int);omega⟩,_,Dz (ld B cg) (by rw[f];show 0+(((LB ds:Int)-1-k)/4).toNat*1=_;omega),_,eQ (j.M 0 B) j.e.a G d G,?_⟩;rintro _ ap w4;obtain⟨v4,s4⟩:=j.bf 0 B w4;exact⟨Pq,Da (Sq) (by rw[len];omega) s4⟩
def tS (c:Mo h) (e:Ml ds):iB S L 7 233 [Sg (EY ds)] h λw J=>∃(t:Bd) (b:Bool),w=.tuple #[Sg t,.bool b]/\aL t<=10000:=
 Cn f233 λd n _=>by
  let⟨l,t,a,f,i⟩:=c.p;refine⟨_,EQ (k:=15) Kq i (by unfold Qu;rw[Aj,CM,a];rfl),_,rY c a f e d G,?_⟩;rintro _ g ⟨j,t,b,rfl,m⟩;exact⟨j,_,_,B,m⟩
def Bk.up (c:Bk S L d f args h Q) (a:d<=e):Bk S L e f args h Q:=λn b=>c n Jq
def ADd (c:Mo h):iS S L 8 233 h:=λf x ds d=>((tS (c.C x) d).up Jq).mono λ_ _ ⟨g,t,b,e,m⟩=>⟨g,t,b,e,Ao m xc⟩
def AGl (c:Mo h):iS S L 8 234 h:=λn x ds e=>
 Cn f234 λd o _=>by
  let⟨l,t,a,i,j⟩:=(c.C x).f;refine⟨_,EQ (k:=15) Kq j (by unfold Qu;rw[Aj,CM,a];rfl),_,rY (c.C x) a i e d G,?_⟩;rintro _ g ⟨m,t,b,rfl,u⟩;exact⟨m,_,_,B,Ao u xc⟩
def Pb (h J:Y) (m:Nat) (w:Aa):Prop:=∃ss:BZ,AS J h.a 9 1 w (LB ss) (AR ss)/\LB ss<=m/\∀s∈ss,aL s<=1100000
def ABj (a b:Bd) (h:Y):Bs Ax 40 2 [(0,Sg a),(1,Sg b)] h=I (sL h.a 2 2,BN h 9 [Sg a,Sg b]):=Kq
def PU (f:Nat):Value:=.func (.func f) #[] #[]
def ABr (a b c d:Nat) (h:Y):Bs Ax 380 4 [(0,PU a),(1,PU b),(2,PU c),(3,PU d)] h=I (sL h.a 4 4,BN h 379 [PU a,PU b,PU c,PU d]):=Kq
section
variable{h0 h:Y} {l:List Ct}
def aH.bt (s:aH h0 h l) (t:Bd):Gh Ax 9 (Sg t) h=I (AG h.a 0,h.new (.str t 0))/\aH h0 (h.new (.str t 0)) (aB h.a (.str t 0)::l):=
 ⟨B,s.add (AA.new h (.str t 0)) ⟨by rw[Ck];omega,by rw[CK,Bi B]⟩ λi U=>A2 U.symm⟩
def aH.bL (s:aH h0 h l) {t:Bd} (U:l[i]?=I (aB r (.str t p))):
 (p<aL t/\∃w z J,(1<=w/\w=(FF (t.data.toList.drop p)).2/\z=(FF (t.data.toList.drop p)).1)/\FT (AG r 0) Ag h=I [(.tuple #[.bool Ag,Vi p,.int .i32 z],J)]/\aH h0 J (l.set i (aB r (.str t (p+w)))))\/
 (aL t<=p/\FT (AG r 0) Ag h=I [(.tuple #[.bool Ah],h)]):=by
 rcases NE (s.a7 _ U) with⟨c,w,z,a,e⟩|⟨c,e⟩
 .exact .inl ⟨c,w,z,_,a,e,s.ah _ U (Er.put h r (.str t (p+w))).O ⟨by rw[Cc];exact(s.2.1 i _ U).1.1,by rw[BQ,Bi B]⟩ λx b=>.inl b⟩
 .exact .inr ⟨c,e⟩
def aH.cE (s:aH h0 h l) (n:Nat) (a:LB ss=n):aH h0 (BN h 9 (AR ss)) (aS h0.a 9 1 (sL h.a n n) n (AR ss)::l):=by
 have e:(AR ss).length=n*1:=by rw[CM];omega
 exact s.add (AA.row h 9 (AR ss)) ⟨e,.inr ⟨h.a,n,[],B,s.e.a,Ae _,Jq,by rw[Fb];exact aQ.row _ _ _⟩⟩ λi U=>A2 U.symm
end
def vh {x:UInt8} {r:Int} (h:(dE x:Int)=r) (c:48<=r) (a:r<=57):fL x:=Pq
def wM (P:Mo h) (hs:aL s<=1000000):iB S L 10 147 [Sg s] h λw J=>Pb h J 6 w:=
 Cn f147 λd ag hL=>by
  obtain⟨D,y1,s1⟩:=(aH.nil h).a3;obtain⟨y2,s2⟩:=s1.bt s;have nil:∀{H:Y},AA h H->AA h H/\Pb h H 6 (sN):=λx=>⟨x,[],AS.nil _ _ _ _,by decide,λ_ h=>by cases h⟩;refine⟨_,_,y1 _,_,_,y2,λE A F=>∃(p:Nat) (v:Aa) (ds:Bl),A=[(3,AG h.a 0),(13,AG D.a 0)]/\E=aL s-p/\Ml ds/\(LB ds<=p/\LB ds<=aL s)/\aH h F [aB D.a (.str s p),RK h.a h.a v ds],
   ⟨_,_,Sq,G,0,_,[],B,B,Ml.nil,⟨Al _,Al _⟩,s2⟩,?_⟩
  rintro E A F ⟨p,v,ds,rfl,rfl,Q,hl,N⟩ ab;rcases N.bL (i:=0) B with⟨hp,w,z,h4,V,R,n⟩|⟨hp,R⟩
  .have W:∀{x:UInt8} {A:As},fL x->Sub [(3,AG h.a 0),(13,AG D.a 0)] A->∀{J},Gu h4 J h.a h.a v (ds++[x])->∃m' X,Sub X A/\m'<aL s-p/\∃(p:Nat) (v:Aa) (ds:Bl),X=[(3,AG h.a 0),(13,AG D.a 0)]/\m'=aL s-p/\Ml ds/\(LB ds<=p/\LB ds<=aL s)/\aH h J [aB D.a (.str s p),RK h.a h.a v ds]:=λr ad J w5=>by
    obtain⟨v5,s5⟩:=n.bf 1 B w5;exact⟨_,_,ad,(show aL s-(p+w)<_ by omega),p+w,_,_,B,B,λy hy=>(dF.1 hy).elim (Q y) λh=>by rw[bQ.1 h];exact r,by simp;omega,s5⟩
   refine⟨_,_,R,Ad (λC=>Ad (λm=>?a) (λm=>?b)) (λC=>?c)⟩
   case a=>
    have C:=Fp C;have m:=Fp m;exact⟨_,hT (n.M 1 B) n.e.a G d G,λ_ J q=>q.elim λcs q=>(q.2.1 G G).elim λx r=>W (vh r.2 C m) (Sq) (r.1▸q.2.2.2)⟩
   all_goals
    refine Ad (λK=>Ad (λT=>?_) (λT=>nil n.e)) (λK=>nil n.e);have K:=Fp K;have T:=Fp T;exact⟨Pq,Pq,_,hT (n.M 1 B) n.e.a G d G,λ_ J q=>q.elim λcs q=>(q.2.1 G G).elim λx r=>W (vh r.2 G G) (Sq) (r.1▸q.2.2.2)⟩
  .refine⟨_,_,R,_,gg (N.M 1 B) G d G,?_⟩
   rintro _ g ⟨rfl,c5⟩;have e5:=N.e.then c5 λi U=>(N.M 1 B).o.ge i U
   refine cl (kC) ?_;rintro _ g6 ⟨j,b,rfl,hb⟩;refine⟨_,_,B,Ad (λC=>nil (e5.trans j)) (λC=>?_)⟩;have hb:LB ds<=20:=(hb (by cases b<;>first|rfl|cases C)).2
   refine cl (tA (ds:=ds) (f:=230) (e:=1) Q hb (AAm)) ?_;rintro _ g7 ⟨x7,t,rfl,m9⟩;have s8:=((aH.nil h).C ((e5.trans j).trans x7)).cE 2 (ss:=[EY ds,t]) B;have Z:=s8.add (a:=aO (BN g7 9 (AR [EY ds,t])).a 379 [PU 231,PU 232,PU 233,PU 234]) (AA.row _ _ _) (aQ.row _ _ _) λi U=>A2 U.symm;have ae:∀k:Nat,k<4->∃f,[PU 231,PU 232,PU 233,PU 234][k]?=I (PU f)/\iS S L 8 f h:=λk hk=>by
    rcases k with _|_|_|_|k
    .exact⟨_,B,ACq⟩
    .exact⟨_,B,ACc P⟩
    .exact⟨_,B,ADd P⟩
    .exact⟨_,B,AGl P⟩
    .omega
   obtain⟨M,aa⟩:∃M,M=(BN g7 9 (AR [EY ds,t])).a:=⟨_,B⟩;rw[←aa] at Z;refine⟨_,_,ABj _ _ _,_,_,ABr 231 232 233 234 _,λE A F=>∃(k:Nat) (v:Aa) (ss:BZ),A=[(6,Sg (EY ds)),(7,v),(45,sL M 4 4),(46,Vi 4),(47,Vi k)]/\k<=4/\E=4-k/\LB ss<=2+k/\(∀s∈ss,aL s<=1100000)/\aH h F [aO M 379 [PU 231,PU 232,PU 233,PU 234],aS h.a 9 1 v (LB ss) (AR ss)],
    ⟨_,_,CG (l:=[(6,_),(7,_),(45,sL M 4 4),(46,_),(47,Vi ((0:Nat):Int))]) ⟨B,B,by rw[aa];rfl,B,B,trivial⟩,G,0,_,[EY ds,t],B,Al _,B,Ae 2,(λs h=>by
     rcases bZ.1 h with rfl|h
     .show LB ds<=_;omega
     .rw[bQ.1 h];omega),Z⟩,?_⟩
   rintro E A F ⟨k,v,ss,rfl,hk,rfl,ah,sz,s⟩ ab;refine Ad (λm=>?_) (λm=>⟨s.e,ss,s.sl 1 B,G,sz⟩);have m:=Fp m;obtain⟨f,hf,V⟩:=ae k G;refine⟨G,_,Dz (ld B (s.q 0 _ B hf)) (by show 0+((k:Nat):Int).toNat*1=_;omega),_,V _ s.e ds Q d G,?_⟩;rintro _ h9 ⟨x9,u,b,rfl,m8⟩;have O:=s.C x9;have o:=O.sl 1 B;obtain⟨A1,c1,rfl⟩:∃A c,v=.slice A (LB ss) c:=by obtain⟨_,A,c,e,_⟩:=o.rd;exact⟨A,c,e⟩
   refine cl (pD o.rd G) ?_;rintro _ h9 ⟨rfl,b2,rfl,_⟩;refine⟨_,_,B,Ad (λK=>?_) (λK=>?_)⟩
   .obtain⟨v',J,t1,af⟩:=O.bA 40 9 1 1 [Sg u] ((ss++[u]).length) (AR (ss++[u])) B O.e.a G wl (by simp[AR])
    exact⟨_,_,i3 40 9 1 (Sg u) _,_,_,t1,Pq,_,_,Sq,G,k+1,_,_,B,G,B,by simp;omega,(λs h=>(dF.1 h).elim (sz s) λh=>by rw[bQ.1 h];exact m8),af⟩
   .exact⟨Pq,_,_,Sq,G,k+1,_,ss,B,G,B,G,sz,O⟩
def gU (y:Int):Int:=365*(y-1)+(y-1)/4-(y-1)/100+(y-1)/400
def mA (b:1<=y/\y<=20000):Bk S L 1 310 [Vi y] h λw J=>w=Vi (gU y)/\J=h:=
 Cn f310 λd c _=>
  ⟨Pq,Pq,⟨G,Jq,G,G⟩,Pq,⟨G,Jq,G,G⟩,Pq,⟨G,Jq,G,G⟩,Pq,B,B⟩
def iI (m:Int):Int:=(153*((m+9)%12)+2)/5+59
def fo (y m:Int):Int:=if m<=2 then iI m-365 else if y%4=0/\(y%100≠0\/y%400=0) then iI m+1 else iI m
def Aap {m:Int} (a:1<=m/\m<=12):0<=fo y m/\fo y m<=1000/\(m=1->fo y m=0):=by
 unfold fo iI;split
 .omega
 .split<;>omega
def sD {m:Int} (l:1<=y/\y<=20000) (n:1<=m/\m<=12):Bk S L 1 311 [Vi y,Vi m] h λw J=>w=Vi (fo y m)/\J=h:=
 Cn f311 λd o _=>by
  have e:iI m=(153*((m+9)%12)+2)/5+59:=B;refine⟨Pq,Jq,Pq,Pq,⟨G,by decide,G,G⟩,Pq,Bz (λc=>?_) (λc=>?_)⟩
  .exact⟨Pq,by rw[fo,Bi c,e];rfl,B⟩
  have i:y%4=0/\(y%100≠0\/y%400=0)->Vi ((153*((m+9)%12)+2)/5+59+1)=Vi (fo y m)/\h=h:=λf=>⟨by rw[fo,Bm c,Bi f,e],B⟩;have j:¬(y%4=0/\(y%100≠0\/y%400=0))->Vi ((153*((m+9)%12)+2)/5+59)=Vi (fo y m)/\h=h:=λf=>⟨by rw[fo,Bm c,Bm f,e],B⟩;refine⟨Jq,Ad (λa=>?_) (λa=>j λh=>KK a h.1)⟩;have a:=Fp a;refine⟨Jq,Ad (λb=>⟨Pq,i ⟨a,.inl λh=>?_⟩⟩) (λb=>⟨Jq,Ad (λg=>⟨Pq,i ⟨a,.inr (Fp g)⟩⟩) (λg=>j λh=>?_)⟩)⟩
  .rw[h] at b;cases b
  .rcases h.2 with h|h
   .have:=decide_eq_false h
    rw[this] at b;cases b
   .exact KK g h
def zB (day:Int) (w:Aa):Prop:=(w=.tuple #[.int .i64 0,.int .i64 0,.int .i64 0,.bool Ah])\/((1<=day/\day<=3652059)/\∃y m d:Nat,w=.tuple #[.int .i64 y,.int .i64 m,.int .i64 d,.bool Ag]/\(1<=y/\y<=9999)/\(1<=m/\m<=12)/\(1<=d/\d<=400))
def tC:Bk S L 2 237 [Vi day] h λw J=>zB day w/\J=h:=
 Cn f237 λd q s=>by
  refine Ad (λf=>⟨.inl B,B⟩) (λf=>Ad (λg=>⟨.inl B,B⟩) (λg=>?_));have f:=KK f;have g:=KK g;refine⟨Pq,Pq,⟨G,by decide,G,G⟩,Pq,λa A c=>∃y:Nat,A=[(0,Vi day),(2,Vi y)]/\c=h/\(1<=y/\y<=10001)/\y=a,
   ⟨_,_,CG (l:=[(0,_),(2,Vi (((day-1)*400/146097+1).toNat:Nat))]) ⟨B,Cs (λz=>I (Vi z)) G,trivial⟩,G,_,B,B,G,B⟩,?_⟩
  rintro a A h ⟨y,rfl,rfl,k,rfl⟩ i;refine GZ (mA G d G) ?_;have n:gU y=365*((y:Int)-1)+((y:Int)-1)/4-((y:Int)-1)/100+((y:Int)-1)/400:=B;apply Bz<;>intro j
  .exact⟨Pq,_,_,CG (l:=[(0,_),(2,Vi ((y-1:Nat):Int))]) ⟨B,Cs (λz=>I (Vi z)) G,trivial⟩,(show y-1<y by omega),_,B,B,G,B⟩
  refine⟨λa A c=>∃y:Nat,A=[(0,Vi day),(2,Vi y)]/\c=h/\(1<=y/\gU y<day)/\a=10000-y,
   ⟨_,_,Sq,G,y,B,B,G,B⟩,?_⟩
  rintro a A h ⟨y,rfl,rfl,⟨k,t⟩,rfl⟩ i;have n:gU y=365*((y:Int)-1)+((y:Int)-1)/4-((y:Int)-1)/100+((y:Int)-1)/400:=B;refine⟨Pq,GZ (mA G d G) ?_⟩;have u:gU ((y:Int)+1)=365*((y:Int)+1-1)+((y:Int)+1-1)/4-((y:Int)+1-1)/100+((y:Int)+1-1)/400:=B;apply Bz<;>intro j
  .exact⟨Pq,_,_,Sq,(show 10000-(y+1)<10000-y by omega),_,B,B,⟨G,by rw[show((y+1:Nat):Int)=(y:Int)+1 by omega];exact j⟩,B⟩
  refine GZ (mA G d G) ?_;refine⟨Pq,?_⟩;obtain⟨r,o⟩:∃r:Int,r=day-gU y:=⟨_,B⟩;rw[←o];refine⟨λa A c=>∃m:Nat,A=[(2,Vi y),(3,Vi m),(6,Vi r)]/\c=h/\(1<=m/\m<=12)/\m=a,
   ⟨_,_,Sq,G,12,B,B,by decide,B⟩,?_⟩
  rintro a A h ⟨m,rfl,rfl,p,rfl⟩ i;have hb:=Aap (y:=y) (m:=m) G;refine GZ (sD G G d G) ?_;apply Bz<;>intro v
  .have b:¬(m:Int)=1:=λe=>by have:=hb.2.2 e;omega
   exact⟨Pq,_,_,CG (l:=[(2,_),(3,Vi ((m-1:Nat):Int)),(6,_)]) ⟨B,Cs (λz=>I (Vi z)) G,B,trivial⟩,(show m-1<m by omega),_,B,B,G,B⟩
  refine GZ (sD G G d G) ?_;refine⟨Pq,.inr ⟨G,y,m,(r-fo y m).toNat,?_,Jq,p,G,G⟩,B⟩;rw[UQ G];rfl
end
open Go Go.Proofs Tryz
section
variable {h J h0 h1 H:Y} {v fv nv pv cv ev lv u v':Aa} {xs args vs ys:AH} {n b N i k e r j x m c q d a p t2 st sb mo ck lp rm b0 sz off:Nat} {t:Ai} {f:Au} {fn:BC} {s:Bd} {bs:Bl} {ws:Bo} {W:Nat->Prop} {Q:Aa->Y->Prop} {A:Option BD} {z df day:Int} {ss:BZ} {τ:Bb}
variable{S:A9} {L:Nat} [aF S L]
def jq:AH:=[.int .i32 26085,.int .i32 26376,.int .i32 28779,.int .i32 27700,.int .i32 26408,.int .i32 37329,.int .i32 22303]
def vZ (h:Y):Bs Ax 210 7 [(0,.int .i32 26085),(1,.int .i32 26376),(2,.int .i32 28779),(3,.int .i32 27700),(4,.int .i32 26408),(5,.int .i32 37329),(6,.int .i32 22303)] h=I (sL h.a 7 7,BN h 21 jq):=Kq
def Arr:∀i:Nat,i<7->∃z,jq[i]?=I (.int .i32 z)
 |0,_|1,_|2,_|3,_|4,_|5,_|6,_=>⟨_,B⟩
def ABa:iB S L 1 240 [Vi day] h λw J=>∃(t:Bd) (b:Bool),w=.tuple #[.string t,.bool b]/\aL t<=4:=
 Cn f240 λd g _=>by
  refine Ad (λa=>⟨AA.refl h,_,_,B,Jq⟩) (λa=>Ad (λe=>⟨AA.refl h,_,_,B,Jq⟩) (λe=>?_));have a:=KK a;let⟨z,f⟩:=Arr (day%7).toNat G;refine⟨_,_,vZ h,⟨G,Jq⟩,G,_,Dz (ld B ((aQ.row h 21 jq).cell f)) (by show 0+(day%7).toNat*1=_;omega),_,B,AA.row h 21 jq,_,_,B,Nz _⟩
structure sR where
 c:Bd
 y:Int
 m:Int
 d:Int
def jo (e:sR):AH:=[.string e.c,.int .i64 e.y,.int .i64 e.m,.int .i64 e.d]
def Hp (e:sR):Prop:=aL e.c<=10/\1<=e.y/\e.y<=3000
def zF (w:Aa):Prop:=∃cs,w=.agg cs/\∀k:Nat,k<5->∃e,Hp e/\I8 Ax 447 (.agg cs) (.int .i64 k)=I (.agg ⟨jo e⟩)
def aQ.cA {t:Nat} (a:ZX τ t k=Ag) {e:Ai} (o:aQ h b e xs) (c:LB vs=k) (d:i+k<=LB xs) (g:vs.all one=Ag) {K:Y->Prop} (H:∀J,aQ J b e (I2 xs i vs)->Er b h J->K J):
 ∃J,BA τ t h b i (.agg ⟨vs⟩)=I J/\K J:=by
 let⟨J,f,o',u⟩:=o.bD a c d g;exact⟨J,f,H J o' u⟩
def AEp:iB S L 1 315 [] h λw J=>zF w:=
 Cn f315 λd f _=>by
  obtain⟨g,y,s⟩:=(aH.nil h).O (z:=.agg ⟨(AE 5 (jo ⟨⟨#[]⟩,0,0,0⟩)).flatten⟩) Kq;refine⟨_,_,y _,(s.dD 0 B).cA Kq B Jq B λj b c=>⟨_,EQ Kq b.cells B,s.e.ah c Jq,_,B,λk l=>?_⟩⟩;rcases k with _|_|_|_|_|k
  all_goals first
   |exact⟨⟨_,_,_,_⟩,⟨Jq,Jq,Jq⟩,rfl⟩
   |omega
def rK (w:Aa):Prop:=∃(t:Bd) (z:Nat) (b:Bool),w=.tuple #[.string t,.int .i64 z,.bool b]/\aL t<=10/\(b=Ag->z<=9999)
def AGk:iB S L 4 243 [Vi day] h λw J=>rK w:=
 Cn f243 λd O P=>by
  refine⟨_,tC d G,?_⟩;rintro _ h ⟨rfl|⟨_,y,m,f,rfl,Q,R,T⟩,rfl⟩
  .exact⟨_,_,B,AA.refl _,_,0,_,B,Jq,λh=>Jq⟩
  refine⟨_,_,B,_,AEp d G,?_⟩;rintro _ t ⟨C,cs,rfl,D⟩;refine⟨λl A a=>∃k:Nat,A=[(5,Vi y),(6,Vi m),(7,Vi f),(19,.agg cs),(20,Vi k)]/\k<=5/\l=5-k/\AA h a,
   ⟨_,_,Sq,G,0,B,Al _,B,C⟩,?_⟩
  rintro l A a ⟨k,rfl,V,rfl,n⟩ W;refine Ad (λg=>?_) (λg=>⟨n,_,0,_,B,Jq,λh=>Jq⟩);have g:=Fp g;let⟨e,⟨E,X,e3⟩,U⟩:=D k G;obtain⟨z,F,j,H,o⟩:=(aH.nil a).va 446 (jo ⟨⟨#[]⟩,0,0,0⟩) (jo e);have p:=n.trans o.e;have c:∀(i:Nat) v,(jo e)[i]?=I v->aC j a.a i v:=λi v U=>o.q 0 _ B U;have c1:=c 1 _ B;have q:=c 2 _ B;have r:e.y<=y->AA h j/\rK (.tuple #[.string e.c,Vi (y-e.y+1),.bool Ag]):=λh=>⟨p,_,(y-e.y+1).toNat,_,by rw[UQ G],E,λ_=>G⟩;refine⟨_,U,_,_,F _,_,H,_,ld B c1,Ad (λs=>?_) (λs=>⟨_,ld B c1,Ad (λu=>⟨_,ld B q,Ad (λK=>?_) (λK=>⟨_,ld B q,Ad (λM=>⟨_,ld B (c 3 _ B),Ad (λb=>?_) (λb=>?_)⟩) (λM=>?_)⟩)⟩) (λu=>?_)⟩)⟩
  all_goals first
   |exact⟨Pq,(λN=>⟨_,_,N,(show 5-(k+1)<5-k by omega),k+1,B,G,B,p⟩:∀{A:As},Sub [(5,Vi y),(6,Vi m),(7,Vi f),(19,.agg cs),(20,Vi ((k+1)))] A->∃m' x,Sub x A/\m'<5-k/\∃k:Nat,x=[(5,Vi y),(6,Vi m),(7,Vi f),(19,.agg cs),(20,Vi k)]/\k<=5/\m'=5-k/\AA h j) (Sq)⟩
   |exact⟨[],Kq,_,ld rfl (c 0 _ rfl),_,ld rfl c1,Pq,Pq,r Jq⟩
   |exact⟨[],Jq,_,ld rfl (c 0 _ rfl),_,ld rfl c1,Pq,Pq,r Jq⟩
def jt (s t:Bd):Bool:=if aL t<=aL s then Gp ((s.data.toList.drop 0).take (aL t-0)) (aI t.data) else Ah
def oQ {t:Bd}:Bk S L 2 118 [Sg s,Sg t] h λw J=>J=h/\w=.bool (jt s t):=
 Cn f118 λd b _=>by
  have c:Bk S L 1 203 [Sg s,Sg t] h λw J=>J=h/\w=.bool (jt s t):=Cn f203 λd b _=>by
   apply Bz<;>intro e
   .exact⟨_,_,Cs (CN _) (kT G),_,B,B,by unfold jt;rw[Bi G];rfl⟩
   .exact⟨B,by unfold jt;rw[Bm G];rfl⟩
  exact⟨_,c d G,λ_ _ h=>h⟩
def AEq {n:Int} (b:n=2\/n=3):Bk S L 1 402 [.int .u64 1,.int .u64 n] h λw J=>J=h/\w=.tuple #[.int .u64 0,.int .u64 n]:=by
 rcases b with rfl|rfl
 all_goals exact Co f402 λd c=>Jq
def ADn {n:Int} (i:0<=n/\n<=3):Bk S L 4 314 [Sg ⟨#[48]⟩,Vi n] h λw J=>J=h/\∃t:Bd,w=.string t/\aL t<=10:=by
 have e:n=2\/n=3->Bk S L 4 314 [Sg ⟨#[48]⟩,Vi n] h λw J=>J=h/\∃t:Bd,w=.string t/\aL t<=10:=λf=>Co f314 λd b=>by
  have g:Bk S L 2 369 [.int .u64 1,.int .u64 n] h λw J=>J=h/\w=.tuple #[.int .u64 0,.int .u64 n]:=Co f369 λd b=>by
   refine⟨Dc B,_,AEq f d G,?_⟩;rintro _ h ⟨rfl,rfl⟩;exact⟨B,B⟩
  refine⟨Dc B,?_⟩;rcases f with rfl|rfl
  all_goals
   refine⟨_,.inl ⟨⟨Jq,Jq⟩,B⟩,_,.inl ⟨⟨Jq,Jq⟩,B⟩,_,g d G,?_⟩;rintro _ h ⟨rfl,rfl⟩;refine⟨_,.inl ⟨⟨Jq,Jq⟩,B⟩,⟨Jq,Jq⟩,_,oQ d G,?_⟩;rintro _ h ⟨rfl,rfl⟩;refine cl (oQ) ?_;rintro _ h ⟨rfl,rfl⟩;refine cl (oQ) ?_;rintro _ h ⟨rfl,rfl⟩;exact⟨_,_,B,B,_,B,Jq⟩
 rcases(show n=0\/n=1\/n=2\/n=3 by omega) with rfl|rfl|c|c
 .exact Co f314 λd b=>⟨Dc B,B,_,B,Jq⟩
 .exact Co f314 λd b=>⟨Dc B,B,_,B,Jq⟩
 .exact e (.inl c)
 .exact e (.inr c)
def AGp (q:Jx h) (c:x<=9999) {n:Int} (g:0<=n/\n<=4):iB S L 6 242 [Vi x,Vi n] h λw J=>∃t:Bd,w=.string t/\aL t<=20:=
 Cn f242 λd i _=>by
  refine cl (nM q c) ?_;rintro _ b ⟨e,ds,rfl,j,k⟩;have a:(EY ds).size=LB ds:=B;refine⟨⟨Jq,Jq⟩,λz f=>?_⟩;refine cl (ADn G) ?_;rintro _ l ⟨rfl,t,rfl,m⟩;exact⟨Sg (t++EY ds),ZS _ _ Jq,e,_,B,Jq⟩
end
section
variable{S:A9} {L:Nat} [aF S L]
section
variable {h J h0 h1 H:Y} {v fv nv pv cv ev lv u v':Aa} {xs args vs ys:AH} {n b N i k r j x m c q d a p t2 st sb mo ck lp rm b0 sz off:Nat} {t:Ai} {f:Au} {fn:BC} {s:Bd} {bs:Bl} {ws:Bo} {W:Nat->Prop} {Q:Aa->Y->Prop} {A:Option BD} {z df day:Int} {ss:BZ} {τ:Bb}
def AGn (h0:Y) (b:Nat) (v:Aa) (ss:BZ):List Ct:=[aO b 40 [v],aS h0.a 9 1 v (LB ss) (AR ss)]
def MP (h0 h:Y) (b m:Nat):Prop:=∃(v:Aa) (ss:BZ),(LB ss<=m/\∀s∈ss,aL s<=1100000)/\aH h0 h (AGn h0 b v ss)
def MP.C (o:MP h0 h b m) (x:AA h J):MP h0 J b m:=by
 let⟨v,ss,h1,s⟩:=o;exact⟨v,ss,h1,s.C x⟩
def MP.e (o:MP h0 h b m):AA h0 h:=by
 let⟨v,ss,h1,s⟩:=o;exact s.e
def Xn (o:MP h0 h b m) {ps:BZ} (A:m<=100) (q:LB ps=n) (r:LB ps<=100) (u:∀s∈ps,aL s<=10000):Bk S L 6 238 [sL h.a n n,AG b 0] (BN h 9 (AR ps)) λ_ J=>MP h0 J b (m+1):=
 Cn f238 λd C _=>by
  subst q;obtain⟨v,ss,I,s⟩:=o;have w:=AA.row h 9 (AR ps);have c:=s.C w;have x:Rd (BN h 9 (AR ps)).ad (sL h.a (LB ps) (LB ps)) 1 (LB ps) (AR ps):=(aQ.dB (aQ.row h 9 (AR ps)) (by rw[CM];omega)).C (AA.ad _);refine⟨[],Kq,_,ld B (c.q 0 _ B B),_,ta x r u xc d G,?_⟩;rintro _ D ⟨f,t,rfl,m9⟩;have g:=c.bz f;obtain⟨E,y,l,F,k,p,H⟩:=g.bo Kq (i:=1) B (ys:=[Sg t]) B B g.e.a G (n':=(ss++[t]).length) (xs':=AR (ss++[t])) wl (by simp[AR]);obtain⟨K,j,z⟩:=p.stM (τ:=Ax) (t:=40) B (i:=0) B (by show 0<1;decide) (D5 (p.sl 1 B));subst y;exact⟨f.C,_,_,i3 40 _ 1 (Sg t) _,_,_,k,_,j,l,ss++[t],⟨by simp;omega,λs h=>(dF.1 h).elim (I.2 s) λh=>by rw[bQ.1 h];exact m9⟩,z⟩
def AAr (q:Jx h) (e:Mo h) (f:x<=9999):iB S L 8 244 [Vi x] h λw J=>∃t:Bd,w=.string t/\aL t<=10000:=
 Cn f244 λd k _=>by
  refine cl (nM q f) ?_;rintro _ a ⟨c,ds,rfl,g,_⟩;refine cl (tS (e.C c) g) ?_;rintro _ l ⟨i,t,b,rfl,j⟩;exact⟨c.trans i,t,B,j⟩
def sW (a:Bd) (h:Y):Bs Ax 40 1 [(0,Sg a)] h=I (sL h.a 1 1,BN h 9 (AR [a])):=Kq
def tt (a b c:Bd) (h:Y):Bs Ax 40 3 [(0,Sg a),(1,Sg b),(2,Sg c)] h=I (sL h.a 3 3,BN h 9 (AR [a,b,c])):=Kq
def rO (a b c d:Bd) (h:Y):Bs Ax 40 4 [(0,Sg a),(1,Sg b),(2,Sg c),(3,Sg d)] h=I (sL h.a 4 4,BN h 9 (AR [a,b,c,d])):=Kq
def ABb (a b c d e:Bd) (h:Y):Bs Ax 40 5 [(0,Sg a),(1,Sg b),(2,Sg c),(3,Sg d),(4,Sg e)] h=I (sL h.a 5 5,BN h 9 (AR [a,b,c,d,e])):=Kq
def AAf (a b c d e f:Bd) (h:Y):Bs Ax 40 6 [(0,Sg a),(1,Sg b),(2,Sg c),(3,Sg d),(4,Sg e),(5,Sg f)] h=I (sL h.a 6 6,BN h 9 (AR [a,b,c,d,e,f])):=Kq
def ABx (a b c d e f g:Bd) (h:Y):Bs Ax 40 7 [(0,Sg a),(1,Sg b),(2,Sg c),(3,Sg d),(4,Sg e),(5,Sg f),(6,Sg g)] h=I (sL h.a 7 7,BN h 9 (AR [a,b,c,d,e,f,g])):=Kq
end
end
section
variable {h J h0 h1 H:Y} {v fv nv pv cv ev lv u v':Aa} {xs args vs ys:AH} {n b N i k e r j x m c q d a p t2 st sb mo ck lp rm b0 sz off:Nat} {t:Ai} {f:Au} {fn:BC} {s:Bd} {bs:Bl} {ws:Bo} {W:Nat->Prop} {Q:Aa->Y->Prop} {A:Option BD} {z df day:Int} {ss:BZ} {τ:Bb}
variable{S:A9} {L:Nat} {l:AH} {g ob:Nat} {α:Type} [aF S L]
def MP.start (h:Y):∃g,(∀A,D9 Ax A h (.alloc 40)=I (AG h.a 0,g))/\MP h g h.a 0:=by
 obtain⟨g,y,s⟩:=(aH.nil h).O (z:=sN) Kq;exact⟨g,y,_,[],⟨Ae _,λ_ h=>by cases h⟩,(s.add (a:=aS h.a 9 1 (sN) 0 (AR [])) (AA.refl g) (AS.nil _ _ _ _) λi U=>U.elim).perm (List.Perm.swap ..)⟩
def MP.le (o:MP h0 h b m) (a:m<=n):MP h0 h b n:=by
 let⟨v,ss,h1,s⟩:=o;exact⟨v,ss,⟨Ao h1.1 a,h1.2⟩,s⟩
def ZI:∀s∈([]:BZ),aL s<=N:=λ_ h=>Jq
def Nc {a:Bd} {l:BZ} (h:aL a<=N) (t:∀s∈l,aL s<=N):∀s∈a::l,aL s<=N:=λs b=>(bZ.1 b).elim Jq (t s)
def kS {a b:Bd} (d:aL a<=m) (c:aL b<=n) (h:m+n<=k):(a++b).size<=k:=Jq
def gV (a b:Bd):Bd:=((a++⟨#[230,156,136]⟩)++b)++⟨#[230,151,165]⟩
def Ard {a b:Bd} (d:aL a<=4) (c:aL b<=4):(gV a b).size<=100:=kS (m:=20) (n:=3) (kS (m:=10) (kS (n:=3) d xc Jq) c Jq) xc xc
def zg (h:Y) (A:As) (c:Y):Prop:=∃(m d b:Nat) (a:Bd),A=[(4,.int .i64 m),(5,.int .i64 d),(7,AG b 0),(8,.func (.func 238) #[] #[AG b 0]),(11,.string a)]/\m<=12/\d<=400/\aL a<=100/\MP h c b 12
def wJ [a:aF S L] (q:Jx h) (aa:Mo h):iB S L 9 151 [Vi day] h λw J=>Pb h J 14 w:=
 Nu (fn:=f151) Kq B 11 (zg h) λn ab=>by
  have hL:=a.a;have c:∀{x:Nat} {H:Y},AA h H->x<=9999->Cd (B8 Ax S L n) (.func 241) [Vi x] H λw J=>∃t:Bd,w=.string t/\aL t<=4/\AA H J:=λx p=>((nM (q.C x) p).mono λ_ _ ⟨f,ds,e,_,_,j⟩=>⟨_,e,j,f⟩) n G;have u:∀{x:Nat} {z:Int} {H:Y},AA h H->x<=9999->0<=z/\z<=4->Cd (B8 Ax S L n) (.func 242) [Vi x,Vi z] H λw J=>∃t:Bd,w=.string t/\aL t<=20/\AA H J:=λx p l=>((AGp (q.C x) p l).mono λ_ _ ⟨f,t,e,j⟩=>⟨t,e,j,f⟩) n G;have C:∀{x:Nat} {H:Y},AA h H->x<=9999->Cd (B8 Ax S L n) (.func 244) [Vi x] H λw J=>∃t:Bd,w=.string t/\aL t<=10000/\AA H J:=λx p=>((AAr (q.C x) (aa.C x) p).mono λ_ _ ⟨f,t,e,j⟩=>⟨t,e,j,f⟩) n G;refine⟨Dc B,?_,?_⟩
  .refine⟨_,tC n G,?_⟩
   rintro _ h ⟨rfl|⟨_,y,m,d,rfl,hy,hm,hd⟩,rfl⟩
   .exact⟨_,_,B,AA.refl _,[],AS.nil _ _ _ _,by decide,λ_ h=>by cases h⟩
   obtain⟨g,M,o⟩:=MP.start h;obtain⟨b,hb⟩:∃b,b=h.a:=⟨_,B⟩;rw[←hb] at M o;refine⟨_,_,B,_,_,M _,_,ABa n G,?_⟩;rintro _ h1 ⟨x1,w,bw,rfl,hw⟩;have o:=o.C x1;refine⟨_,c o.e G,?_⟩;rintro _ h2 ⟨i,rfl,l1,f⟩;have o:=o.C f;refine⟨_,ZS _ _ (by have:K2 ⟨#[230,156,136]⟩=3:=rfl;omega),_,c o.e G,?_⟩;rintro _ h3 ⟨t2,rfl,l2,x3⟩;have o:=o.C x3;have N:=Ard l1 l2;have y3:K2 ⟨#[230,156,136]⟩=3:=rfl;have y4:K2 ⟨#[230,151,165]⟩=3:=rfl;refine⟨_,ZS _ _ Jq,_,ZS _ _ Jq,_,c o.e G,?_⟩;rintro _ h4 ⟨t3,rfl,l3,x4⟩;have o:=o.C x4;refine⟨_,_,tt _ _ _ _,_,Xn o Jq (ps:=[t3,_,gV i t2]) B Jq (Nc G (Nc xc (Nc G ZI))) n G,?_⟩;rintro _ h5 o;refine⟨_,c o.e G,?_⟩;rintro _ h6 ⟨t4,rfl,l4,x6⟩;have o:=o.C x6;refine⟨_,_,AAf _ _ _ _ _ _ _,_,Xn o Jq (ps:=[t4,_,gV i t2,_,w,_]) B (Ac B) (Nc G (Nc xc (Nc G (Nc xc (Nc G (Nc xc ZI)))))) n G,?_⟩;rintro _ h7 o;refine⟨λO A D=>∃k:Nat,A=[(0,Vi day),(3,Vi y),(4,Vi m),(5,Vi d),(7,AG b 0),(8,.func (.func 238) #[] #[AG b 0]),(11,Sg (gV i t2)),(55,.agg ⟨[Sg ⟨#[47]⟩,Sg ⟨#[45]⟩]⟩),(56,Vi k)]/\k<=2/\O=2-k/\MP h D b (2+k),
    ⟨_,_,Sq,G,0,B,Al _,B,o⟩,?_⟩
   rintro O A D ⟨k,rfl,hk,rfl,o⟩ ad;apply Bz<;>intro k1
   .obtain⟨E,ae,U⟩:∃E:Bd,aL E<=4/\I8 Ax 387 (.agg ⟨[Sg ⟨#[47]⟩,Sg ⟨#[45]⟩]⟩) (Vi k)=I (Sg E):=by
     rcases k with _|_|k
     .exact⟨_,by decide,B⟩
     .exact⟨_,by decide,B⟩
     .omega
    refine⟨_,U,_,u o.e G xc,?_⟩;rintro _ P ⟨u1,rfl,m1,F⟩;have o:=o.C F;refine⟨_,u o.e G xc,?_⟩;rintro _ Q ⟨R,rfl,T,r⟩;have o:=o.C r;refine⟨_,u o.e G xc,?_⟩;rintro _ V ⟨u3,rfl,m3,K⟩;have o:=o.C K;refine⟨_,_,ABb _ _ _ _ _ _,_,Xn o G B (Ac B) (Nc G (Nc G (Nc G (Nc G (Nc G ZI))))) n G,?_⟩;rintro _ W o;exact⟨Pq,_,_,Sq,(G:2-(k+1)<_),k+1,B,G,B,o.le G⟩
   .refine⟨_,AGk n G,?_⟩
    rintro _ h9 ⟨x9,nm,z,bb,rfl,af,l⟩;have o:=(o.C x9).le (n:=4) G;refine Ad (λX=>?_) (λX=>⟨_,Sq,m,d,b,gV i t2,B,G,G,N,o.le G⟩);have l:=l X;refine⟨_,c o.e l,?_⟩;rintro _ P ⟨u1,rfl,m1,F⟩;have o:=o.C F;refine⟨_,C o.e l,?_⟩;rintro _ Q ⟨R,rfl,T,r⟩;have o:=o.C r;apply Ad<;>intro k3
    all_goals
     refine⟨_,_,rO _ _ _ _ _,_,Xn o G B (Ac B) (Nc G (Nc (by first|decide|omega) (Nc xc (Nc G ZI)))) n G,?_⟩
     rintro _ V o;refine⟨_,C o.e G,?_⟩;rintro _ W ⟨u4,rfl,m4,z4⟩;have o:=o.C z4;refine⟨_,C o.e G,?_⟩;rintro _ g5 ⟨u5,rfl,m5,Z⟩;have o:=o.C Z;refine⟨_,_,ABx _ _ _ _ _ _ _ _,_,Xn o G B (Ac B) (Nc G (Nc (by first|decide|omega) (Nc xc (Nc G (Nc xc (Nc G (Nc xc ZI))))))) n G,?_⟩
     rintro _ g6 o;exact⟨_,Sq,m,d,b,gV i t2,B,G,G,N,o.le G⟩
  .rintro A D ⟨m,d,b,sh,rfl,hm,hd,hs,o⟩
   refine⟨_,_,sW _ _,_,Xn o G B (Ac B) (Nc G ZI) n G,?_⟩;rintro _ P o;refine⟨_,c o.e G,?_⟩;rintro _ Q ⟨R,rfl,T,r⟩;have o:=o.C r;refine⟨_,c o.e G,?_⟩;rintro _ V ⟨u3,rfl,m3,K⟩;refine⟨_,_,tt _ _ _ _,_,Xn (o.C K) G B (Ac B) (Nc G (Nc xc (Nc G ZI))) n G,?_⟩;rintro _ W ⟨v,ss,j,s⟩;exact⟨_,ld B (s.q 0 _ B B),s.e,ss,s.sl 1 B,G,j.2⟩
def TT (R:Aa->Prop) (n:Nat) (cs:AH):Prop:=LB cs=n*2/\cs.all one=Ag/\∀i,i<n->∃(a:Bd) (u:Aa),R u/\(cs.drop (i*2)).take 2=[.string a,u]
def rJ (u:Aa):Prop:=∃z:Int,u=.int .i64 z/\-2<=z/\z<=2
def nK (u:Aa):Prop:=∃s:Bd,u=.string s/\aL s<=41
def jx (n:Nat) (z:Aa):AH:=(AE n [Value.string ⟨#[]⟩,z]).flatten
def wL:iB S L 1 148 [] h λw J=>∃cs,w=.agg ⟨cs⟩/\TT rJ 6 cs:=
 Cn f148 λd f _=>by
  obtain⟨g,y,s⟩:=(aH.nil h).O (z:=.agg ⟨jx 6 (Vi 0)⟩) Kq;refine⟨_,_,y _,(s.dD 0 B).cA Kq B Jq B λj b c=>⟨_,EQ Kq b.cells B,s.e.ah c Jq,_,B,B,B,λi U=>?_⟩⟩;rcases i with _|_|_|_|_|_|i
  all_goals first
   |exact⟨_,_,⟨_,rfl,Jq,Jq⟩,rfl⟩
   |omega
def wK:iB S L 1 149 [] h λw J=>∃cs,w=.agg ⟨cs⟩/\TT nK 12 cs:=
 Cn f149 λd f _=>by
  obtain⟨g,y,s⟩:=(aH.nil h).O (z:=.agg ⟨jx 12 (Sg ⟨#[]⟩)⟩) Kq;refine⟨_,_,y _,(s.dD 0 B).cA Kq B Jq B λj b c=>⟨_,EQ Kq b.cells B,s.e.ah c Jq,_,B,B,B,λi U=>?_⟩⟩;rcases i with _|_|_|_|_|_|_|_|_|_|_|_|i
  all_goals first
   |exact⟨_,_,⟨_,rfl,Jq⟩,rfl⟩
   |omega
def AAz {a:Bd} (m:one u=Ag) (c:aC h b 0 (Sg s)) {f:Nat} (j:f=236/\fn=f236\/f=246/\fn=f246):iB S L 1 f [.agg ⟨[Sg a,u]⟩,AG b 0] h λw J=>∃b,w=.bool b:=by
 rcases j with⟨rfl,rfl⟩|⟨rfl,rfl⟩
 .refine Co f236 λd k=>?_
  let⟨h1,b1,e,g,l⟩:=H1 Ax 273 (.agg ⟨[Sg a,u]⟩) h;exact⟨Dc B,_,_,b1,_,ld B (g.cell B),_,ld B (c.C e),_,B,e,_,B⟩
 .refine Co f246 λd k=>?_
  let⟨h1,b1,e,g,l⟩:=H1 Ax 277 (.agg ⟨[Sg a,u]⟩) h;exact⟨Dc B,_,_,b1,_,ld B (g.cell B),_,ld B (c.C e),_,B,e,_,B⟩
def rP [j:aF S L] (r:Rd h v 2 n xs) (H:n<=100000000) {P:AH->Prop} (p:oD S L e fv h P) (q:∀i,i<n->P ((xs.drop (i*2)).take 2))
 {f:Nat} (U:Ax.fn.get f=I fn) (l:Nf.contains f=Ah) (s:fn=f235\/fn=f245):iB S L (e+1) f [v,fv] h λw J=>∃z:Int,w=Vi z/\-1<=z/\z<n:=by
 have K:=j.a;obtain⟨g,first,cap,rfl,t⟩:=p
 have u:=r;obtain⟨y,C,D,rfl,M,N,O⟩:=r;rcases s with rfl|rfl
 all_goals
  refine Fm U l λd Q=>?_;refine⟨Dc B,λm A a=>∃k:Nat,A=[(0,.slice C n D),(1,.func (.func g) first cap),(7,Vi n),(8,Vi k)]/\k<=n/\m=n-k/\AA h a,
   ⟨_,_,Sq,G,0,B,Al _,B,AA.refl _⟩,?_⟩
  rintro m A a ⟨k,rfl,R,rfl,x⟩ T;refine Ad (λc=>?_) (λc=>⟨x,-1,B,G,G⟩);have c:=Fp c;obtain⟨a1,V,E,_,W⟩:=(u.C x).el (show k<n by omega);cases E;refine⟨G,_,EQ Kq Jq (by rw[Cg,AV,y];omega:((xs.drop (k*2)).take 2).length=2),_,t _ a (q k G) x d G,?_⟩;rintro _ l ⟨o,b,rfl⟩;exact Ad (λF=>⟨x.trans o,k,B,G,G⟩) λF=>⟨Pq,_,_,Sq,G,k+1,B,G,B,x.trans o⟩
def tL {R:Aa->Prop} (r:Rd h v 2 n xs) (X:n<=100) (t:TT R n xs) (Z:∀u,R u->one u=Ag) {z:Aa} (F:R z)
 {f:Nat} (N:f=150/\fn=f150/\z=Vi 0\/f=152/\fn=f152/\z=.string ⟨#[]⟩):iB S L 3 f [v,Sg s] h λw J=>∃(u:Aa) (b:Bool),w=.tuple #[u,.bool b]/\R u:=by
 let⟨y,b1,o,O,n1⟩:=H1 Ax 9 (Sg s) h;obtain⟨P,c0,rfl⟩:∃A c,v=.slice A n c:=by let⟨_,A,c,e,_⟩:=r;exact⟨A,c,e⟩
 have C:=r.C o;have H:∀{f:Nat} {fn:BC},(f=236/\fn=f236\/f=246/\fn=f246)->oD S L 1 (.func (.func f) #[] #[AG h.a 0]) y λxs=>∃(a:Bd) (u:Aa),R u/\xs=[Sg a,u]:=λQ=>⟨_,_,_,B,λxs J t x=>by
  obtain⟨a,u,j,rfl⟩:=t;exact AAz (Z u j) ((O.cell B).C x) Q⟩
 have D:=λi U=>t.2.2 i U;have m:∀{q:Y} {k:Nat},AA y q->k<n->∃p u,P=I p/\R u/\aC q p.block (p.off+k*2+1) u:=λg K=>by
  obtain⟨a1,y1,T,_,M⟩:=(C.C g).el K;cases T;let⟨a,u,j,e⟩:=D _ K;rw[e] at M;exact⟨a1,u,B,j,M.at B⟩
 rcases N with⟨rfl,rfl,rfl⟩|⟨rfl,rfl,rfl⟩
 .refine Co f150 λd V=>⟨Dc B,_,_,b1,_,rP C G (H (.inl ⟨B,B⟩)) D Kq B (.inl B) d G,?_⟩
  rintro _ q ⟨g,z,rfl,W,E⟩;refine Ad (λl=>⟨o.trans g,_,_,B,F⟩) (λl=>?_);have l:=KK l;obtain⟨k,rfl⟩:=B9 (show 0<=z by omega);obtain⟨p,u,rfl,j,c⟩:=m g (k:=k) G;exact⟨⟨G,E⟩,_,ld B c,o.trans g,_,_,B,j⟩
 .refine Co f152 λd V=>⟨Dc B,_,_,b1,_,rP C G (H (.inr ⟨B,B⟩)) D Kq B (.inr B) d G,?_⟩
  rintro _ q ⟨g,z,rfl,W,E⟩;refine Ad (λl=>⟨o.trans g,_,_,B,F⟩) (λl=>?_);have l:=KK l;obtain⟨k,rfl⟩:=B9 (show 0<=z by omega);obtain⟨p,u,rfl,j,c⟩:=m g (k:=k) G;exact⟨⟨G,E⟩,_,ld B c,o.trans g,_,_,B,j⟩
def OD (p:UInt8->Bool):∀(l:Bl) (n:Nat),l.foldl (λn x=>if p x then n+1 else n) n<=n+LB l
 |[],n=>Ae _
 |b::l,n=>by
  rw[F7,AO];cases p b
  .exact Ao (OD p l n) G
  .exact Ao (OD p l (n+1)) G
def ABq (b:aL s<=1000):Bk S L 2 317 [Sg s,Sg ⟨#[32]⟩] h λw J=>J=h/\∃n:Nat,w=Vi n/\n<=1000:=
 Cn f317 λd c _=>by
  refine⟨Jq,_,NA (e:=.count) (fn:=f371) Kq B Kq B B d G,?_⟩;rintro _ h ⟨rfl,rfl⟩;refine⟨B,_,B,?_⟩;have:=OD (λx=>x==dR (32:Int).toNat) (aI s.data) 0;have e:LB s.data.toList=aL s:=B;exact Ao this G
def ADm (l:aL s<=1000):Bk S L 4 318 [Sg s,Sg ⟨#[32]⟩] h λw J=>J=h/\∃z:Int,w=Vi z/\(z=-1\/0<=z/\z<aL s):=
 Cn f318 λd f _=>by
  have g:∀{b:UInt8},Bk S L 2 403 [Sg s,.int .u8 b.toNat] h λw J=>J=h/\∃z:Int,w=Vi z/\(z=-1\/0<=z/\z<aL s):=λ{b}=>Cn f403 λd f _=>by
   have e:R6 Ax .indexByte [Sg s,.int .u8 b.toNat] h=(match s.data.toList.findIdx? (·==dR (dE b:Int).toNat) with|some i=>I (Vi (AQ i),h)|none=>I (Vi (-1),h)):=B
   cases c:s.data.toList.findIdx? (·==dR (dE b:Int).toNat) with
   |none=>
    rw[c] at e;refine⟨_,NA (fn:=f426) Kq B Kq B e d G,?_⟩;rintro _ h ⟨rfl,rfl⟩;exact⟨B,_,B,.inl B⟩
   |some i=>
    rw[c] at e;refine⟨_,NA (fn:=f426) Kq B Kq B e d G,?_⟩;rintro _ h ⟨rfl,rfl⟩;have U:i<aL s:=(List.findIdx?_eq_some_iff_getElem.1 c).1;exact⟨B,_,B,.inr ⟨Int.natCast_nonneg i,Jq⟩⟩
  have j:Bk S L 3 372 [Sg s,Sg ⟨#[32]⟩] h λw J=>J=h/\∃z:Int,w=Vi z/\(z=-1\/0<=z/\z<aL s):=Cn f372 λd f _=>⟨_,B,Ad (λk=>⟨B,0,B,.inr ⟨Jq,by rw[←CJ.1 k];decide⟩⟩) (λ_=>⟨⟨Jq,Jq⟩,_,g d G,λ_ _ h=>h⟩)⟩
  exact⟨_,j d G,λ_ _ h=>h⟩
def aQ.dc (o:aQ h b e xs) (hb:N<=b) (d:LB xs=c) (a:n<=c):AS h N e 1 (sL b n c) n (xs.take n):=
 ⟨Jq,.inr ⟨b,c,xs.drop n,B,hb,a,Jq,Jq⟩⟩
def AAl (o:aL s<=1000):iB S L 5 247 [Sg s,Sg ⟨#[32]⟩,Vi 0,Vi (-1)] h λw J=>Pb h J 1001 w:=
 Cn f247 λd H K=>by
  have M:K2 ⟨#[32]⟩=1:=B;refine⟨_,B,_,ABq o d G,?_⟩;rintro _ h ⟨rfl,n,rfl,N⟩;refine⟨Pq,Pq,λz r=>?_⟩;obtain⟨m,rfl⟩:=B9 (show 0<=z by omega);obtain⟨g,u,y,C,O⟩:=MA (τ:=Ax) (t:=40) (z:=.string ⟨#[]⟩) Kq Kq B m G .i64 .i64 h;have D:=(aH.nil h).add (a:=aO h.a 9 (AR (AE m ⟨#[]⟩))) y (by rw[AR,KD];exact C) λi U=>A2 U.symm;refine⟨_,_,u,Pq,λp A f=>∃(k:Nat) (t:Bd) (ss:BZ),A=[(0,Sg t),(1,Sg ⟨#[32]⟩),(2,Vi 0),(3,Vi ((m:Int)-1)),(9,sL h.a m m),(10,Vi k)]/\aL t<=1000/\k+1<=m/\p=m-k/\LB ss=m/\(∀s∈ss,aL s<=1000)/\aH h f [aO h.a 9 (AR ss)],
   ⟨_,_,Sq,G,0,s,_,B,o,G,B,List.length_replicate,(λs h=>by rw[CH h];decide),D⟩,?_⟩
  rintro p A f ⟨k,t,ss,rfl,E,q,rfl,F,sz,s⟩ P;have st:∀x:Bd,∃J,BA Ax 9 f h.a (0+(k:Int).toNat*1) (Sg x)=I J/\aH h J [aO h.a 9 (AR (ss.set k x))]:=λx=>by
   obtain⟨J,e,b⟩:=s.sT 9 0 k (.string x) B (by rw[CM];omega) B;refine⟨J,?_,?_⟩
   .rw[show 0+(k:Int).toNat*1=k by omega];exact e
   .have:AR (ss.set k x)=(AR ss).set k (Sg x):=Cp
    rw[this];exact b
  have c:∀{J:Y},aH h J [aO h.a 9 (AR (ss.set k t))]->AA h J/\Pb h J 1001 (sL h.a (k+1) m):=λ{J} b=>by
   have e:((ss.set k t).take (k+1)).length=k+1:=by rw[Cg,B4];omega
   refine⟨b.e,(ss.set k t).take (k+1),?_,G,λs h=>Ao ((BT (jP h)).elim (sz s) λe=>e▸E) xc⟩;have:=(b.dD 0 B).dc (Ae _) (by rw[CM,B4];exact F) q;rw[e];unfold AR at this⊢;rw[List.map_take];exact this
  refine Ad (λl=>⟨_,ADm E d G,?_⟩) (λl=>?_);rintro _ _ ⟨rfl,z,rfl,r⟩;have l:=Fp l;apply Bz<;>intro Q;rotate_left
  .obtain⟨J,e,b⟩:=st (EY ((t.data.toList.drop 0).take ((z+0).toNat-0)))
   refine⟨Pq,_,_,Cs (CN _) (jr G G),G,_,e,Pq,_,_,Cs (CN _) (gY G (by show(z+1:Int)<=_;omega)),Pq,_,_,Sq,Jq,k+1,_,_,B,?_,G,B,Jq,(λs h=>(BT h).elim (sz s) λe=>by rw[e];exact Ao (List.length_take_le _ _) (by omega)),b⟩;have:(EY ((t.data.toList.drop (z+1).toNat).take (aL t-(z+1).toNat))).size=((t.data.toList.drop (z+1).toNat).take (aL t-(z+1).toNat)).length:=B;have e:LB t.data.toList=aL t:=B;refine Ao (A2 this) ?_;rw[Cg,AV];omega
  all_goals
   obtain⟨J,e,b⟩:=st t;exact⟨G,_,e,Pq,_,_,Cs (CN _) (sK h.a 0 m m (k+1) q),c b⟩
def wI (b:aL s<=1000):iB S L 6 153 [Sg s,Sg ⟨#[32]⟩] h λw J=>Pb h J 1001 w:=
 Cn f153 λd c _=>⟨_,AAl b d G,λ_ _ h=>h⟩
def Tf (hb:b<256):Fk b<256/\(240<=Fk b\/2<=Fk b%8):=by
 have a:(BG 256).all (λb=>AD (Fk b) 256&&(Ar 240 (Fk b)||Ar 2 (Fk b%8)))=Ag:=Kq
 have:=Jf.1 a b (dX.2 hb);rw[An,Dm] at this;exact⟨Jq,this.2.imp Ac Ac⟩
def vO (a:x<256):D8 .u8 (x:Int) 7=((x%8:Nat):Int):=by
 have b:(BG 256).all (λx=>D8 .u8 x 7==((x%8)))=Ag:=Kq
 simpa using Jf.1 b x (dX.2 a)
def vx (a:x<256):DN .u8 (x:Int) 4=((x/16:Nat):Int):=by
 have b:(BG 256).all (λx=>DN .u8 x 4==((x/16)))=Ag:=Kq
 simpa using Jf.1 b x (dX.2 a)
def Abd {ox oy:BU} {a b:Int}:∃z,Jo Ax .andNot t ox oy (.int .i32 a) (.int .i32 b)=I (.int .i32 z):=by
 have hb:∀u,Hn (binOp .andNot t (.int .i32 a) (.int .i32 b))=I u->Jo Ax .andNot t ox oy (.int .i32 a) (.int .i32 b)=I u:=λu h=>NU h;exact⟨_,hb _ Jq⟩
def rD (s:Bd) (w:Aa):Prop:=∃z n:Int,w=.tuple #[.int .i32 z,.int .i64 n]/\1<=n/\n<=aL s
def yY (fn:Func) (s:1125899906842624<=L) (i:∀call,(match S.a f with|some g=>g call args h|none=>none)=none) (hk:S.M f=none/\S.hk f=none)
 (H:∀n,d<=n->i4 Ax (B8 Ax S L n) L fn args h Q) (j:Ax.fn.get f=some fn:=by kernel_rfl) (b:Ar (LB args) fn.ntmps=true:=by rfl):Bk S L (d+1) f args h Q:=λn r=>by
 obtain⟨m,rfl⟩:∃m,n=m+1:=⟨n-1,G⟩;have c:=H m G;unfold i4 at c;split at c
 case h_2=>cases c
 rename_i l;have b:=Ac b;have p:P1 Q λy=>DY Ax S (B8 Ax S L m) L f args h y.1 y.2:=by simp only[QM j hk.2 l b];exact La W0 R3 L _ _ _ _ _ () _ h c (TB b) B B iw
 cases e0:S.a f with
 |none=>exact p.imp λ_ h=>h.imp λ_ ⟨q,e⟩=>⟨q,λk kp=>by simp only[B8,e0,fB,hk.1];exact e k kp⟩
 |some g=>
  have o:g (B8 Ax S L m) args h=none:=by
   have:=i (B8 Ax S L m);rw[e0] at this;exact this
  exact p.imp λ_ h=>h.imp λ_ ⟨q,e⟩=>⟨q,λk kp=>by simp only[B8,e0,o,fB,hk.1];exact e k kp⟩
section
variable{α:Type} {kt:Ai} {kv vv:α->Aa} {Q:α->α->Bool}
def OU (c:h.t.get g=I (CB.cells l e 0 0 Ag).oB) (b:g<h.a) (U:l[i]?=I v):aC h g i v:=
 ⟨b,_,_,_,_,_,_,c,by
  have:=(cG.1 U).1;rw[T.O,Bi G,DL];exact U⟩
def Kg (c:h.t.get g=I (CB.cells l e 0 0 Ag).oB) (b:g<h.a) {o:Nat} (U:∀i v,xs[i]?=I v->l[o+i]?=I v):BK h g o xs:=
 ⟨b,_,_,_,_,_,_,c,λi v a=>by
  have:=(cG.1 (U i v a)).1;rw[T.O,Bi G,DL];exact U i v a⟩
def Agx:Ft=.cells ((BG 256).map λb=>.int .u8 (Fk b:Int)) 230 0 0 true:=Kq
def SO:∀j,j<16->((BG 16).flatMap λj=>[AL .u8 ((K6 j).1:Int),.int .u8 ((K6 j).2:Int)])[j*2]?=I (.int .u8 ((K6 j).1:Int))/\((BG 16).flatMap λj=>[AL .u8 ((K6 j).1:Int),.int .u8 ((K6 j).2:Int)])[j*2+1]?=I (.int .u8 ((K6 j).2:Int)):=by
 intro j a;have:j=0\/j=1\/j=2\/j=3\/j=4\/j=5\/j=6\/j=7\/j=8\/j=9\/j=10\/j=11\/j=12\/j=13\/j=14\/j=15:=G
 rcases this with rfl|rfl|rfl|rfl|rfl|rfl|rfl|rfl|rfl|rfl|rfl|rfl|rfl|rfl|rfl|rfl<;>exact⟨B,B⟩
end
def jH (F:Ce h):(∀b:Nat,b<256->aC h 0 b (.int .u8 (Fk b)))/\∀j:Nat,j<16->BK h 1 (j*2) [.int .u8 (K6 j).1,.int .u8 (K6 j).2]:=by
 let⟨g0,g1,hn⟩:=F

 rw[Agx] at g0;refine⟨λb hb=>OU g0 G ?_,λj c=>Kg g1 G λi v a=>?_⟩
 ·rw[AX,Jj hb];rfl
 ·rcases i with _|_|i
  ·cases a;exact(SO j c).1
  ·cases a;exact(SO j c).2
  ·cases a
def ADw (F:Ce h) (D:1<=aL s):iB S L 1 373 [Sg s] h λw J=>rD s w:=
 Fm (fn:=f373) (by kernel_rfl) rfl λd y=>by
  have hb:=jR (Cv s 0);have n:=(jH F).1 (Cv s 0).toNat hb;obtain⟨j,i⟩:=Tf hb;generalize Fk (Cv s 0).toNat=x at n j i;have B:=vO j;have p:=vx j;have l:=(jH F).2 (x/16) (G);generalize(K6 (x/16)).1=a at l;generalize(K6 (x/16)).2=b at l;refine⟨Dc rfl,Bz (λ_=>G) (λ_=>⟨⟨by decide,G⟩,⟨G,by show((Cv s 0).toNat:Int)<256;omega⟩,_,Dz (ld rfl n) (by show 0+((Cv s 0).toNat:Int).toNat*1=_;omega),Bz (λr=>?_) (λr=>?_)⟩)⟩
  ·obtain⟨z,u⟩:=Abd (t:=21) (ox:=.tmp 30) (oy:=.tmp 31) (a:=IntKind.i32.wrap (Cv s 0).toNat) (b:=DN .i32 (Es .i32 (IntKind.i32.wrap x) 31) 31);exact⟨_,.inr rfl,by decide,by decide,⟨by decide,G⟩,_,.inr rfl,_,u,AA.refl h,_,_,rfl,by decide,G⟩
  obtain⟨g,o,m,c,f⟩:=(aH.nil h).var (τ:=Ax) (t:=232) (z:=.agg ⟨[.int .u8 0,.int .u8 0]⟩) (by kernel_rfl) (v:=.agg ⟨[.int .u8 a,.int .u8 b]⟩) rfl rfl rfl;have A:aC m h.a 0 (.int .u8 a):=f.q 0 0 rfl rfl;have c1:aC m h.a 1 (.int .u8 b):=f.q 0 1 rfl rfl;have e:=f.e;refine⟨_,.inl Pq,by decide,⟨G,by show DN .u8 (x:Int) 4<16;omega⟩,_,EQ (k:=2) (by kernel_rfl) (show BK h 1 (0+(DN .u8 (x:Int) 4).toNat*2) [.int .u8 a,.int .u8 b] by rw[p,Ba,UG];exact l) rfl,_,_,o _,_,c,?_⟩;refine Bz (λ_=>⟨e,_,_,rfl,by decide,G⟩) (λC=>?_);have E:2<=aL s:=G
  refine⟨⟨by decide,G⟩,_,ld rfl A,?_⟩
  repeat' first
   |exact⟨e,_,_,rfl,by decide,G⟩
   |refine⟨_,ld rfl c1,?_⟩
   |apply Bz<;>intro _
   |apply Ad<;>intro _
   |refine⟨⟨by decide,G⟩,?_⟩
   |refine⟨by decide,?_⟩
   |refine⟨_,.inr rfl,?_⟩
def AEf (F:Ce h) (e:1<=aL s):iB S L 2 319 [Sg s] h λw J=>rD s w:=
 Fm (fn:=f319) (by kernel_rfl) B λd g=>by
  have c:∀{k:Aa->Y->Prop},(∀z n:Int,∀J,AA h J->1<=n->n<=aL s->k (.tuple #[.int .i32 z,Vi n]) J)->∃Q,Cd (B8 Ax S L d) (.func 373) [Sg s] h Q/\∀v J,Q v J->k v J:=λH=>⟨_,ADw F e d (G),by
   rintro _ J ⟨x,z,n,rfl,b,a⟩;exact H z n J x b a⟩
  refine⟨Dc B,_,B,Ad (λf=>?_) (λf=>?_)⟩
  .refine⟨⟨Jq,G⟩,?_⟩
   repeat' first
    |exact⟨⟨Jq,G⟩,_,.inr rfl,AA.refl h,_,_,rfl,Jq,G⟩
    |exact c λz n J x b a=>⟨x,_,_,B,b,a⟩
    |apply Ad<;>intro _
  .repeat' first
    |exact c λz n J x b a=>⟨x,_,_,B,b,a⟩
    |apply Ad<;>intro _
    |exact⟨⟨Jq,G⟩,_,.inr rfl,AA.refl h,_,_,rfl,Jq,G⟩
def W3 (z:Nat):Int:=if z<=127 then 1 else if z<=2047 then 2 else if 55296<=z/\z<=57343 then-1 else if z<=65535 then 3 else if z<=1114111 then 4 else-1
def ADc {z:Nat}:Bk S L 1 320 [.int .i32 z] h λw J=>J=h/\w=Vi (W3 z):=
 Fm (fn:=f320) (by kernel_rfl) B λd b=>by
  have a:∀v:Int,v=W3 z->(h=h/\(Vi v)=Vi (W3 z)):=λv e=>⟨B,Cs _ e⟩;refine⟨Dc B,?_⟩
  repeat' first
   |exact a _ (by unfold W3;(repeat' split)<;>first|rfl|omega)
   |apply Bz<;>intro _
   |apply Ad<;>intro _
def i5 (S:A9) (L e:Nat) (a:Aa):Prop:=∃g,a=.func (.func g) #[] #[]/\∀(z:Nat) h,z<=1114111->Bk S L e g [.int .i32 z] h λw J=>J=h/\∃r:Int,w=.int .i32 r/\-2147483648<=r/\r<=2147483647
def So:i5 S L 2 (PU 155):=⟨_,B,λz h b=>Fm (fn:=f155) (by kernel_rfl) B λd e=>by
 refine⟨Dc B,_,gA d (G),?_⟩;rintro _ h ⟨rfl,c,rfl,_,_⟩
 repeat' first
  |exact⟨rfl,_,rfl,G,G⟩
  |exact⟨Pq,rfl,_,rfl,G,G⟩
  |refine Ad (λ_=>?_) (λ_=>?_)⟩
def uc:i5 S L 2 (PU 250):=⟨_,B,λz h b=>Fm (fn:=f250) (by kernel_rfl) B λd e=>by
 refine⟨Dc B,_,gA d (G),?_⟩;rintro _ h ⟨rfl,c,rfl,_,_⟩;exact Ad (λ_=>⟨Pq,B,_,B,G,G⟩) (λ_=>⟨B,_,B,G,G⟩)⟩
def zD:i5 S L 2 (PU 251):=⟨_,B,λz h b=>Fm (fn:=f251) (by kernel_rfl) B λd e=>by
 refine⟨Dc B,Ad (λ_=>⟨B,_,B,by decide,by decide⟩) (λ_=>⟨_,gA d (G),?_⟩)⟩;rintro _ h ⟨rfl,c,rfl,_,_⟩;exact Ad (λ_=>⟨Pq,B,_,B,G,G⟩) (λ_=>⟨B,_,B,G,G⟩)⟩
def jd (m:Nat) (x:Lc):Nat->Option Lc:=λj=>bif Am j m then I x else Z
def Xa:DC->DC
 |.seq a _=>a
 |_=>.skip
def GY:DC->DC
 |.seq _ b=>b
 |_=>.skip
def Aiz {c:DC} (c1 i:DC) {x:Lc} (w:Ax.fn.get f=I fn) (z:fn.body=I c) (C:S.a f=Z) (D:S.M f=Z) (E:S.hk f=I (jd m x))
 (H:∀(l:Be) (K:Kt) (fr:Fr) (h:Y),Qq Ax l L Z (jd m x) (IC c) 0 K fr h=B7 Ax l L Z c1 {n:=λfr h=>(match x fr h with|some (a,J)=>B7 Ax l L Z i K a J|none=>Z),x:=K.x,r:=K.r,p:=K.p} fr h)
 (o:As->Y->Prop) (b:LB args<=fn.ntmps)
 (M:∀n,d<=n->J2 Ax (B8 Ax S L n) L fn.ntmps c1 (kp (λA h=>∃g,Sub g A/\o g h) (λ_ _ _=>False) (λA h=>Ex Ax A h (aI fn.results) (λvs=>Q (Ff vs) h))) (PJ args 0) h)
 (N:∀n,d<=n->∀A h,o A h->∃s,(∀fr,Gx A fr->fr.sz=fn.ntmps->∃a,x fr h=I (a,h)/\Gx s a/\a.sz=fr.sz/\a.ds=fr.ds)/\
  J2 Ax (B8 Ax S L n) L fn.ntmps i (kp (λA h=>Ex Ax A h (aI fn.results) (λvs=>Q (Ff vs) h)) (λ_ _ _=>False) (λA h=>Ex Ax A h (aI fn.results) (λvs=>Q (Ff vs) h))) s h):Bk S L (d+1) f args h Q:=by
 intro n U;obtain⟨q,rfl⟩:∃q,n=q+1:=⟨n-1,G⟩;refine P1.C C D ?_
 let F:=Qt Ax S fn
 have e:∀k kp,DY Ax S (B8 Ax S L q) L f args h k kp=B7 Ax (B8 Ax S L q) L Z c1 {n:=λfr h=>(match x fr h with|some (a,J)=>B7 Ax (B8 Ax S L q) L Z i (F k kp) a J|none=>Z),x:=(F k kp).x,r:=(F k kp).r,p:=(F k kp).p} ⟨T.laid args 0 .nil,fn.ntmps,[]⟩ h:=λk kp=>by
  have O:GA args fn.ntmps=I ⟨T.laid args 0 .nil,fn.ntmps,[]⟩:=by
   unfold GA;rw[show Ar (LB args) fn.ntmps=Ag from Aq b];rfl
  unfold DY;rw[w];simp only[z,O];unfold Ss;simp only[E];exact H _ _ _ _
 rw[funext λy:(Aa->Y->RR)×(Aa->Y->RR)=>e y.1 y.2];refine La W0 R3 L _ _ _ _ _ () _ h (M q G) (TB b) B B ⟨λa J _ A u P r ⟨g,R,j⟩=>?_,λ_ _ _ _ _ _ _ _ c=>c.elim,iw.r,λ_ _ _ _ _ _ _ _ c=>c.elim⟩;let⟨V,W,X⟩:=N q G g J j;let⟨aa,x1,x2,x3,x4⟩:=W a (λt v b=>r t v (R t v b)) u;simp only[x1];exact La W0 R3 L _ _ _ _ V () aa J X x2 (x3.trans u) (x4.trans P) iw
def AAn:Aa->Bool
 |.slice Z _ _=>Ag
 |_=>Ah
def Wl (H:Ey h N b v bs) {A:As} (q:look A 5=I (AG b 0)) (s:look A 64=Z) (z:65<sz):
 ∀fr,Gx A fr->fr.sz=sz->∃d,HG 5 64 65 1 fr h=I (d,h)/\Gx ((65,.bool (AAn v))::A) d/\d.sz=fr.sz/\d.ds=fr.ds:=by
 intro fr r C;have i:=r 5 _ q;obtain⟨c,n,e,lo,U,x,hb,j⟩:∃c n e lo U x,h.t.get b=I (.cells c n e lo U x)/\c.get 1=I v:=by
  rcases H.c with⟨_,c,J,f⟩|⟨_,c,J,f⟩<;>exact⟨_,_,_,_,_,_,J,f 1 _ B⟩
 have l:AD 64 fr.sz=true:=Jq
 have m:AD 65 fr.sz=true:=Jq
 have o:∀w:Aa,Gx ((65,w)::A) ⟨(UT fr.M 64).ins 65 w,fr.sz,fr.ds⟩:=λw t u a=>by
  rw[Ev.T.M];replace a:(bif Am 65 t then I w else look A t)=I u:=a
  by_cases g:t=65
  .subst g;exact a
  .rw[Bm g,V8]
   rw[MK.2 λh=>g (Af h).symm] at a;by_cases p:t=64
   .subst p;rw[I0,s] at a;cases a
   .rw[Bm p];exact r t u a
 rcases H.o with⟨rfl,_⟩|⟨D,k,E,y,rfl,_,_,F,_⟩
 .exact⟨_,by unfold HG;simp[i,AG,hb,j,l,m];rfl,o _,B,B⟩
 .exact⟨_,by unfold HG;simp[i,AG,hb,j,l,m,show Ar 1 k=Ag from Aq G];rfl,o _,B,B⟩
def gz {a:Type} {P:a->Prop} {c:Bool} {x y:a} (d:c=Ag->P x) (b:c=Ah->P y):P (bif c then x else y):=by
 cases c
 .exact b B
 .exact d B
def tR (b c d:Nat) (p:Nat×Nat):Prop:=p.1<=1114111/\(p.1=65533\/(W3 p.1=p.2/\(p.2=1\/(b/64=2/\(p.2=2\/(c/64=2/\(p.2=3\/(d/64=2/\p.2=4))))))))
def Aln (a b c d:Nat):tR b c d (ZN a b c d):=by
 have e:tR b c d (65533,1):=⟨Jq,.inl B⟩;refine gz (λh=>?_) λh=>gz (λh=>gz (λk=>?_) λ_=>e) λh=>gz (λh=>gz (λk=>?_) λ_=>e) λh=>gz (λh=>gz (λk=>?_) λ_=>e) λ_=>e
 .rw[AK] at h
  exact⟨Jq,.inr ⟨by show W3 a=_;rw[W3,Bi G];rfl,.inl B⟩⟩
 .rw[An] at h
  have l:=Af h.2;have k:=Ac k;exact⟨Jq,.inr ⟨by show W3 (a%32*64+b%64)=_;rw[W3,Bm G,Bi G];rfl,.inr ⟨l,.inl B⟩⟩⟩
 .rw[An,An] at h
  rw[An,Dm,AK] at k;have l:=Af h.1.2;have j:=Af h.2;have f:=Ac k.1;have g:=k.2.imp id Ac;obtain⟨z,i⟩:∃z,z=a%16*4096+b%64*64+c%64:=⟨_,B⟩;rw[←i] at f g⊢;exact⟨Jq,.inr ⟨by show W3 z=_;rw[W3,Bm G,Bm G,Bm G,Bi G];rfl,.inr ⟨l,.inr ⟨j,.inl B⟩⟩⟩⟩
 .rw[An,An,An] at h
  rw[An] at k;have f:=Ac k.1;have g:=Ac k.2;obtain⟨z,i⟩:∃z,z=a%8*262144+b%64*4096+c%64*64+d%64:=⟨_,B⟩;rw[←i] at f g⊢;exact⟨Jq,.inr ⟨by show W3 z=_;rw[W3,Bm G,Bm G,Bm G,Bm G,Bi G];rfl,.inr ⟨Af h.1.1.2,.inr ⟨Af h.1.2,.inr ⟨Af h.2,B⟩⟩⟩⟩⟩
def T9 {l:Bl} (i:0<LB l):(FF l).1<=1114111/\((FF l).1≠65533->W3 (FF l).1=(FF l).2/\(FF l).2<=LB l):=by
 let⟨h1,a⟩:=Aln (b1 l) (b1 (l.drop 1)) (b1 (l.drop 2)) (b1 (l.drop 3));have len:∀k,b1 (l.drop k)/64=2->k<LB l:=λk b=>by
  rcases A8 k (LB l) with h|h
  .exact h
  .rw[Ef h] at b;cases b
 refine⟨h1,λc=>?_⟩;rcases a with a|⟨a,d⟩
 .exact Cf a c
 refine⟨a,?_⟩;show(ZN _ _ _ _).2<=_;rcases d with h|⟨e,h|⟨f,h|⟨g,h⟩⟩⟩
 .omega
 .have:=len 1 e;omega
 .have:=len 2 f;omega
 .have:=len 3 g;omega
structure MD (S:A9):Prop where
 a:S.a 248=Z
 M:S.M 248=Z
 hk:S.hk 248=I (jd 4 (HG 5 64 65 1))
def nu:Code:=match f248.body with
 |I c=>c
 |Z=>.skip
def Qc (a:Int):(EY ((s.data.toList.drop a.toNat).take (aL s-bH a))).size=aL s-bH a:=by
 show(iZ _ _).length=_;have e:LB s.data.toList=aL s:=B;rw[Cg,AV,e];omega
def Ale (a:Int):(EY ((s.data.toList.drop 0).take (bH a-0))).size<=bH a:=by
 show(iZ _ _).length<=_;rw[Cg];omega
def zt [c:aF S L] (HB:MD S) (F:Ce h) (M:i5 S L 2 fv) (hs:aL s<=1000000):iB S L 5 248 [fv,.string s] h λw J=>∃t:Bd,w=.string t/\aL t<=4*aL s+4:=by
 obtain⟨g,rfl,M⟩:=M;have hL:=c.a;refine Aiz (fn:=f248) (YC 3 nu) (.seq (GY (Xa (Vf 3 nu))) (Vf 4 nu)) Kq B HB.a HB.M HB.hk (λ_ _ _ _=>by kernel_rfl)
  (λA a=>∃(t:Bd) (b:Nat) (v:Aa) (bs:Bl),A=[(0,.func (.func g) #[] #[]),(1,.string t),(5,AG b 0)]/\aH h a [RK h.a b v bs]/\LB bs+4*aL t<=4*aL s+4) (Dc B) (λd aa=>?_) (λd aa=>?_)
 .obtain⟨u,y1,s1⟩:=(aH.nil h).a3
  obtain⟨P,s2⟩:=s1.bt s;refine⟨_,_,y1 _,_,_,P,λy A a=>∃p:Nat,A=[(0,.func (.func g) #[] #[]),(1,.string s),(5,AG h.a 0),(14,AG u.a 0)]/\y=aL s-p/\aH h a [aB u.a (.str s p),RK h.a h.a (.slice Z 0 0) []],
   ⟨_,_,Sq,G,0,B,B,s2⟩,?_⟩
  rintro y A a ⟨p,rfl,rfl,m⟩ ab;rcases m.bL (i:=0) B with⟨Q,w,z,K,⟨ad,hw,o⟩,R,f⟩|⟨Q,R⟩;rotate_left
  .exact⟨_,_,R,_,Sq,s,_,_,[],B,m.drop 1,by show 0+_<=_;omega⟩
  obtain⟨I,d2⟩:=T9 (by rw[AV];show 0<aL s-p;omega);rw[←o,←hw,AV] at d2;rw[←o] at I;have af:LB s.data.toList=aL s:=B;have C:∀{A:As} {J:Y},Sub [(0,.func (.func g) #[] #[]),(1,.string s),(5,AG h.a 0),(14,AG u.a 0)] A->AA K J->∃m' D,Sub D A/\m'<aL s-p/\∃p:Nat,D=[(0,.func (.func g) #[] #[]),(1,.string s),(5,AG h.a 0),(14,AG u.a 0)]/\m'=aL s-p/\aH h J [aB u.a (.str s p),RK h.a h.a (.slice Z 0 0) []]:=λT x=>⟨_,_,T,(show aL s-(p+w)<_ by omega),p+w,B,B,f.C x⟩;refine⟨_,_,R,_,M z K I d G,?_⟩;rintro _ K ⟨rfl,r,rfl,hr⟩;refine Bz (λj=>Ad (λE=>C (Sq) (AA.refl _)) (λE=>?_)) (λj=>?_)
  all_goals
   refine Bz (λk3=>⟨_,_,Cs (CN _) (gY G G),_,AEf (F.C f.e) (by rw[Qc];omega) d G,?_⟩) (λk3=>⟨_,ADc d G,?_⟩);rintro _ h5 ⟨x5,z2,n,rfl,ag,ae⟩;rw[Qc] at ae;have f:=f.C x5;have hW:0<=n/\(p:Int)+n<=aL s:=G;refine Ad (λk4=>Ad (λk5=>C (Sq) x5) (λk5=>?_)) (λk4=>?_);rotate_left;rotate_left;rintro _ K ⟨rfl,rfl⟩;have hW:0<=W3 z/\(p:Int)+W3 z<=aL s:=G
   all_goals
    refine⟨Pq,_,tn (f.M 1 B) f.e.a G d G,?_⟩;rintro _ h7 k;obtain⟨v7,H⟩:=f.bf 1 B k;have o:=Ale (s:=s) (p:Int);refine⟨_,_,Cs (CN _) (jr G G),_,eQ (H.M 1 B) H.e.a (by show 0+_<=_;omega) d G,?_⟩;rintro _ h8 w8;obtain⟨v8,N⟩:=H.bf 1 B w8;have hb:([]++(EY ((s.data.toList.drop 0).take ((p:Int).toNat-0))).data.toList).length<=p:=by rw[IW];exact Ao o G
    refine Bz (λk6=>⟨_,hT (N.M 1 B) N.e.a G d G,?_⟩) (λk6=>?_)
    .rintro _ h9 ⟨cs,V,_,_,w9⟩
     obtain⟨v9,s9⟩:=N.bf 1 B w9;exact⟨Pq,_,_,Cs (CN _) (gY G G),_,Sq,_,_,_,_,B,s9.drop 1,by rw[Qc,Aj];omega⟩
    .exact⟨Pq,_,_,Cs (CN _) (gY G G),_,Sq,_,_,_,_,B,N.drop 1,by rw[Qc];omega⟩
 .rintro A a ⟨t,b,v,bs,rfl,m,hl⟩
  refine⟨_,Wl (m.M 0 B) B B xc,Ad (λj=>⟨m.e,t,B,G⟩) (λj=>?_)⟩;obtain⟨P,f⟩:=m.bt t;refine⟨_,_,P,λy A hq=>∃(p:Nat) (v:Aa) (bs:Bl),A=[(0,.func (.func g) #[] #[]),(5,AG b 0),(68,AG a.a 0)]/\y=aL t-p/\LB bs+4*(aL t-p)<=4*aL s+4/\aH h hq [aB a.a (.str t p),RK h.a b v bs],
   ⟨_,_,Sq,G,0,_,_,B,B,hl,f⟩,?_⟩
  rintro y A hq ⟨p,v,bs,rfl,rfl,hl,O⟩ ab;rcases O.bL (i:=0) B with⟨Q,w,z,W,⟨ad,hw,o⟩,X,q⟩|⟨Q,X⟩
  .obtain⟨I,_⟩:=T9 (by rw[AV];show 0<aL t-p;omega)
   rw[←o] at I;refine⟨_,_,X,_,M z W I d G,?_⟩;rintro _ W ⟨rfl,r,rfl,hr⟩;have C:∀{A:As} {J:Y} {cs:Bl},Sub [(0,.func (.func g) #[] #[]),(5,AG b 0),(68,AG a.a 0)] A->LB cs<=4->Gu W J h.a b v (bs++cs)->∃m' D,Sub D A/\m'<aL t-p/\∃(p:Nat) (v:Aa) (bs:Bl),D=[(0,.func (.func g) #[] #[]),(5,AG b 0),(68,AG a.a 0)]/\m'=aL t-p/\LB bs+4*(aL t-p)<=4*aL s+4/\aH h J [aB a.a (.str t p),RK h.a b v bs]:=λT V k=>by
    obtain⟨v7,H⟩:=q.bf 1 B k;exact⟨_,_,T,(show aL t-(p+w)<_ by omega),p+w,_,_,B,B,by rw[Aj];omega,H⟩
   refine Ad (λj=>Ad (λE=>?_) (λE=>?_)) (λj=>⟨_,_,CG (l:=[(0,_),(5,_),(68,_)]) ⟨B,B,B,trivial⟩,(show aL t-(p+w)<_ by omega),p+w,_,_,B,B,G,q⟩)
   .have j:=Fp j
    have E:=Fp E;refine⟨_,.inl ⟨Pq,B⟩,?_⟩;obtain⟨x,hx⟩:∃x:UInt8,r=(dE x:Int):=⟨dR r.toNat,by rw[rh];omega⟩;subst hx;exact⟨_,AEi (q.M 1 B) q.e.a G d G,λ_ J k=>C (Sq) (Ac B) k⟩
   .exact⟨_,hT (q.M 1 B) q.e.a G d G,λ_ J ⟨cs,V,_,_,k⟩=>C (Sq) V.2 k⟩
  .refine⟨_,_,X,_,gg (O.M 1 B) G d G,?_⟩
   rintro _ g ⟨rfl,c6⟩;exact⟨O.e.then c6 λi U=>(O.M 1 B).o.ge i U,_,B,by show LB bs<=_;omega⟩
def VS (n:Nat) (v:Aa):Prop:=∃t:Bd,v=.string t/\aL t<=n
def lB [cJ S L] (a:MD S) (F:Ce h) (M:i5 S L 2 fv) (c:aL s<=1000000):iB S L 7 154 [.string s,fv] h λw J=>VS (4*aL s+4) w:=
 Cn f154 λd f _=>by
  refine⟨_,jA F G d G,?_⟩;rintro _ i ⟨b,rfl⟩;refine⟨_,_,B,Ad (λ_=>⟨b,s,B,G⟩) (λ_=>⟨_,zt a (F.C b) M c d G,?_⟩)⟩;rintro _ g ⟨e,q⟩;exact⟨b.trans e,q⟩
def mf (i:Nat):Bl:=if i<31 then [239,189,dR (161+i)] else [239,190,dR (97+i)]
def lU:Bo:=[12290,12300,12301,12289,12539,12530,12449,12451,12453,12455,12457,12515,12517,12519,12483,12540,12450,12452,12454,12456,12458,12459,12461,12463,12465,12467,12469,12471,12473,12475,12477,12479,12481,12484,12486,12488,12490,12491,12492,12493,12494,12495,12498,12501,12504,12507,12510,12511,12512,12513,12514,12516,12518,12520,12521,12522,12523,12524,12525,12527,12531]
def yK:List (Nat×Bl):=lU.mapIdx (λi r=>(r,mf i))++((18::(mh 21 15++mh 41 5)).map λi=>(if i=18 then 12532 else lU.getD i 0+1,mf i++[239,190,158]))++(mh 41 5).map λi=>(lU.getD i 0+2,mf i++[239,190,159])
def dW:List MapEntry:=yK.mapIdx λi p=>⟨.int .i32 (p.1),.string ⟨⟨p.2⟩⟩,i⟩
class eP (S:A9) (L:Nat):Prop extends Sy S L where
 form:∀{h:Y},Bk S L 1 249 [] h λw g=>w=.map (some h.a)/\g=h.new (.map dW 87)
def lG [cJ S L] (a:MD S) (F:Ce h) (b:aL s<=1000000):iB S L 8 70 [.string s] h λw J=>VS (4*aL s+4) w:=
 Cn f70 λd c _=>⟨_,lB a F (So) b d G,λ_ _ h=>h⟩
def wY [cJ S L] (a:MD S) (F:Ce h) (b:aL s<=1000000):iB S L 8 158 [.string s] h λw J=>VS (4*aL s+4) w:=
 Cn f158 λd c _=>⟨_,lB a F (uc) b d G,λ_ _ h=>h⟩
def wW [cJ S L] (a:MD S) (F:Ce h) (b:aL s<=1000000):iB S L 8 160 [.string s] h λw J=>VS (4*aL s+4) w:=
 Cn f160 λd c _=>⟨_,lB a F (zD) b d G,λ_ _ h=>h⟩
def Qv (v:Aa):Prop:=∃z:Int,v=.int .i32 z
def YF:K8 Ax 21 Qv:=by
 rintro _ ⟨a,rfl⟩;refine⟨B,?_⟩;rintro _ ⟨b,rfl⟩;refine⟨a==b,B,λh=>?_⟩;obtain rfl:=eq_of_beq h;show(O9 .i32 .i32&&decide (a=a))=Ag;rw[decide_eq_true B];rfl
def zd:(dW.all λe=>match e.key,e.val with|.int .i32 _,.string x=>Ar x.size 1000|_,_=>false)=true:=Kq
def qz {e:MapEntry} (a:e∈dW):∃z x,e.key=.int .i32 z/\e.val=.string x/\aL x<=1000:=by
 have:=Jf.1 zd e a;split at this
 ·rename_i z x c b;exact⟨z,x,c,b,Ac this⟩
 ·cases this
def qt:Fc 87 0 dW=true:=Kq
def yX (h:Y):(PW h.a Qv (VS 1000) 500).holds (h.new (.map dW 87)):=
 ⟨⟨by rw[Ck];omega,dW,87,by rw[CK,if_pos B],λe b=>by let⟨z,x,f,d,c⟩:=qz b;exact⟨⟨z,f⟩,x,d,c⟩,qt⟩,dW,87,by rw[CK,if_pos B],Ac Kq⟩
def wX [B:eP S L] (F:Ce h) (hs:aL s<=1000):iB S L 7 159 [.string s] h λw J=>VS 1100000 w:=
 Cn f159 λd hd' hL=>by
  refine⟨_,jA F G d G,?_⟩;rintro _ n ⟨U,rfl⟩;refine⟨_,_,rfl,Ad (λ_=>⟨U,s,rfl,G⟩) (λ_=>⟨_,B.form d G,?_⟩)⟩;rintro _ _ ⟨rfl,rfl⟩;obtain⟨r,hr⟩:∃r,r=n.a:=⟨_,rfl⟩;have I:=((aH.nil h).C U).add (a:=PW n.a Qv (VS 1000) 500) (AA.new _ (.map dW 87)) (yX n) λi O=>A2 (show i=n.a from O).symm;rw[←hr] at I⊢;obtain⟨j,P⟩:∃x,x=n.new (.map dW 87):=⟨_,rfl⟩;rw[←P] at I⊢;obtain⟨q,y1,s3⟩:=I.a3;obtain⟨Z,s4⟩:=s3.bt s;refine⟨_,_,y1 _,_,_,Z,λT A V=>∃(p:Nat) (v:Value) (bs:Bl),A=[(3,.map (some r)),(4,AG j.a 0),(15,AG q.a 0)]/\T=aL s-p/\LB bs<=1000*p/\p<=aL s+3/\aH h V [aB q.a (.str s p),RK h.a j.a v bs,PW r Qv (VS 1000) 500],
   ⟨_,_,Sq,G,0,_,[],rfl,rfl,Ae _,G,s4⟩,?_⟩
  rintro T A V ⟨p,v,bs,rfl,rfl,hb,hp,D⟩ hLt;rcases D.bL (i:=0) rfl with⟨N,w,z,E,⟨hw1,hw,hz⟩,R,f⟩|⟨N,R⟩
  ·have hw4:w<=4:=by rw[hw];exact TI _ _ _ _
   obtain⟨W,_⟩:=T9 (l:=s.data.toList.drop p) (by rw[AV];show 0<aL s-p;omega);rw[←hz] at W;obtain⟨g,Q,M⟩:=uc (S:=S) (L:=L);have Q:Value.func (.func 250) #[] #[]=.func (.func g) #[] #[]:=Q;cases Q;refine⟨_,_,R,_,M z E W d G,?_⟩;rintro _ E ⟨rfl,y,rfl,_⟩;obtain⟨u,b,K,l2,l3⟩:=QH (τ:=Ax) (t:=395) (kt:=21) (et:=9) Kq YF (z:=.string ⟨#[]⟩) Kq (f.cz 2 rfl) (k:=.int .i32 y) ⟨_,rfl⟩ true;have K:BW Ax 395 (.map (some r)) (.int .i32 y) true E=some (.tuple #[u,.bool b]):=K;refine⟨_,_,congrArg (CN _) K,?_⟩;have c:∀{A:As} {J:Y} {cs:Bl},Sub [(3,.map (some r)),(4,AG j.a 0),(15,AG q.a 0)] A->LB cs<=1000->Gu E J h.a j.a v (bs++cs)->∃m' X,Sub X A/\m'<aL s-p/\∃(p:Nat) (v:Value) (bs:Bl),X=[(3,.map (some r)),(4,AG j.a 0),(15,AG q.a 0)]/\m'=aL s-p/\LB bs<=1000*p/\p<=aL s+3/\aH h J [aB q.a (.str s p),RK h.a j.a v bs,PW r Qv (VS 1000) 500]:=λH hc m=>by
    obtain⟨v7,s7⟩:=f.bf 1 rfl m;exact⟨_,_,H,(show aL s-(p+w)<_ by omega),p+w,_,_,rfl,rfl,by rw[Aj];omega,G,s7⟩
   cases b
   ·exact⟨_,hT (f.M 1 rfl) f.e.a G d G,λ_ J ⟨cs,hc,_,_,m⟩=>c (Sq) G m⟩
   ·obtain⟨x,rfl,hx⟩:=l2 rfl;exact⟨_,eQ (f.M 1 rfl) f.e.a G d G,λ_ J m=>c (Sq) hx m⟩
  ·refine⟨_,_,R,_,gg (D.M 1 rfl) G d G,?_⟩;rintro _ g ⟨rfl,c6⟩;exact⟨D.e.then c6 λi O=>(D.M 1 rfl).o.ge i O,_,rfl,by show LB bs<=_;omega⟩
section
variable{α:Type} {kt:Ai} {kv vv:α->Aa} {Q:α->α->Bool}
structure gP (kt:Ai) (kv:α->Aa) (Q:α->α->Bool):Prop where
 eq:∀a b,IZ Ax Op.maxDepth kt (kv a) (kv b)=I (Q a b)
 iff:∀a b,Q a b=Ag↔kv a=kv b
 self:∀a,Cy (kv a) (kv a)=Ag
 ty:∀a,Do Ax 5 kt (kv a)=Ag
def TA (d c:α->Aa) (h:Y) (r:Nat) (l:List α):Prop:=r<h.a/\∃es b,h.t.get r=I (.map es b)/\Fc b 0 es=Ag/\es.map (λe=>(e.key,e.val))=l.map λa=>(d a,c a)
def aG (d b:α->Aa) (r:Nat) (l:List α):Ct:={
 C:=λi=>i=r
 holds:=λh=>TA d b h r l
 a:=λc a o=>⟨AC o.1 c.a,c.t r o.1 (a r B)▸o.2⟩
 lt:=λo i U=>U▸o.1
 M:=λo=>by unfold TA;exact o}
def KT (Q:α->α->Bool) (x:α):List α->List α
 |[]=>[x]
 |y::l=>if Q x y=Ag then x::l else y::KT Q x l
def oz (K:gP kt kv Q) (x:α):∀(es:List Ap) (l:List α) (i g:Nat),es.map (λe:Ap=>(e.key,e.val))=l.map (λa=>(kv a,vv a))->
 (CE Ax kt (kv x) es i=I Z/\l.find? (Q x)=Z/\(es++[({key:=kv x,val:=vv x,born:=g}:Ap)]).map (λe:Ap=>(e.key,e.val))=(KT Q x l).map λa=>(kv a,vv a))\/
 ∃j e m,CE Ax kt (kv x) es i=I (I (i+j,e))/\e.val=vv m/\l.find? (Q x)=I m/\Cy e.key (kv x)=Ag/\(Cu es j λe=>{e with key:=kv x,val:=vv x}).map (λe:Ap=>(e.key,e.val))=(KT Q x l).map λa=>(kv a,vv a)
 |[],[],i,g,_=>.inl Jq
 |[],_::_,_,_,h=>Jq
 |_::_,[],_,_,h=>Jq
 |e::es,m::l,i,g,h=>by
  simp[eV.injEq] at h;let⟨⟨h1,b⟩,c⟩:=h;rw[CE,h1,K.eq x m,KT];cases d:Q x m with
  |true=>
   refine .inr ⟨0,e,m,B,b,Jq,?_,?_⟩
   .rw[h1,←(K.iff _ _).1 d];exact K.self x
   .simp[Cu,c]
  |false=>
   rw[List.find?_cons_of_neg Jq];rcases oz K x es l (i+1) g c with⟨n,k,r⟩|⟨j,f,m',n,k,q,p,o⟩
   .refine .inl ⟨n,k,?_⟩
    simp[if_false,h1,b,r]
   .refine .inr ⟨j+1,f,m',Jq,k,q,p,?_⟩
    simp[if_false,Cu,h1,b,o]
def TA.look (K:gP kt kv Q) {et:Ai} {z:Aa} (a:Ax.ds.get t=I (.map kt et)) (b:CP Ax et=I z) {l:List α} (m:TA kv vv h r l) (x:α):
 BW Ax t (.map (I r)) (kv x) Ag h=I (.tuple #[match l.find? (Q x) with|some y=>vv y|none=>z,.bool (l.find? (Q x)).isSome]):=by
 let⟨_,es,ck,h1,_,c⟩:=m;unfold BW;rcases oz K x es l 0 0 c with⟨f,d,_⟩|⟨j,e,m,f,d,g,_⟩
 .simp only[a,K.ty,h1,f,b,d];rfl
 .simp only[a,K.ty,h1,f,d,g];rfl
def TA.ah (K:gP kt kv Q) {et:Ai} (a:Ax.ds.get t=I (.map kt et)) {l:List α} (m:TA kv vv h r l) (x:α):∃J,BH Ax t (.map (I r)) (kv x) (vv x) h=I J/\TA kv vv J r (KT Q x l)/\Er r h J:=by
 let⟨b,es,ck,h1,c,d⟩:=m;unfold BH;rcases oz K x es l 0 ck d with⟨g,_,n⟩|⟨j,e,m,g,_,_,k,i⟩
 .exact⟨h.put r (.map (es++[({key:=kv x,val:=vv x,born:=ck})]) (ck+1)),by simp[a,K.ty,h1,g],⟨Jq,_,_,by rw[BQ,Bi B],Kd _ _ es ck 0 c (Al _),n⟩,Er.put _ _ _⟩
 .rw[Ba] at g
  exact⟨h.put r (.map (Cu es j λe=>{e with key:=kv x,val:=vv x}) ck),by simp[a,K.ty,h1,g,k],⟨Jq,_,_,by rw[BQ,Bi B],Kc (f:=λe=>{e with key:=kv x,val:=vv x}) (λ_=>B) es _ ck 0 c,i⟩,Er.put _ _ _⟩
end
def qm {a:Type} {Q:a->a->Bool} {x:a}:∀{l:List a},(∀y∈l,Q x y=false)->KT Q x l=l++[x]
 |[],_=>rfl
 |y::l,h=>by rw[KT,h y wl,if_neg wl,qm λz b=>h z (by simp[b])];rfl
def aH.upG {kt et:TypeId} {a b:α->Value} {Q:α->α->Bool} (K:gP kt a Q) (f:Ax.ds.get t=some (.map kt et)) {l:List Ct} {xs:List α} (s:aH h0 h l) (c:l[i]?=some (aG a b r xs)) (x:α):∃J,BH Ax t (.map (some r)) (a x) (b x) h=some J/\aH h0 J (l.set i (aG a b r (KT Q x xs))):=by
 let⟨J,e,m,u⟩:=TA.ah K f (s.2.1 i _ c).1 x;exact⟨J,e,s.ah _ c u.O m λx d=>.inl d⟩
abbrev eM:=Bd×Bd
def fN (p:eM):Value:=.string p.1
def gp (p:eM):Value:=.string p.2
def fq (a b:eM):Bool:=Gp a.1.data.toList b.1.data.toList
def iR {a b:eM}:fq a b=true↔a.1=b.1:=CJ
def iP:gP 9 fN fq:=⟨λ_ _=>B,λa b=>iR.trans ⟨λh=>by unfold fN;rw[h],λh=>by injection h⟩,λa=>CJ.2 B,λ_=>B⟩
def eS (e:MapEntry):eM:=match e.key,e.val with
 |.int _ z,.string x=>(x,Yqc z)
 |_,_=>(⟨#[]⟩,⟨#[]⟩)
def iO:List eM:=[(⟨#[239,190,158]⟩,⟨#[227,130,155]⟩),(⟨#[239,190,159]⟩,⟨#[227,130,156]⟩)]
def fG:List eM:=iO++dW.map eS
def l8:List eM->Bool
 |[]=>Ag
 |a::l=>l.all (λb=>!fq a b)&&l8 l
def qo:∀{l:List eM},l8 l=true->l.Pairwise λa b=>a.1≠b.1
 |[],_=>.nil
 |a::l,h=>by
  unfold l8 at h;rw[An] at h;exact .cons (λb hb e=>by have:=Jf.1 h.1 b hb;rw[iR.2 e] at this;cases this) (qo h.2)
def ma:fG.Pairwise λa b=>a.1≠b.1:=qo Kq
def yR:(fG.all λp=>Ar p.2.size 8)=true:=Kq
def lS {c:Type} {R:c->c->Prop} (d:∀a b,R a b->R b a):∀{l:List c} {a b:c},l.Pairwise R->a∈l->b∈l->a=b\/R a b
 |_::_,a,b,.cons h1 h2,ha,hb=>by
  rcases bZ.1 ha with rfl|p<;>rcases bZ.1 hb with rfl|q
  ·exact .inl B
  ·exact .inr (h1 _ q)
  ·exact .inr (d _ _ (h1 _ p))
  ·exact lS d h2 p q
def yN {a b:eM} (c:a∈fG) (hb:b∈fG) (e:a.1=b.1):a=b:=(lS (λ_ _ h=>h.symm) ma c hb).resolve_right λh=>h e
def yT {e a:MapEntry} (h:e∈dW) (J:a∈dW) (hk:(eS e).1=(eS a).1):e=a:=by
 have d:=(rA.1 ma).2.1;exact (lS (λ_ _ h=>h.symm) ((qK).1 d) h J).resolve_right λh=>h hk
def fH (t:Bd):Option eM:=fG.find? (fq (t,⟨#[]⟩))
def yL {l:List eM} (c:∀p,p∈l↔p∈fG) (t:Bd):l.find? (fq (t,⟨#[]⟩))=fH t:=by
 unfold fH;cases h1:l.find? (fq (t,⟨#[]⟩)) with
 |none=>exact (im.2 λp d=>im.1 h1 p ((c p).2 d)).symm
 |some y=>
  cases h2:fG.find? (fq (t,⟨#[]⟩)) with
  |none=>exact absurd (ms h1) (im.1 h2 y ((c y).1 (jT h1)))
  |some y'=>
   have a:=iR.1 (ms h1);have b:=iR.1 (ms h2);rw[yN ((c y).1 (jT h1)) (jT h2) (a.symm.trans b)]
def jK {t:Bd} {y:eM} (h:fH t=some y):y.2.size<=8:=Ac (Jf.1 yR y (jT h))
def jM (l:AH) (k:Nat):Int:=match l[k]? with|I (.int _ z)=>z|_=>0
def lZ (l:AH) (k:Nat):Bd:=match FU ((l.drop k).take 2) with|I b=>⟨⟨b⟩⟩|Z=>⟨#[]⟩
def ii (l:AH) (k:Nat):Nat×Bl:=match (if k+1<LB l then fH (lZ l k) else Z) with
 |I y=>(k+2,y.2.data.toList)
 |Z=>(k+1,match fH (Yqc (jM l k)) with|I y=>y.2.data.toList|Z=>ij (jM l k))
def dN (l:AH):Nat->Nat×Bl
 |0=>(0,[])
 |n+1=>if (dN l n).1<LB l then ((ii l (dN l n).1).1,(dN l n).2++(ii l (dN l n).1).2) else dN l n
def lY {l:AH} {n:Nat} (h:LB l<=(dN l n).1):∀d,dN l (n+d)=dN l n
 |0=>rfl
 |d+1=>by rw[←DD,dN,lY h d,if_neg G]
def yQ (h:LB l<=(dN l n).1) (J:LB l<=(dN l m).1):dN l n=dN l m:=by
 rcases Nat.le_total n m with a|a<;>obtain⟨d,rfl⟩:=Nat.le.dest a
 ·exact (lY h d).symm
 ·exact lY J d
open Classical in
def d6 (s:Bd):Bd:=if FH s=true then (if h:∃n,(CA s.size (aI s.data)).length<=(dN (CA s.size (aI s.data)) n).1 then ⟨⟨(dN (CA s.size (aI s.data)) (iW h)).2⟩⟩ else s) else s
def qx (a:FH s=true) (h:(CA s.size (aI s.data)).length<=(dN (CA s.size (aI s.data)) n).1):d6 s=⟨⟨(dN (CA s.size (aI s.data)) n).2⟩⟩:=by
 have e:∃n,(CA s.size (aI s.data)).length<=(dN (CA s.size (aI s.data)) n).1:=⟨n,h⟩;unfold d6;rw[if_pos a,dif_pos e,yQ (il e) h]
def wZ [B:eP S L] (ho:∀call,(match S.a 157 with|some g=>g call [.string s] h|none=>none)=none) (hk:S.M 157=none/\S.hk 157=none) (F:Ce h) (hs:aL s<=1000):PE S L 7 157 [.string s] h λw J=>AA h J/\w=.string (d6 s)/\(d6 s).size<=10000:=
 pY (fn:=f157) ho hk Kq λd hd'=>by
  have hL:=B.a;refine⟨Dc rfl,_,(jA F G d G).any,?_⟩;rintro _ h1 ⟨x1,rfl⟩;refine⟨_,_,rfl,Ad (λk0=>?_) (λk0=>?_)⟩
  ·have e:d6 s=s:=by unfold d6;rw[if_neg (by simpa using k0)]
   rw[e];exact⟨x1,rfl,G⟩
  have hv:FH s=true:=by simpa using k0
  obtain⟨fb,hfb⟩:∃fb,fb=h1.a:=⟨_,rfl⟩;have s1:aH h (h1.new (.map [] 0)) [aG fN gp fb []]:=((aH.nil h).C x1).add (a:=aG fN gp fb []) (AA.new _ _) ⟨by rw[hfb,Ck];omega,[],0,by rw[hfb,CK,if_pos rfl],rfl,rfl⟩ λi hi=>A2 (hfb.symm.trans (show i=fb from hi).symm);obtain⟨h2,u2,s2⟩:=s1.upG (t:=394) (et:=9) (i:=0) iP Kq rfl (⟨#[239,190,158]⟩,⟨#[227,130,155]⟩);obtain⟨h3,u3,s3⟩:=s2.upG (t:=394) (et:=9) (i:=0) iP Kq rfl (⟨#[239,190,159]⟩,⟨#[227,130,156]⟩);have e3:KT fq (⟨#[239,190,159]⟩,⟨#[227,130,156]⟩) (KT fq (⟨#[239,190,158]⟩,⟨#[227,130,155]⟩) [])=iO:=by kernel_rfl
  have s3:aH h h3 [aG fN gp fb (KT fq (⟨#[239,190,159]⟩,⟨#[227,130,156]⟩) (KT fq (⟨#[239,190,158]⟩,⟨#[227,130,155]⟩) []))]:=s3;rw[e3] at s3;rw[hfb] at u2 u3;refine⟨_,_,congrArg Nb u2,_,_,congrArg Nb u3,_,(B.form d G).any,?_⟩;rw[←hfb];rintro _ _ ⟨rfl,rfl⟩;obtain⟨r,hr⟩:∃r,r=h3.a:=⟨_,rfl⟩;have s4:=s3.add (a:=aB h3.a (.map dW 87)) (AA.new _ (.map dW 87)) ⟨by rw[Ck];omega,by rw[CK,if_pos rfl]⟩ λi hi=>A2 (show i=h3.a from hi).symm;rw[←hr] at s4⊢;generalize h3.new (.map dW 87)=h4 at s4⊢;have h87:dW.length=87:=by kernel_rfl
  obtain⟨h5,y5,s5⟩:=s4.cN (τ:=Ax) (t:=395) (kt:=21) (et:=9) Kq (i:=0) rfl (λx=>Iff.rfl) (s4.2.1 0 _ rfl).1.2 qt;refine⟨_,_,y5,λμ A DD hh=>∃sn:List MapEntry,A=[(0,.string s),(3,.map (some fb)),(20,AG h4.a 0)]/\DD=[]/\μ=dW.length-LB sn/\aH h hh [Yu h4.a r dW sn,aG fN gp fb (iO++sn.map eS)],
   ⟨_,_,Sq,G,[],rfl,rfl,rfl,s5⟩,?_⟩
  rintro μ A DD h6 ⟨sn,rfl,rfl,rfl,s6⟩ hLt;refine s6.cO (i:=0) rfl (λhall=>?_) (λe he hn h7 s7=>?_);rotate_left
  ·obtain⟨z,x,hk,hx,_⟩:=qz he;have ent:=QO (s7.it 0 rfl);have:=(s7.it 0 rfl).len;rw[Aj,Br] at this;have ep:eS e=(x,Yqc z):=by unfold eS;rw[hk,hx]
   have sub:=(s6.it 0 rfl).sub;obtain⟨h8,u8,s8⟩:=s7.upG (t:=394) (et:=9) (i:=1) iP Kq rfl (x,Yqc z);rw[qm λy hy=>MK.2 λhq=>?_,←ep,KA,show sn.map eS++[eS e]=(sn++[e]).map eS by simp] at s8;rotate_left
   ·have hq:(eS e).1=y.1:=by rw[ep];exact iR.1 hq
    have he9:eS e∈fG:=rj _ (Gn he);rcases dF.1 hy with hy|hy
    ·exact (rA.1 ma).2.2 y hy _ (Gn he) hq.symm
    ·obtain⟨e',he',rfl⟩:=dP.1 hy;exact hn (yT he (sub e' he') hq▸he')
   rw[hk,hx] at ent⊢;exact⟨_,_,congrArg (CN _) ent,_,rfl,_,_,congrArg Nb u8,_,_,Sq,(by rw[Aj,Br];omega:dW.length-(sn++[e]).length<_),_,rfl,rfl,rfl,s8⟩
  have sub:=(s6.it 0 rfl).sub;have hm:∀p,p∈iO++sn.map eS↔p∈fG:=λp=>by
   unfold fG;simp only[dF,dP];exact or_congr Iff.rfl ⟨λ⟨e,h,q⟩=>⟨e,sub e h,q⟩,λ⟨e,h,q⟩=>⟨e,hall e h,q⟩⟩
  have lk:=yL hm;generalize iO++sn.map eS=lF at s6 lk;obtain⟨l,hl⟩:∃l,l=CA s.size (aI s.data):=⟨_,rfl⟩;obtain⟨r1,r2⟩:=LJ s.size (aI s.data);have Da:∀{n:Nat} {k:Nat} {bs:Bl},dN l n=(k,bs)->LB l<=k->d6 s=⟨⟨bs⟩⟩:=λe hk=>by
   rw[hl] at e hk;rw[qx hv (n:=_) (by rw[e];exact hk),e]
  rw[←hl] at r1 r2;have cv:Ea Ax 9 210 (.string s) h6=some (.slice (some ⟨h6.a,0,none⟩) (LB l) (LB l),HY h6 21 l):=by rw[hl];rfl
  have s7:=(s6.drop 1:aH h h6 [aG fN gp fb lF]).add (a:=aO h6.a 21 l) (AA.a4 h6 21 l) (aQ.a4 h6 21 l) λi hi=>A2 hi.symm;obtain⟨qb,hq⟩:∃q,q=h6.a:=⟨_,rfl⟩;rw[←hq] at s7 cv;obtain⟨g1,y1,s8⟩:=s7.a3;refine⟨_,_,cv,_,_,y1 _,?_⟩;generalize(HY h6 21 l).a=bb at s8;refine⟨λμ A DD hh=>∃(k n:Nat) (v:Value) (bs:Bl),A=[(3,.map (some fb)),(6,.slice (some ⟨qb,0,none⟩) (LB l) (LB l)),(7,AG bb 0),(8,.int .i64 k)]/\DD=[]/\μ=LB l-k/\k<=LB l/\LB bs<=8*k/\dN l n=(k,bs)/\aH h hh [RK h.a bb v bs,aO qb 21 l,aG fN gp fb lF],
   ⟨_,_,Sq,G,0,0,_,[],rfl,rfl,rfl,Al _,Ae _,rfl,s8⟩,?_⟩
  rintro μ A DD hh ⟨k,n,v,bs,rfl,rfl,rfl,hk,hb,hn9,s'⟩ hLt;refine Ad (λk1=>?_) (λk1=>⟨_,(gg (s'.M 0 rfl) G d G).any,?_⟩);rotate_left
  ·rintro _ g ⟨rfl,c6⟩;have:=of_decide_eq_false k1;rw[Da hn9 G];exact⟨s'.e.then c6 λi hi=>(s'.M 0 rfl).o.ge i hi,rfl,by show LB bs<=_;omega⟩
  have k1:=of_decide_eq_true k1;have hkl:k<LB l:=G;have rd:Rd hh (.slice (some ⟨qb,0,none⟩) (LB l) (LB l)) 1 (LB l) l:=aQ.dB (k:=1) (s'.dD 1 rfl) G;have cont:∀{A:As} {J:Y} {cs:Bl} {k':Nat},Sub [(3,.map (some fb)),(6,.slice (some ⟨qb,0,none⟩) (LB l) (LB l)),(7,AG bb 0),(8,.int .i64 k')] A->k<k'->k'<=LB l->LB cs<=8->ii l k=(k',cs)->Gu hh J h.a bb v (bs++cs)->∃m' A0,Sub A0 A/\m'<LB l-k/\∃(k n:Nat) (v:Value) (bs:Bl),A0=[(3,.map (some fb)),(6,.slice (some ⟨qb,0,none⟩) (LB l) (LB l)),(7,AG bb 0),(8,.int .i64 k)]/\([]:Bo)=[]/\m'=LB l-k/\k<=LB l/\LB bs<=8*k/\dN l n=(k,bs)/\aH h J [RK h.a bb v bs,aO qb 21 l,aG fN gp fb lF]:=λsub h1 h2 hc hq w7=>by
   obtain⟨v7,s7⟩:=s'.bf 0 rfl w7;exact⟨_,_,sub,(show LB l-_<_ by omega),_,n+1,_,_,rfl,rfl,rfl,h2,by rw[Aj];omega,by rw[dN,hn9];simp only[];rw[if_pos hkl,hq],s7⟩
  have iY:∀{t:Bd} {y:eM},fH t=some y->BW Ax 394 (.map (some fb)) (.string t) true hh=some (.tuple #[gp y,.bool true]):=λ{t y} e=>by
   have:=TA.look (t:=394) (et:=9) (z:=.string ⟨#[]⟩) iP Kq Kq (s'.2.1 2 _ rfl).1 (t,⟨#[]⟩);rw[lk t,e] at this;exact this
  have jY:∀{t:Bd},fH t=none->BW Ax 394 (.map (some fb)) (.string t) true hh=some (.tuple #[.string ⟨#[]⟩,.bool false]):=λ{t} e=>by
   have:=TA.look (t:=394) (et:=9) (z:=.string ⟨#[]⟩) iP Kq Kq (s'.2.1 2 _ rfl).1 (t,⟨#[]⟩);rw[lk t,e] at this;exact this
  obtain⟨A3,c3,z,e3,cz⟩:=rd.rune r2 (k:=k) G;cases e3;have hz:jM l k=z:=by
   obtain⟨z',hz'⟩:=r2 l[k] (Bu hkl);have h1:l[k]?=some (.int .i32 z'):=by rw[Ab hkl,hz']
   have:=(ld (τ:=Ax) (t:=21) rfl cz).symm.trans (Dz (ld rfl (s'.q 1 _ rfl h1)) (by show 0+k*1+0=k;omega));cases this;unfold jM;rw[h1]
  refine⟨Pq,Bz (λk2=>?_) (λk2=>?_)⟩;obtain⟨v',e1,rd2,_⟩:=Rd.slice (τ:=Ax) (t:=210) (k:=1) Kq rd (lo:=some (.int .i64 k)) (U:=some (.int .i64 ((k:Int)+2))) (l:=k) (m:=k+2) rfl rfl G G;obtain⟨A',c',rfl⟩:∃A c,v'=.slice A (k+2-k) c:=by obtain⟨_,A,c,e,_⟩:=rd2;exact⟨A,c,e⟩
  obtain⟨t,e2,_,e4⟩:=Zi rd2 λu hu=>r2 u (List.mem_of_mem_drop (jP hu));have et:lZ l k=t:=by
   have e4:=e4 G;rw[BJ,BJ,show k+2-k=2 by omega] at e4;unfold lZ;rw[e4]
  rcases hk2:fH t with _|y;rotate_left
  ·have hy:=jK hk2;refine⟨Pq,_,_,congrArg (CN _) e1,_,e2,_,_,congrArg (CN _) (iY hk2),_,(eQ (s'.M 0 rfl) s'.e.a G d G).any,λ_ J w7=>⟨Pq,Pq,cont (k':=k+2) (Sq) G G (jK hk2) (by unfold ii;rw[if_pos G,et,hk2]) w7⟩⟩
  rotate_left;refine⟨Pq,_,_,congrArg (CN _) e1,_,e2,_,_,congrArg (CN _) (jY hk2),?_⟩
  all_goals
   have st:ii l k=(k+1,match fH (Yqc z) with|some y=>y.2.data.toList|none=>ij z):=by
    unfold ii;rw[hz]
    first|rw[if_neg G]|rw[if_pos G,et,hk2]
   have la:∀{v},Bw Ax 21 hh qb (0+k*1+0)=some v->Bw Ax 21 hh qb (0+(k:Int).toNat*1)=some v:=λh=>Dz h (by show 0+(k:Int).toNat*1=0+k*1+0;omega);rcases hk3:fH (Yqc z) with _|y
   ·rw[hk3] at st;exact⟨G,_,la (ld rfl cz),_,rfl,_,_,congrArg (CN _) (jY hk3),G,_,la (ld rfl cz),_,(hT (s'.M 0 rfl) s'.e.a G d G).any,λ_ J ⟨cs,hc,_,hka,w7⟩=>⟨Pq,cont (k':=k+1) (Sq) G G G (by rw[st,hka]) w7⟩⟩
   ·rw[hk3] at st;have hy:=jK hk3;exact⟨G,_,la (ld rfl cz),_,rfl,_,_,congrArg (CN _) (iY hk3),_,(eQ (s'.M 0 rfl) s'.e.a G d G).any,λ_ J w7=>⟨Pq,cont (k':=k+1) (Sq) G G (jK hk3) st w7⟩⟩
class eO (S:A9) (L:Nat):Prop extends eP S L where
 full:∀{h:Y} {s:Bd},Ce h->aL s<=1000->iB S L 1 157 [.string s] h λw g=>w=.string (d6 s)/\(d6 s).size<=10000
def xr [B:eO S L] (D:MD S) (F:Ce h) (I:aL s<=1000):iB S L 9 71 [.string s] h λw J=>Pb h J 4 w:=
 Zd (fn:=f71) Kq rfl λd R=>by
  have W:=B.a;refine⟨Dc rfl,_,B.full F I d G,?_⟩;rintro _ h1 ⟨H,rfl,P⟩;generalize d6 s=t at P⊢;refine⟨_,lG D (F.C H) G d G,?_⟩;rintro _ h2 ⟨j,q,rfl,m1⟩;have j:=H.trans j;refine⟨_,wY D (F.C j) G d G,?_⟩;rintro _ Z ⟨g,t2,rfl,m2⟩;have g:=j.trans g;refine⟨_,wX (F.C g) I d G,?_⟩;rintro _ Y ⟨f,p,rfl,m3⟩;have f:=g.trans f;refine⟨_,wW D (F.C f) G d G,?_⟩;rintro _ y ⟨m,n,rfl,m4⟩;have m:=f.trans m;have O:=(((aH.nil h).C m).cE 4 (ss:=[q,t2,p,n]) rfl).add (a:=aS h.a 9 1 (.slice none 0 0) 0 (AR [])) (AA.refl _) (AS.nil _ _ _ _) λi Q=>Q.elim;refine⟨_,_,rO _ _ _ _ _,λE A K x=>∃(k:Nat) (v:Value) (ss:BZ),A=[(3,v),(17,.slice (some ⟨y.a,0,none⟩) 4 4),(18,.int .i64 4),(19,.int .i64 k)]/\K=[]/\E=4-k/\k<=4/\LB ss<=k/\(∀s∈ss,aL s<=1100000)/\aH h x [aS h.a 9 1 v (LB ss) (AR ss),aS h.a 9 1 (.slice (some ⟨y.a,0,none⟩) 4 4) 4 (AR [q,t2,p,n])],
   ⟨_,_,Sq,G,0,_,[],rfl,rfl,rfl,Al _,Ae _,ZI,O⟩,?_⟩
  rintro E A K x ⟨k,v,ss,rfl,rfl,rfl,hk,V,sz,s⟩ T;refine Ad (λr=>?_) (λr=>⟨s.e,ss,s.sl 0 rfl,G,sz⟩);have r:=of_decide_eq_true r;have o:=s.sl 0 rfl;obtain⟨A1,c1,rfl⟩:∃A c,v=.slice A (LB ss) c:=by obtain⟨_,A,c,e,_⟩:=o.rd;exact⟨A,c,e⟩
  obtain⟨b,c,e,_,z⟩:=(s.sl 1 rfl).cell (i:=k) (Dl (l:=[q,t2,p,n]) (show k<4 by omega));cases e;obtain⟨u,hu,z⟩:∃u:Bd,aL u<=1100000/\aC x y.a k (.string u):=⟨_,(Nc (by omega) (Nc (by omega) (Nc m3 (Nc (by omega) ZI)))) _ (Bu _),z⟩;refine⟨G,_,Dz (ld rfl z) (by show 0+(k:Int).toNat*1=_;omega),_,pD o.rd G d G,?_⟩;rintro _ X ⟨rfl,b2,rfl,_⟩;refine⟨_,_,rfl,Ad (λ_=>?_) (λ_=>?_)⟩
  ·obtain⟨U,J,M,N⟩:=s.bA 40 9 1 0 [.string u] ((ss++[u]).length) (AR (ss++[u])) rfl s.e.a G wl (by simp[AR]);exact⟨_,_,i3 40 9 1 (.string u) _,_,_,M,Pq,_,_,Sq,(G:4-(k+1)<_),k+1,_,_,rfl,rfl,rfl,G,by rw[Aj,Br];omega,(λs h=>(dF.1 h).elim (sz s) λh=>by rw[bQ.1 h];exact hu),N⟩
  ·exact⟨Pq,_,_,Sq,(G:4-(k+1)<_),k+1,_,ss,rfl,rfl,rfl,G,G,sz,s⟩
def aH.cS {l:List Ct} {w:Aa} {a:BZ} (s:aH h0 h l) (U:l[i]?=I (aS h0.a 9 1 v (LB ss) (AR ss))) (r:Rd h w 1 (LB a) (AR a)) (hb:LB ss+LB a<=1000000):
 ∃k J,Bx Ax .append [40,40] [v,w] h=I (k,J)/\aH h0 J (l.set i (aS h0.a 9 1 k (ss++a).length (AR (ss++a)))):=by
 obtain⟨b,c1,rfl⟩:∃A c,w=.slice A (LB a) c:=by let⟨_,A,c,e,_⟩:=r;exact⟨A,c,e⟩
 obtain⟨k,J,d,f,g,j⟩:=UN Kq (s.sl _ U) r.bu r.src (by rw[CM];omega) (by unfold AR;rw[List.all_map];exact Jf.2 λ_ _=>B) s.e.a G;refine⟨k,J,d,s.ah _ U g ?_ j⟩;rw[Aj,show AR (ss++a)=AR ss++AR a from BS];exact f
def aH.cu {t K:Nat} (d:ZX τ t K=Ag) {l:List Ct} (s:aH h0 h l) (U:l[i]?=I (aO b e xs)) (c:LB vs=K) (a:LB xs=K) (g:vs.all one=Ag):
 ∃J,BA τ t h b 0 (.agg ⟨vs⟩)=I J/\aH h0 J (l.set i (aO b e vs)):=by
 obtain⟨J,f,o,u⟩:=(s.dD _ U).bD (i:=0) d c G g;have:=JB vs [] xs (c.trans a.symm);simp only[IW,fA] at this;rw[this] at o;exact⟨J,f,s.ah _ U u.O o λx a=>.inl a⟩
def aQ.cI (o:aQ h b e ys) (a:LB ys=n*k):Rd h (.slice (I ⟨b,0,I 0⟩) n n) k n ys:=
 aQ.cV (pre:=[]) (post:=[]) (by simpa using o) a (Ae _)
def rC (h:Y) (A:As) (a:Y):Prop:=∃(v:Aa) (ss:BZ) (t:Bd) (b:Nat) (ys:AH),A=[(5,v),(6,.string t),(8,AG b 0)]/\(LB ss<=30/\∀s∈ss,aL s<=1100000)/\TT nK 12 ys/\aH h a [aO b 278 ys,aS h.a 9 1 v (LB ss) (AR ss)]
def jE [c:cJ S L] (HB:MD S) (F:Ce h) (q:Jx h) (D:Mo h) (hs:aL s<=200000):iB S L 11 69 [.string s,.int .i64 day] h λw J=>Pb h J 2000 w:=
 Nu (fn:=f69) Kq B 5 (rC h) λd ai=>by
  have hL:=c.a;refine⟨Dc B,⟨_,wM D G d G,?_⟩,?_⟩
  .rintro v h1 ⟨m,ss,E,aj⟩
   refine⟨_,lG HB (F.C m) G d G,?_⟩;rintro _ Q ⟨r,t,rfl,ht⟩;refine⟨_,wL d G,?_⟩;rintro _ h3 ⟨T,ds,rfl,n⟩;refine⟨_,wK d G,?_⟩;rintro _ V ⟨W,ys,rfl,f⟩;have j:=(((aH.nil h).add (a:=aS h.a 9 1 v (LB ss) (AR ss)) m E E.ai).C (r.trans T)).C W;obtain⟨X,H,M⟩:=j.O (τ:=Ax) (t:=274) (z:=.agg ⟨jx 6 (.int .i64 0)⟩) Kq;obtain⟨g6,N,x⟩:=M.O (τ:=Ax) (t:=278) (z:=.agg ⟨jx 12 (.string ⟨#[]⟩)⟩) Kq;obtain⟨U,aa⟩:∃b,b=V.a:=⟨_,B⟩;obtain⟨g,ab⟩:∃b,b=X.a:=⟨_,B⟩;rw[←aa] at H M x;rw[←ab] at N x;obtain⟨g7,Z,s7⟩:=x.cu (τ:=Ax) (t:=274) (K:=12) Kq (i:=1) B n.1 B n.2.1;obtain⟨g8,Y,o⟩:=s7.cu (τ:=Ax) (t:=278) (K:=24) Kq (i:=0) B f.1 B f.2.1;have o:aH h g8 [aO g 278 ys,aO U 274 ds,aS h.a 9 1 v (LB ss) (AR ss)]:=o;refine⟨_,_,H _,_,_,N _,_,Z,_,Y,_,_,B,_,tL (R:=rJ) ((o.dD 1 B).cI n.1) xc n (λu ⟨z,e,_⟩=>by rw[e];rfl) ⟨0,B,by decide,by decide⟩ (.inl ⟨B,B,B⟩) d G,?_⟩;rintro _ h9 ⟨x9,u,b,rfl,z,rfl,hz⟩;have p:=o.C x9;have y:∀{A:As},Sub [(5,v),(6,.string t),(8,AG g 0)] A->∃O,Sub O A/\rC h O h9:=λad=>⟨_,ad,v,ss,t,g,ys,B,⟨Ao aj.1 xc,aj.2⟩,f,(p.perm (l':=[aO U 274 ds,aO g 278 ys,aS h.a 9 1 v (LB ss) (AR ss)]) (.swap ..)).drop 1⟩;cases b
   .exact y (Sq)
   refine Ad (λk=>Ad (λC=>?_) (λC=>?_)) (λk=>?_)
   .have k:=Fp k
    have C:=Fp C;refine⟨Pq,_,wJ (q.C p.e) (D.C p.e) d G,?_⟩;rintro w ak ⟨ae,l,af,al⟩;obtain⟨I,J,ag,ah⟩:=(p.C ae).cS (i:=2) B af.rd G;refine⟨_,_,ag,_,Sq,I,ss++l,t,g,ys,B,⟨by rw[Aj];omega,λs h=>(dF.1 h).elim (aj.2 s) (al.2 s)⟩,f,(ah.perm (l':=[aO U 274 ds,aO g 278 ys,aS h.a 9 1 I (ss++l).length (AR (ss++l))]) (.swap ..)).drop 1⟩
   .exact y (Sq)
   .exact y (Sq)
  .rintro A hh ⟨v,ss,t,b,ys,rfl,hl,f,s⟩
   refine⟨_,_,B,_,tL (R:=nK) ((s.dD 0 B).cI f.1) xc f (λu ⟨z,e,_⟩=>by rw[e];rfl) ⟨_,B,by decide⟩ (.inr ⟨B,B,B⟩) d G,?_⟩;rintro _ h1 ⟨m,u,b',rfl,z,rfl,hz⟩;have j:=s.C m;refine Ad (λk=>⟨_,wI G d G,?_⟩) (λk=>⟨j.e,ss,j.sl 1 B,Ao hl.1 xc,hl.2⟩);rintro w Q ⟨r,l,o2,am⟩;obtain⟨I,J,e3,P⟩:=(j.C r).cS (i:=1) B o2.rd G;exact⟨_,_,e3,P.e,ss++l,P.sl 1 B,by rw[Aj];omega,λs h=>(dF.1 h).elim (hl.2 s) (am.2 s)⟩
def A6.Ends.len {s:A6} {r n:Int} (h:s.Ends r n k) (a:0<=n):((s.St r k).2.2.length:Int)<=n:=by
 cases k with
 |zero=>exact a
 |succ k=>
  have:=Aha s r k;have:=(h.1 k G).2;omega
def H7.M {most:Nat} {cs:List Eu} (O:H7 J N ob a c d cv most cs):H7 (h.M J) N ob a c d cv most cs:=
 ⟨O.o.M,O.s.M,O.k.M,O.m.M,by unfold UV;exact O.t,O.ne,O.b,O.d⟩
def ja (N g d e f:Nat) (j:Aa) (most:Nat) (cs:List Eu):Ct:={
 C:=λi=>i=g\/i=d\/i=e\/i=f\/BY j i
 holds:=λh=>H7 h N g d e f j most cs
 a:=λc a O=>⟨O.o.O c (a _ (.inl B)),O.s.O c λi U=>a i (.inr (.inr (.inr (.inr U)))),O.k.O c (a _ (.inr (.inl B))),O.m.O c (a _ (.inr (.inr (.inl B)))),O.t.O c (a _ (.inr (.inr (.inr (.inl B))))),O.ne,O.b,O.d⟩
 lt:=λ{h} O i U=>by
  rcases U with rfl|rfl|rfl|rfl|U
  .exact O.o.1
  .exact O.k.1
  .exact O.m.1
  .exact O.t.1
  .exact O.s.aw i U
 M:=λO=>O.M}
def aH.cg (B:aF S L) {l:List Ct} {p o t:Nat} {cs:List Eu} {f:Int} {k:BZ} (s:aH h0 h l) (r:l[i]?=some (ja h0.a ob p o t cv mo cs)) (u:l[j]?=some (aS N 9 1 v n (AR k))) (y:n=LB k) (q:j≠i) (A:LB cs<=mo) (z:mo<=1000) (w:LB k<=1000000) (hz:∀s∈k,aL s<=1100000):
 Bk S L 1 67 [Vi f,v,AG ob 0,AG o 0,AG p 0] h λ_ J=>∃d b,aH h0 J (l.set i (ja h0.a ob p o t d mo b))/\LB b<=mo:=by
 subst y;refine(xn ((s.2.1 i _ r).1) A s.e.a z (s.sl _ u).rd w hz λx g=>?_).mono λ_ J ⟨d,b,O',hl,c,hb⟩=>⟨d,b,s.ah _ r (c.mono λx g=>?_) O' λx g=>?_,hl⟩
 ·have m:=s.2.2 j i _ _ q u r x g;exact⟨λe=>m (.inl e),λe=>m (.inr (.inr (.inr (.inl e)))),λe=>m (.inr (.inr (.inr (.inr e))))⟩
 ·exact g.elim .inl λh=>h.elim (λe=>.inr (.inr (.inr (.inl e)))) λe=>.inr Jq
 ·rcases g with e|e|e|e|e
  ·exact .inl (.inl e)
  ·exact .inl (.inr (.inl e))
  ·exact .inl (.inr (.inr (.inl e)))
  ·exact .inl (.inr (.inr (.inr (.inl e))))
  ·exact(hb x e).imp (λe=>.inr (.inr (.inr (.inr e)))) id
def aH.merge {d e:List Ct} (s:aH h0 h (d++e)) (a:Ct) (v:a.holds h) (r:∀x,a.C x->∃b∈d,b.C x):aH h0 h (a::e):=by
 have t:∀x (k:Nat) b,a.C x->e[k]?=I b->h0.a<=x/\¬b.C x:=λx k b f n=>by
  obtain⟨c,o,l⟩:=r x f;obtain⟨m,g⟩:=Iz o;have w:=(cG.1 g).1;have u:(d++e)[m]?=I c:=by rw[AB w];exact g
  exact⟨(s.2.1 _ _ u).2 x l,s.2.2 _ _ c b G u (by rw[Bq G,Ds];exact n:(d++e)[d.length+k]?=I b) x l⟩
 have old:∀(k:Nat) b,e[k]?=I b->(d++e)[LB d+k]?=I b:=λk b n=>by rw[Bq G,Ds];exact n
 refine⟨s.1,λi b U=>?_,λi j b c y U p x f q=>?_⟩
 .cases i with
  |zero=>
   cases U;refine⟨v,λx f=>?_⟩;let⟨c,o,l⟩:=r x f;let⟨m,g⟩:=Iz o;exact(s.2.1 m c Jq).2 x l
  |succ i=>exact s.2.1 _ _ (old i b U)
 .cases i with
  |zero=>
   cases j with
   |zero=>exact y B
   |succ j=>cases U;exact(t x j c f p).2 q
  |succ i=>
   cases j with
   |zero=>cases p;exact(t x i b q U).2 f
   |succ j=>exact s.2.2 _ _ b c G (old i b U) (old j c p) x f q
def vf (h J:Y) (w:Value):Prop:=∃cs:List Eu,AS J h.a 48 2 w (LB cs) (cs.flatMap ME)/\LB cs<=60/\(cs.map Eh).Nodup/\∀c∈cs,aL c.1<=1100000
def Aiy (s:Bd) (f t:Int):(RV s f t).1.size<=aL s:=by
 unfold RV;split
 .exact Al _
 .show(iZ _ _).length<=_
  have:LB s.data.toList=aL s:=B;rw[Cg,AV];omega
def jF [B:eO S L] (HB:MD S) (U:Ce h) (q:Jx h) (gn:Mo h) {V:Cb} (A:EI h lp V) (ok:V.O) {F T r lf most:Int}:
 iB S L 14 45 [AG lp 0,.agg #[Vi F,Vi T],Vi r,Vi lf,Vi day,Vi most] h λw J=>vf h J w:=
 Zd (fn:=f45) Kq rfl λd hd'=>by
  have hL:=B.a;obtain⟨g1,y1,s1⟩:=(aH.nil h).box Ax 120 (.agg #[Vi F,Vi T]);obtain⟨g2,y2,n⟩:=s1.box Ax 3 (Vi most);obtain⟨u,hpb⟩:∃b,b=h.a:=⟨_,rfl⟩;obtain⟨E,hmb⟩:∃b,b=g1.a:=⟨_,rfl⟩;have n:aH h g2 [aO E 3 [Vi most],aO u 120 [Vi F,Vi T]]:=by rw[hpb,hmb];exact n
  rw[←hpb] at y1;rw[←hmb] at y2;have Q:∀{H:Y},AA h H->(F<0\/T<=F\/(LB V.fs:Int)<T\/most<1)->AA h H/\vf h H (.slice none 0 0):=λx _=>⟨x,[],AS.nil _ _ _ _,Al _,Jg,λ_ h=>by cases h⟩;have cF:∀{H l'},aH h H (aO E 3 l'::[aO u 120 [Vi F,Vi T]])->aC H u 0 (Vi F)/\aC H u 1 (Vi T):=λs=>⟨s.q 1 _ rfl rfl,s.q 1 _ rfl rfl⟩;refine⟨Dc rfl,_,_,y1,_,_,y2,[],Kq,_,rfl,_,ld rfl (cF n).1,Ad (λk1=>Q n.e (.inl (of_decide_eq_true k1))) (λk1=>⟨_,ld rfl (cF n).1,_,ld rfl (cF n).2,Ad (λk2=>Q n.e (.inr (.inl (of_decide_eq_true k2)))) (λk2=>⟨_,ld rfl (cF n).2,_,gh (A.C (n.e.trans (AA.ad g2))) d G,?_⟩)⟩)⟩;rintro _ _ ⟨rfl,rfl⟩;have X:=n.C (AT (AA.refl g2));refine⟨rfl,Ad (λk3=>Q X.e (.inr (.inr (.inl (of_decide_eq_true k3))))) (λk3=>⟨_,ld rfl (X.q 0 _ rfl rfl),Ad (λk4=>Q X.e (.inr (.inr (.inr (of_decide_eq_true k4))))) (λk4=>?_)⟩)⟩;have k1:=of_decide_eq_false k1;have k2:=of_decide_eq_false k2;have k3:=of_decide_eq_false k3;have k4:=of_decide_eq_false k4;refine⟨_,ld rfl (X.q 0 _ rfl rfl),λz hz=>?_⟩;obtain⟨D,rfl⟩:=B9 (show 0<=z by omega);obtain⟨g4,y4,s4⟩:=X.sT 3 0 _ (Vi D) rfl (by show 0<1;decide) rfl;obtain⟨g5,y5,s5⟩:=s4.O (τ:=Ax) (z:=.slice none 0 0) Kq;have s6:=s5.add (a:=aB g5.a (.map [] 0)) (AA.new _ (.map [] 0)) ⟨by rw[Ck];omega,by rw[CK,if_pos rfl]⟩ λi hi=>A2 hi.symm;obtain⟨I,hob⟩:∃b,b=g4.a:=⟨_,rfl⟩;obtain⟨l,Z⟩:∃b,b=g5.a:=⟨_,rfl⟩;obtain⟨g7,y7,g8,y8,g⟩:=s6.var (τ:=Ax) (t:=160) (z:=.map none) Kq (v:=.map (some l)) rfl rfl rfl;obtain⟨K,hkb⟩:∃b,b=(g5.new (.map [] 0)).a:=⟨_,rfl⟩;have g:aH h g8 ([aO K 160 [.map (some l)],aB l (.map [] 0),aO I 44 [.slice none 0 0],aO E 3 [Vi D]]++[aO u 120 [Vi F,Vi T]]):=by rw[hkb,Z,hob];rw[Z] at g;exact g
  have ne:∀{i j:Nat} {a b:Ct} {x y:Nat},i≠j->([aO K 160 [.map (some l)],aB l (.map [] 0),aO I 44 [.slice none 0 0],aO E 3 [Vi D]]++[aO u 120 [Vi F,Vi T]])[i]?=some a->([aO K 160 [.map (some l)],aB l (.map [] 0),aO I 44 [.slice none 0 0],aO E 3 [Vi D]]++[aO u 120 [Vi F,Vi T]])[j]?=some b->a.C x->b.C y->x≠y:=λhne hi hj hx hy e=>g.2.2 _ _ _ _ hne hi hj _ hx (e▸hy);have O:H7 g8 h.a I K E l (.slice none 0 0) D []:=⟨g.dD 2 rfl,AS.nil _ _ _ _,g.q 0 0 rfl rfl,g.q 3 0 rfl rfl,⟨(g.2.1 1 _ rfl).1.1,[],0,(g.2.1 1 _ rfl).1.2,rfl⟩,
   ⟨ne (i:=2) (j:=0) xc rfl rfl rfl rfl,ne (i:=2) (j:=3) xc rfl rfl rfl rfl,ne (i:=2) (j:=1) xc rfl rfl rfl rfl,ne (i:=0) (j:=1) xc rfl rfl rfl rfl,ne (i:=3) (j:=1) xc rfl rfl rfl rfl⟩,λi hi=>hi.elim,Jg,λ_ h=>by cases h⟩
  have s9:=g.merge (ja h.a I K E l (.slice none 0 0) D []) O λx hx=>by
   rcases hx with e|e|e|e|e
   ·exact⟨_,by simp,(show(aO I 44 [.slice none 0 0]).C x from e)⟩
   ·exact⟨_,by simp,(show(aO K 160 [.map (some l)]).C x from e)⟩
   ·exact⟨_,by simp,(show(aO E 3 [Vi D]).C x from e)⟩
   ·exact⟨_,by simp,(show(aB l (.map [] 0)).C x from e)⟩
   ·exact e.elim
  rw[←hob] at y5;rw[←hkb] at y7 y8;rw[Z] at y8;have om:∀{H:Y} {cv:Value} {cs:List Eu} {l':List Ct},aH h H (ja h.a I K E l cv D cs::l')->H7 H h.a I K E l cv D cs:=λs=>(s.2.1 0 _ rfl).1;refine⟨_,y4,_,_,y5 _,_,_,y7 _,_,y8,_,EQ (k:=2) Kq (s9.dD 1 rfl).cells rfl,_,ld rfl (om s9).m,_,(gC (A.C s9.e) ok G d G),?_⟩;rintro w9 h9 ⟨x9,P⟩;rcases P with⟨hb,_⟩|⟨hF,kE,os,W,hos,o9,hnv⟩
  ·omega
  rw[show min (D:Int) 200=min most 60 by omega] at W;obtain⟨A9,c9,rfl⟩:∃A c,w9=.slice A (LB os) c:=by obtain⟨_,A,c,e,_⟩:=o9.rd;exact⟨A,c,e⟩
  have p:=s9.add (a:=aS g8.a 77 3 (.slice A9 (LB os) c9) (LB os) (os.flatMap Lg)) x9 o9 o9.ai;have hol:LB os<=60:=by have:=W.len G;rw[←hos,A4] at this;omega
  refine⟨λμ A0 DD R=>∃(i:Nat) (cv:Value) (cs:List Eu),A0=[(0,AG lp 0),(4,Vi day),(7,AG u 0),(13,AG I 0),(15,.func (.func 67) #[] #[AG I 0,AG E 0,AG K 0]),(54,.slice A9 (LB os) c9),(55,Vi (LB os)),(56,Vi i)]/\DD=[]/\μ=LB os-i/\i<=LB os/\LB cs<=D/\aH h R [ja h.a I K E l cv D cs,aS g8.a 77 3 (.slice A9 (LB os) c9) (LB os) (os.flatMap Lg),aO u 120 [Vi F,Vi T]],
   ⟨_,_,Sq,G,0,_,[],rfl,rfl,rfl,Al _,Al _,p.perm (.swap ..)⟩,?_⟩
  rintro μ A0 DD R ⟨i,cv,cs,rfl,rfl,rfl,hi,hc,s⟩ hLt;apply Bz<;>intro k5
  ·have hil:i<LB os:=G;obtain⟨a1,_,e1,_,q1⟩:=(s.sl 1 rfl).rd.el hil;cases e1;rw[flatK (f:=Lg) (λ_=>rfl) os (Ab hil)] at q1;obtain⟨g1,y1,g2,y2,n⟩:=s.var (τ:=Ax) (t:=77) (z:=.agg ⟨[.slice none 0 0,Vi 0,.string ⟨#[]⟩]⟩) Kq (v:=.agg ⟨Lg os[i]⟩) rfl rfl (by
    show(one os[i].c&&true)=true;rw[(hnv _ (Bu hil)).1];rfl)
   have X:=n.cE 1 (ss:=[os[i].P.b]) rfl;refine⟨G,_,EQ (k:=3) Kq (show BK R a1.block (a1.off+(i:Int).toNat*3) (Lg os[i]) from q1) rfl,_,_,y1 _,_,y2,_,ld rfl (n.q 0 2 rfl (xs:=Lg os[i]) rfl:aC g2 R.a 2 (.string os[i].P.b)),_,_,sW _ _,_,(X.cg B.toaF (i:=2) (j:=0) rfl rfl rfl xc hc G (Ac rfl) (λs h=>by rw[bQ.1 h];exact Ao (hnv _ (Bu hil)).2 xc) d G),?_⟩;rintro _ h4 ⟨cv',cs',s4,hc'⟩;exact⟨Pq,_,_,Sq,(G:os.length-(i+1)<_),i+1,cv',cs',rfl,rfl,rfl,G,hc',s4.drop 2⟩
  ·have htx:aL V.b<=256:=by
    have h1:=ok.cL;have h2:=ok.N;have:=VD (s:=V.b) G;omega
   have hrd:=Aiy V.b F T;have cF:∀{H:Y} {a b:Ct},aH h H [a,b,aO u 120 [Vi F,Vi T]]->aC H u 0 (Vi F)/\aC H u 1 (Vi T):=λs=>⟨s.q 2 0 rfl rfl,s.q 2 1 rfl rfl⟩;refine⟨[],Kq,_,PT (h:=R.ad) (A.C (s.e.trans (AA.ad _))) d G,?_⟩;rintro _ _ ⟨rfl,rfl⟩;have s1:=s.C (AT (AA.refl R));refine⟨rfl,_,ld rfl (cF s1).1,_,ld rfl (cF s1).2,_,xl (h:=(nb R).ad) (show Ce (nb R) from U.C s1.e) G d G,?_⟩;rintro _ h5 ⟨x5,rfl⟩;have s5:=s1.C x5.M;refine⟨x5.C,_,(jE HB (U.C s5.e) (q.C s5.e) (gn.C s5.e) G d G),?_⟩;rintro w6 h6 ⟨x6,t1,o6,l6⟩;refine⟨_,((s5.add x6 (a:=aS _ 9 1 w6 (LB t1) (AR t1)) o6 o6.ai).cg B.toaF (i:=1) (j:=0) rfl rfl rfl xc hc G G l6.2 d G),?_⟩;rintro _ h7 ⟨cv7,_,s7,hc7⟩;have s7:=s7.drop 1;refine⟨_,(lG HB (U.C s7.e) G d G),?_⟩;rintro _ h8 ⟨x8,y,rfl,hy⟩;have g:=s7.C x8;refine⟨_,(jE HB (U.C g.e) (q.C g.e) (gn.C g.e) G d G),?_⟩;rintro w9 h9 ⟨x9,t2,o9,l9⟩;refine⟨_,((g.add x9 (a:=aS _ 9 1 w9 (LB t2) (AR t2)) o9 o9.ai).cg B.toaF (i:=1) (j:=0) rfl rfl rfl xc hc7 G G l9.2 d G),?_⟩;rintro _ h10 ⟨cv10,_,p,hc10⟩;have p:=p.drop 1;refine⟨_,xr HB (U.C p.e) G d G,?_⟩;rintro w11 h11 ⟨x11,t3,o11,l11⟩;refine⟨_,((p.add x11 (a:=aS _ 9 1 w11 (LB t3) (AR t3)) o11 o11.ai).cg B.toaF (i:=1) (j:=0) rfl rfl rfl xc hc10 G G l11.2 d G),?_⟩;rintro _ h12 ⟨cv12,_,s12,hc12⟩;have O:=om (s12.drop 1);exact⟨_,ld rfl (O.o.cell (i:=0) rfl),s12.e,_,O.s,Ao hc12 G,O.d⟩
def D2:AH:=[.slice Z 0 0,.pointer Z,.pointer Z,.pointer Z,.pointer Z,.pointer Z,.pointer Z,.pointer Z,.pointer Z,.pointer Z,.pointer Z]
def dS (e:Y) (f g:Nat) (d:Value) (X:AH) (b:Bool) (R:Y->Prop) (h:Y):Prop:=aH e h [aO g 136 X,aO f 132 [d,.bool b]]/\(∀{a c:Y},f<a.a->g<a.a->B0 (λi=>i=f\/i=g) a c->R a->R c)/\(b=Ah->R h)
section
variable{h1 h J:Y} {f g:Nat} {sl:Value} {X X':AH} {b b':Bool} {R P:Y->Prop}
def dS.lt (o:dS h1 f g sl X b R h):f<h.a/\g<h.a:=⟨(o.1.dD 1 B).1,(o.1.dD 0 B).1⟩
def dS.go (o:dS h1 f g sl X b R h) (s:aH h1 J [aO g 136 X',aO f 132 [sl,.bool b']]) (c:B0 (λi=>i=f\/i=g) h J) (st:∀{a c:Y},f<a.a->g<a.a->B0 (λi=>i=f\/i=g) a c->P a->P c) (p:b'=false->b=false/\P J):dS h1 f g sl X' b' (λh=>R h/\P h) J:=
 ⟨s,λx y z r=>⟨o.2.1 x y z r.1,st x y z r.2⟩,λe=>⟨o.2.1 o.lt.1 o.lt.2 c (o.2.2 (p e).1),(p e).2⟩⟩
def dS.wr (o:dS h1 f g sl X b R h) {t:TypeId} (c:Gv Ax t=true) (d:j<LB X) {w:Value} (a:one w=true):∃J,BA Ax t h g j w=some J/\dS h1 f g sl (X.set j w) b R J:=by
 obtain⟨J,u,s,v⟩:=o.1.a5 c (i:=0) B d a;exact⟨J,u,s,o.2.1,λe=>o.2.1 o.lt.1 o.lt.2 (v.O.mono λi h=>.inr h) (o.2.2 e)⟩
def dS.set (o:dS h1 f g sl X b R h) (a:Bool):∃J,BA Ax 4 h f 1 (.bool a)=some J/\∀{C:Prop},(a=false->b=false/\C)->dS h1 f g sl X a (λh=>R h/\C) J:=by
 obtain⟨J,u,s,v⟩:=o.1.a5 (τ:=Ax) (t:=4) B (i:=1) B (v:=.bool a) (by show 1<2;decide) B;exact⟨J,u,λk=>o.go s (v.O.mono λi h=>.inl h) (λ_ _ _ h=>h) k⟩
def dS.add (o:dS h1 f g sl X b R h) {F:Nat->Y->Prop} (st:∀{N:Nat} {a c:Y},(∀i,(i=f\/i=g)->i<N)->B0 (λi=>i=f\/i=g) a c->F N a->F N c) {q:Prop} (s:aH h1 J [aO g 136 X,aO f 132 [sl,.bool b']]) (m:b=true->b'=true) (c:B0 (·=f) h J) (p:(q/\b'=true)\/F h.a J):dS h1 f g sl X b' (λh=>R h/\∃N,(∀i,(i=f\/i=g)->i<N)/\F N h) J:=
 o.go s (c.mono λi h=>.inl h) (λ_ _ z ⟨N,n,k⟩=>⟨N,n,st n z k⟩) λe=>by
  subst e;exact⟨Jq,_,λi d=>by rcases d with rfl|rfl;exact o.lt.1;exact o.lt.2,p.resolve_left λx=>Jq⟩
def dS.tr (B:dG S L) (o:dS h1 f g sl X b R h) {ps:List DQ} (p:EC h1 sl ps) (j:LB ps<=64) {d:Bd}:Bk S L 7 54 [AG f 0,.string d] h λw J=>one w=true/\∃a,dS h1 f g sl X a (λh=>R h/\∃N,(∀i,(i=f\/i=g)->i<N)/\∃q t,w=AG q 0/\Ge h N q t) J:=
 (lC o.1 p j (i:=1) rfl).mono λ_ _ ⟨a,s,m,_,c,q⟩=>⟨by rcases q with⟨rfl,_⟩|⟨_,_,rfl,_⟩<;>rfl,a,o.add (λn c ⟨q,t,e,T⟩=>⟨q,t,e,T.fr c n⟩) s m c q⟩
def dS.C (B:dG S L) (o:dS h1 f g sl X b R h) {ps:List DQ} (p:EC h1 sl ps) (r:LB ps<=64) {l:Bd}:Bk S L 7 55 [AG f 0,.string l] h λw J=>one w=true/\∃j,dS h1 f g sl X j (λh=>R h/\∃N,(∀i,(i=f\/i=g)->i<N)/\∃q n d a,w=AG q 0/\Lb h N q n d a) J:=
 (wQ o.1 p r (i:=1) rfl).mono λ_ _ ⟨j,s,m,_,c,q⟩=>⟨by rcases q with⟨rfl,_⟩|⟨_,_,_,_,rfl,_⟩<;>rfl,j,o.add (λn c ⟨q,k,d,a,e,T⟩=>⟨q,k,d,a,e,T.fr c n⟩) s m c q⟩
end
def yk (k l:Value) (f g:Nat) (h:Y):Prop:=(∃a,Gt h k a/\(∀i,BY k i->i≠f/\i≠g)/\1<=LB a/\LB a<=64/\∀q∈a,q.1.size<=16/\0<=q.2/\q.2<=2)/\
 ∃(c b d:Nat) (j:Int) (e:GX),l=AG c 0/\F6 h c b j d e/\(c≠f/\c≠g)/\(d≠f/\d≠g)/\EJ b e/\LB e<=5000/\(1<=b/\b<=64)/\(0<=j/\j<=30000)
def Aov (h:Y) (v:Value) (A:As) (a:Y):Prop:=∃(b:Y) (f g:Nat) (j:Option Addr) (d:Nat) (ps:List DQ) (c:Bool) (i e:Value) (R:Y->Prop),A=[(0,v),(6,AG f 0),(7,AG g 0)]/\AA h b/\EC b (.slice j (LB ps) d) ps/\LB ps<=64/\dS b f g (.slice j (LB ps) d) ((D2.set 0 i).set 1 e) c R a/\∀h,R h->yk i e f g h
end
end
end Go.Ev
