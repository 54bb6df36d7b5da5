/-
  Part of the proof.
-/
import Derived.Test.YthifijhldmpodaaGreatDoorR1
set_option maxRecDepth 100000
set_option maxHeartbeats 40000000
set_option linter.all false
open Bool renaming false->Ah,true->Ag,and_eq_true->An,eq_false_iff->MK,or_eq_false_iff->Iy
open Go renaming Code->DC,Deferred->Hh,Func->BC,FuncId->Au,IntKind->Cq,MapEntry->Ap,TypeId->Ai,Value->Aa,Addr->BD
open Option renaming none->Z,some->I,getD_some->EN
open Nat renaming beq->Am,succ->A3,eq_of_beq_eq_true->Af,ble->Ar,blt->AD,lt_trichotomy->FD,le_refl->Ae,lt_of_lt_of_le->AC,le_trans->Ao,lt_or_ge->A8,le_of_ble_eq_true->Ac,ble_eq_true_of_le->Aq,le_of_eq->A2,blt_eq->AK,mod_eq_of_lt->JQ,or_lt_two_pow->Zz,zero_add->Ba,add_assoc->DD,add_mul->Dw,mod_lt->Je,zero_mul->Qg,mul_le_mul_right->Ci,mul_assoc->Ajd,zero_le->Al,min_eq_left->N4,eq_zero_or_pos->KQ,mul_comm->UI,add_sub_cancel_left->Ds,add_comm->UK,mul_le_mul->Cj,add_zero->UL,mul_one->BJ,lt_of_le_of_lt->Ji,mul_add->EG,pow_lt_pow_right->Ack,pow_le_pow_right->Na,and_le_right->Apg
open List renaming length_cons->AO,getElem?_cons_succ->B5,map_cons->Bp,drop_eq_getElem_cons->Di,drop_drop->GR,drop_zero->Ajb,getElem?_append_left->AB,mem_cons_of_mem->Az,mem_cons_self->Av,replicate->AE,length_append->Aj,length_map->A4,getElem?_append_right->Bq,getElem?_eq_none->CD,getElem?_cons_zero->CO,eq_nil_of_length_eq_zero->BO,mem_of_getElem?->AZ,take_of_length_le->Bj,append_nil->Fb,append_assoc->KA,getD_eq_getElem?_getD->Ak,nil_append->IW,all_eq_true->Jf,range->BG,getElem?_eq_getElem->Ab,getElem?_map->AX,pairwise_iff_getElem->F8,getElem_mem->Bu,take_append_drop->FO,take_length->CS,getElem?_set_ne->Amv,length_singleton->Br,length_drop->AV,length_take->Cg,getElem?_take->LS,getElem?_drop->Eg,sum_cons->Amw,count_le_length->HM,count_append->K0,getElem?_range->Jj,take_succ_eq_append_getElem->A5,map_append->BS,sum_append->PC,range_succ->Acb,eq_of_mem_replicate->CH,mem_or_eq_of_mem_set->BT,length_set->B4,getElem?_set->Iu,map_set->Cp,map_replicate->KD,eraseIdx_cons_succ->W6,take_sublist->Ajl,getElem?_of_mem->Iz,length_nil->Acd,take_append_of_le_length->UR,replicate_append_replicate->Qi,flatMap_cons->Dg,flatMap_append->E0,set_append->Hj,all_append->Aph
open Array renaming length_toList->EZ
open Go.Value renaming int->AL,bool->CU,tuple->C4,slice->PA
namespace Go.Ev
open Go Go.Proofs Tryz
noncomputable section
section
variable {h J h0 h1 H:Y} {v fv nv pv cv ev lv u v':Aa} {xs args vs ys:AH} {n b N i k e r j x m c q d a p t2 st sb mo ck lp rm b0 sz off:Nat} {t:Ai} {f:Au} {fn:BC} {s:Bd} {bs:Bl} {ws:Bo} {W:Nat->Prop} {Q:Aa->Y->Prop} {A:Option BD} {z df day:Int} {ss:BZ} {τ:Bb}
variable{S:A9} {L:Nat}
def Avh (f:Base S L) {p g:Aa} (o:Own h b 356 [p,g,sN]) (r:Rd h g 1 ws.length (ws.map λx:Nat=>AL .u64 x)) (z:∀i,BY g i->i≠b) (hb:∀x∈ws,x<18446744073709551616) (hl:ws.length<=100000):
 Bk S L 2 239 [AG b 0] h λv J=>v=.tuple #[]/\B0 (·=b) h J/\∃cv,Own J b 356 [p,g,cv]/\AS J h.nx 3 1 cv ((ws.length+7)/8) (Ig ws ((ws.length+7)/8)):=
 Co f239 f λn hn=>by
  have hL:=f.aI;obtain⟨C,j,l,rfl,D,E,F⟩:=r;have H:Rd h (.slice j ws.length l) 1 ws.length (ws.map λx:Nat=>AL .u64 x):=⟨C,j,l,B,D,E,F⟩;refine⟨Dc B,_,ld B (o.cell B),λs A a=>∃(x:Int) (k:Nat) (cv:Aa),A=[(0,AG b 0),(2,Vi x),(8,.slice j ws.length l),(9,Vi ws.length),(10,Vi k)]/\x=Qn ws k/\k<=ws.length/\s=ws.length-k/\
   B0 (·=b) h a/\Own a b 356 [p,.slice j ws.length l,cv]/\AS a h.nx 3 1 cv ((k+7)/8) (Ig ws ((k+7)/8)),
   ⟨_,_,Sq,?_,_,0,_,B,B,Al _,B,(AA.refl h).ae _,o,AS.nil _ _ _ _⟩,?_⟩
  .omega
  rintro s A a ⟨x,k,cv,rfl,rfl,hk,rfl,c,m,d⟩ ab;apply Bz<;>intro e
  .have K:k<ws.length:=G
   have hs:=Alk ws k;have ad:=Ta K;have hp:=PY (ws.getD k 0)
   let⟨a1,x1,M,_,N⟩:=(H.ae c (λi U h=>z i U h)).at_ G
   cases M;have O:(ws.map λx:Nat=>AL .u64 x)[k]?=I (.int .u64 (ws.getD k 0:Nat)):=by
    rw[AX,Ak,Ab G];rfl
   have u:ws.getD k 0<18446744073709551616:=hb _ (by
    rw[Ak,Ab G];exact Bu _)
   refine⟨G,_,Rd.ld N B (by show _*1=_;omega) O,G,?_⟩;apply Bz<;>intro e2
   .have P:=c.nx
    obtain⟨v',h2,Q,q,w,s4⟩:=Tz Kq d (ys:=[Vi (Qn ws k:Nat)]) B B P G;have R:=m.ae w (λa=>by have:=d.ai _ a;have:=o.1;omega);obtain⟨T,V,W,y⟩:=R.st (τ:=Ax) (t:=48) B (by show 2<3;decide) (D5 q);have X:∀i,BY v' i->h.nx<=i:=λi U=>q.ai i U;have aa:=q.ah y (λi U h=>by have:=X i U;have:=o.1;omega);refine⟨_,ld B (m.cell B),_,_,Iv (τ:=Ax) (t:=48) (k:=1) Kq (Vi (Qn ws k:Nat)) B B Jq a,_,_,Q,_,V,GZ (Ajp f u n G) ?_⟩;refine⟨Pq,Pq,_,_,Sq,?_,_,k+1,_,B,G,G,B,((c.then w λi U=>.inr (d.ai i U)).trans y.ae:B0 (·=b) h T),W,?_⟩
    .omega
    .have e3:(k+1+7)/8=(k+7)/8+1:=G
     rw[e3,Ig,Acb,BS];simpa[(G:8*((k+7)/8)=k),Ig] using aa
   .refine GZ (Ajp f u n G) ?_
    refine⟨Pq,Pq,_,_,Sq,?_,_,k+1,_,B,G,G,B,c,m,?_⟩
    .omega
    .rw[show(k+1+7)/8=(k+7)/8 by omega];exact d
  .obtain rfl:k=ws.length:=G
   exact⟨B,c,cv,m,d⟩
def Aym {a b:Nat} (c:a<18446744073709551616) (hb:b<18446744073709551616):JP .u64 (a:Int) (b:Int)=((a|||b:Nat):Int):=by
 unfold JP;rw[BitVec.toNat_or,QN c,QN hb,G8];have:a|||b<2^64:=Zz c hb;omega
def FA (l:List Bool) (k:Nat) (ws:Bo):Prop:=ws.length=(l.length+63)/64/\(∀x∈ws,x<18446744073709551616)/\∀i,i<64*ws.length->(ws.getD (i/64) 0).testBit (i%64)=(decide (i<k)&&l.getD i Ah)
def FA.zero (l:List Bool):FA l 0 (AE ((l.length+63)/64) 0):=by
 refine⟨by simp,λx a=>?_,λi U=>?_⟩
 .rw[CH a];omega
 .simp only[List.length_replicate] at U
  rw[Ak,List.getElem?_replicate,Bi G];simp
def FA.skip {l:List Bool} {k:Nat} {ws:Bo} (w:FA l k ws) (b:l.getD k Ah=Ah):FA l (k+1) ws:=by
 refine⟨w.1,w.2.1,λi U=>?_⟩;rw[w.2.2 i U];by_cases h:i=k
 .subst h;rw[b];simp
 .by_cases a:i<k
  .simp[a,show i<k+1 by omega]
  .simp[a,show¬i<k+1 by omega]
def FA.put {l:List Bool} {k:Nat} {ws:Bo} (w:FA l k ws) (m:k<l.length) (c:l.getD k Ah=Ag):FA l (k+1) (ws.set (k/64) (ws.getD (k/64) 0|||2^(k%64))):=by
 have hb:∀j,ws.getD j 0<18446744073709551616:=λj=>by
  rw[Ak];cases d:ws[j]? with
  |none=>simp
  |some y=>exact w.2.1 y (AZ d)
 have a:∀r,r<64->2^r<18446744073709551616:=λr f=>Ack G f;refine⟨by simp[w.1],λx g=>?_,λi U=>?_⟩
 .rcases BT g with h|rfl
  .exact w.2.1 x h
  .exact Zz (n:=64) (hb _) (a _ (Je _ G))
 .simp only[B4] at U
  have b:=w.2.2 i U;rw[Ak,Iu];by_cases e:k/64=i/64
  .rw[Bi e,Bi (by rw[w.1] at*;omega)]
   simp only[EN];rw[e,Nat.testBit_or,b,Nat.testBit_two_pow];by_cases h:i=k
   .subst h;rw[c];simp
   .have:¬k%64=i%64:=G
    by_cases a:i<k
    .simp[a,this,show i<k+1 by omega]
    .simp[a,this,show¬i<k+1 by omega]
  .rw[Bm e,←Ak,b]
   have h:¬i=k:=λh=>e (by rw[h]);by_cases a:i<k
   .simp[a,show i<k+1 by omega]
   .simp[a,show¬i<k+1 by omega]
def TX (l:List Bool) (ws:Bo):Prop:=ws.length=(l.length+63)/64/\(∀x∈ws,x<18446744073709551616)/\∀i,i<l.length->(ws.getD (i/64) 0).testBit (i%64)=l.getD i Ah
def FA.bits {l:List Bool} {ws:Bo} (w:FA l l.length ws):TX l ws:=
 ⟨w.1,w.2.1,λi U=>by rw[w.2.2 i (by rw[w.1];omega)];simp[U]⟩
def Y0 {l:List Bool} {ws:Bo} (w:TX l ws):∀g,64*g<=l.length->Qn ws g=Sm l (64*g)
 |0,_=>by simp[Qn,Sm]
 |
  g+1,h=>by
  rw[Ta (by rw[w.1];omega),Y0 w g G,show 64*(g+1)=64*g+64 by omega,V0 (w:=ws.getD g 0) G (λi U=>by
   have:=w.2.2 (64*g+i) G;rw[show(64*g+i)/64=g by omega,show(64*g+i)%64=i by omega] at this;exact this)]
def Afv {l:List Bool} {ws:Bo} {h:Y} {b:Nat} {a cv:Aa} (f:l.length<=1048576) (w:TX l ws) (o:Own h b 356 [Vi l.length,a,cv]) (r:Rd h a 1 ws.length (ws.map λx:Nat=>AL .u64 x))
 (c:Rd h cv 1 ((ws.length+7)/8) (Ig ws ((ws.length+7)/8))):Du h b l:=by
 refine⟨o.cell B,f,⟨a,ws,o.cell B,by rw[←w.1];exact r,w.2.1,w.2.2⟩,cv,o.cell B,?_⟩
 .rw[←w.1]
  have e:Ig ws ((ws.length+7)/8)=(BG ((ws.length+7)/8)).map λg=>Vi ((l.take (512*g)).count Ag):=by
   unfold Ig;apply List.map_congr_left;intro g d;have d:=List.mem_range.1 d;have i:=w.1;rw[Y0 w (8*g) G];unfold Sm;rw[show 64*(8*g)=512*g by omega]
  rw[←e];exact c
def Cell.inj {h:Y} {b o:Nat} {v v':Aa} (c:Cell h b o v) (a:Cell h b o v'):v=v':=by
 let⟨_,c,n,e,lo,U,x,h1,g⟩:=c
 let⟨_,a,n',i,j,k,l,d,f⟩:=a
 rw[h1] at d;cases d;rw[g] at f;cases f;rfl
def ID (h:Y) (N b:Nat):Prop:=N<=b/\(∀v,Cell h b 1 v->∀i,BY v i->N<=i)/\∀v,Cell h b 2 v->∀i,BY v i->N<=i
def Du.fr {W:Nat->Prop} {h J:Y} {N b:Nat} {l:List Bool} (v:Du h b l) (g:ID h N b) (c:B0 W h J) (a:∀i,W i->i<N):Du J b l:=by
 let⟨h1,m,⟨e,ws,f,n,o⟩,j,k,p⟩:=v
 have hb:¬W b:=λh=>by have:=a b h;have:=g.1;omega
 exact⟨h1.ae c hb,m,⟨e,ws,f.ae c hb,n.ae c (λi U d=>by have:=a i d;have:=g.2.1 e f i U;omega),o⟩,j,k.ae c hb,p.ae c λi U d=>by have:=a i d;have:=g.2.2 j k i U;omega⟩
def Du.aa {h J:Y} {b:Nat} {l:List Bool} (v:Du J b l):Du (h.aa J) b l:=by
 let⟨h1,a,⟨c,ws,d,e,f⟩,g,i,j⟩:=v
 exact⟨h1.aa,a,⟨c,ws,d.aa,e.aa,f⟩,g,i.aa,j.aa⟩
def ID.aa {h J:Y} {N b:Nat} (v:ID J N b):ID (h.aa J) N b:=by
 unfold ID Cell;rw[CL,DF];exact v
def Awr (p:Base S L) {h:Y} {v:Aa} {l:List Bool} (r:Rd h v 1 l.length (l.map .bool)) (hl:l.length<=9223372036854775807):
 Bk S L 3 171 [v] h λw J=>AA h J/\(1048576<l.length/\w=.tuple #[.pointer Z,Vi 2]\/l.length<=1048576/\∃b,h.nx<=b/\w=.tuple #[AG b 0,Vi 0]/\Du J b l/\ID J h.nx b):=
 Co f171 p λn hn=>by
  have hL:=p.aI;obtain⟨O,q,s,rfl,P,Q,R⟩:=r;have T:Rd h (.slice q l.length s) 1 l.length (l.map .bool):=⟨O,q,s,B,P,Q,R⟩;refine⟨Dc B,?_⟩;apply Bz<;>intro e
  .exact⟨AA.refl h,.inl ⟨G,B⟩⟩
  have y:l.length<=1048576:=G;have em:((l.length:Int)+63)/64=(((l.length+63)/64:Nat):Int):=G
  let⟨h1,V,W,X,n1⟩:=MA (τ:=Ax) (t:=274) (e:=213) (z:=.int .u64 0) Kq Kq B ((l.length+63)/64) G .i64 .i64 h
  refine⟨Pq,⟨G,G,G,G⟩,?_⟩;rw[em];refine⟨_,_,V,?_⟩
  let⟨h2,f,C,o2,n2⟩:=H1 Ax 356 (.agg #[Vi l.length,sL h.nx ((l.length+63)/64) ((l.length+63)/64),sN]) h1
  refine⟨_,_,f,?_⟩;have aa:Own h2 h1.nx 356 [Vi l.length,sL h.nx ((l.length+63)/64) ((l.length+63)/64),sN]:=o2;have w0:=FA.zero l;refine⟨λD A a=>∃(k:Nat) (ws:Bo),A=[(4,AG h1.nx 0),(19,.slice q l.length s),(20,Vi l.length),(21,Vi k)]/\k<=l.length/\D=l.length-k/\FA l k ws/\
   AA h a/\Own a h.nx 213 (ws.map λx:Nat=>AL .u64 x)/\Own a h1.nx 356 [Vi l.length,sL h.nx ((l.length+63)/64) ((l.length+63)/64),sN],
   ⟨_,_,Sq,?_,0,_,B,Al _,B,w0,W.trans C,?_,aa⟩,?_⟩
  .omega
  .simpa using X.ext C
  rintro D A a ⟨k,ws,rfl,hk,rfl,d,g,j,m⟩ af;apply Bz<;>intro e
  .have E:k<l.length:=G
   let⟨a1,y1,e9,_,q1⟩:=(T.ext g).at_ G
   cases e9;have ab:(l.map CU)[k]?=I (.bool (l.getD k Ah)):=by
    rw[AX,Ak,Ab E];rfl
   refine⟨G,_,Rd.ld q1 B (i:=k) (by show _*1=_;omega) ab,Ad (λf=>?_) (λf=>?_)⟩
   .have o:=d.1
    have ad:(ws.map λx:Nat=>AL .u64 x)[k/64]?=I (.int .u64 (ws.getD (k/64) 0:Nat)):=by
     rw[AX,Ak,Ab G];rfl
    have hb:ws.getD (k/64) 0<18446744073709551616:=d.2.1 _ (by
     rw[Ak,Ab G];exact Bu _)
    have F:2^(k%64)<18446744073709551616:=Ack (n:=64) G (Je _ G);have ae:(k:Int)%64=((k%64:Nat):Int):=G;have es:Es .u64 1 ((k:Int)%64)=((2^(k%64):Nat):Int):=by
     have:=Agi (x:=1) (n:=k%64) (Je _ G);rw[ae];rw[Nat.one_mul,JQ F] at this;exact this
    let⟨h3,s5,s6,H⟩:=Own.st (h:=a.ad) (τ:=Ax) (t:=213) B (i:=k/64) (v:=.int .u64 ((ws.getD (k/64) 0|||2^(k%64):Nat):Int)) j (by simp;omega) B
    refine⟨[],Kq,_,ld B (m.cell (i:=1) B),⟨G,G,G,G⟩,G,_,(by
     have:=ld (τ:=Ax) (t:=213) B (j.cell ad);rw[show(0+((k:Int)/64).toNat*t213.size)=k/64 by show 0+_*1=_;omega];exact this),G,G,?_⟩
    rw[es];refine⟨G,h3,(by
     rw[Aym hb F,show(0+((k:Int)/64).toNat*t213.size)=k/64 by show 0+_*1=_;omega];exact s5),Pq,?_⟩
    refine⟨_,_,Sq,?_,k+1,_,B,G,B,d.put E f,?_,?_,?_⟩
    .omega
    .exact g.ah H.aa (Ae _)
    .have:=s6.aa (h:=a)
     rw[Cp];exact this
    .exact m.ah H.aa G
   .refine⟨Pq,_,_,Sq,?_,k+1,ws,B,G,B,d.skip f,g,j,m⟩
    omega
  .obtain rfl:k=l.length:=G
   have o:=d.1;have K:Rd a (sL h.nx ((l.length+63)/64) ((l.length+63)/64)) 1 ws.length (ws.map λx:Nat=>AL .u64 x):=by
    rw[o];have:AS a h.nx 213 1 (sL h.nx ((l.length+63)/64) ((l.length+63)/64)) ((l.length+63)/64) (ws.map λx:Nat=>AL .u64 x):=
     ⟨by simp[o],.inr ⟨h.nx,_,[],B,Ae _,Ae _,by simp[o],by simpa using j⟩⟩
    exact this.rd
   refine⟨_,Avh p m K (λi U=>by have:i=h.nx:=U;omega) d.2.1 G n G,?_⟩;rintro _ h4 ⟨rfl,M,cv,u,N⟩;have hx:AA h h4:=g.then M (λi U=>by rw[U];omega)
   have ag:=g.nx;refine⟨hx,.inr ⟨y,h1.nx,G,B,Afv y d.bits u (K.ae M λi U ah=>?_) N.rd,G,λv c i U=>?_,λv c i U=>?_⟩⟩
   .have:i=h.nx:=U
    omega
   .obtain rfl:=c.inj (u.cell (i:=1) B)
    have:i=h.nx:=U;omega
   .obtain rfl:=c.inj (u.cell (i:=2) B)
    have:=N.ai i U;omega
def DH (z:Int):∃b:UInt8,IntKind.wrap .u8 z=(b.toNat:Int):=by
 refine⟨UInt8.ofNat (z%256).toNat,?_⟩;rw[(by simp[IntKind.wrap,IntKind.bits,IntKind.signed]:IntKind.wrap .u8 z=z%256),UInt8.toNat_ofNat'];omega
def Apn (o:AS h N 5 1 v n (Ay bs)) (b:UInt8) (a:N<=h.nx) (hb:n+1<=1000000000):
 ∃v' J,Bx Ax .append [62,62] [v,sL h.nx 1 1] (BN h 5 [.int .u8 (b.toNat:Int)])=I (v',J)/\AS J N 5 1 v' (n+1) (Ay (bs++[b]))/\B0 (BY v) h J/\(∀i,BY v' i->BY v i\/h.nx<=i):=by
 rw[Ee];exact Tz Kq o B B a hb
def bsB (b:UInt8) (h:Y):Bs Ax 62 1 [(0,.int .u8 (b.toNat:Int))] h=I (sL h.nx 1 1,BN h 5 [.int .u8 (b.toNat:Int)]):=
 Iv (k:=1) Kq (.int .u8 (b.toNat:Int)) B B Jq h
def Grw (h:Y) (v v':Aa):Prop:=∀i,BY v' i->BY v i\/h.nx<=i
def AS.len {e:Ai} (o:AS h N e 1 v n xs):n=xs.length:=by have:=o.1;omega
def Apv (u:Base S L) (o:AS h N 5 1 v n (Ay bs)) (hN:N<=h.nx) (r:Rd h lv 1 m (ws.map λx:Nat=>AL .u64 x)) (y:∀i,BY lv i->¬BY v i)
 (z:sz<=8) (hw:∀x∈ws,x<18446744073709551616) (hm:m<=1000000) (hn:n<=100000000):
 Bk S L 1 255 [v,Vi sz,lv] h λw J=>∃t:Bl,t.length=n+sz*m/\AS J N 5 1 w (n+sz*m) (Ay t)/\B0 (BY v) h J/\Grw h v w:=
 Cn f255 u λd aa hL=>by
  obtain⟨C,p,l,rfl,D,E,F⟩:=r;have H:Rd h (.slice p m l) 1 m (ws.map λx:Nat=>AL .u64 x):=⟨C,p,l,B,D,E,F⟩;have ab:ws.length=m:=Gq;refine⟨λf A a=>∃(k:Nat) (cv:Aa) (cs:Bl),A=[(0,cv),(1,Vi sz),(10,.slice p m l),(11,Vi m),(12,Vi k)]/\k<=m/\f=m-k/\cs.length=n+sz*k/\
   AS a N 5 1 cv (n+sz*k) (Ay cs)/\B0 (BY v) h a/\Grw h v cv,
   ⟨_,_,Sq,?_,0,v,bs,B,Al _,B,?_,o,(AA.refl h).ae _,λi U=>.inl U⟩,?_⟩
  .omega
  .have:=o.len;rw[A7] at this;simp[this]
  rintro f A a ⟨k,cv,cs,rfl,K,rfl,q,g,b,c⟩ M;apply Bz<;>intro e
  .have ad:=G
   let⟨a1,y1,O,_,P⟩:=(H.ae b y).at_ G
   cases O;have Q:(ws.map λx:Nat=>AL .u64 x)[k]?=I (.int .u64 (ws.getD k 0:Nat)):=Gq;have ae:=Cj z K;refine⟨G,_,Rd.ld P B (by show _*1=_;omega) Q,λf A a=>∃(j:Nat) (cv:Aa) (cs:Bl),A=[(0,cv),(1,Vi sz),(8,.int .u64 (ws.getD k 0:Nat)),(9,Vi j),(10,.slice (I a1) m l),(11,Vi m),(12,Vi k)]/\j<=sz/\f=sz-j/\cs.length=n+sz*k+j/\
    AS a N 5 1 cv (n+sz*k+j) (Ay cs)/\B0 (BY v) h a/\Grw h v cv,
    ⟨_,_,Sq,?_,0,cv,cs,B,Al _,B,q,g,b,c⟩,?_⟩
   .omega
   rintro f A a ⟨j,cv,cs,rfl,hj,rfl,q,g,b,c⟩ M;apply Bz<;>intro e
   .let⟨s,R⟩:=DH (DN .u64 (ws.getD k 0:Nat) (8*(j:Int)))
    have af:=b.nx
    let⟨v',h2,T,V,W,X⟩:=Apn g s G G
    refine⟨Pq,G,_,.inr R.symm,_,_,bsB s a,_,_,T,Pq,_,_,Sq,?_,j+1,v',cs++[s],B,G,B,Jq,V,?_,?_⟩
    .omega
    .exact b.then W c
    .intro i U
     rcases X i U with h|h
     .exact c i h
     .right;omega
   .obtain rfl:j=sz:=G
    refine⟨Pq,_,_,Sq,?_,k+1,cv,cs,B,G,B,?_,?_,b,c⟩
    .omega
    .rw[EG];omega
    .rw[show n+j*(k+1)=n+j*k+j by rw[EG];omega];exact g
  .obtain rfl:k=m:=G
   exact⟨cs,q,g,b,c⟩
def NR (a b:Int):∃y:Nat,y<18446744073709551616/\JP .u64 a b=(y:Int):=by
 refine⟨(JP .u64 a b).toNat,?_,?_⟩<;>(unfold JP;rw[G8];omega)
def CY {bs:Bl} {k:Nat} (a:k<bs.length):(Ay bs)[k]?=I (.int .u8 ((bs.getD k 0).toNat:Int)):=by
 unfold Ay;rw[AX,Ak,Ab a];rfl
def Pd (b:UInt8):b.toNat<256:=b.toNat_lt
def PD (bs:Bl):Nat->Int
 |0=>0
 |k+1=>JP .u64 (PD bs k) (Es .u64 ((bs.getD k 0).toNat:Int) (8*(k:Int)))
def Ri (bs:Bl) (k:Nat):0<=PD bs k/\PD bs k<18446744073709551616:=by
 cases k with
 |zero=>exact⟨Int.le_refl _,by show(0:Int)<_;omega⟩
 |
  succ k=>
  let⟨y,h1,a⟩:=NR (PD bs k) (Es .u64 ((bs.getD k 0).toNat:Int) (8*(k:Int)))
  rw[PD,a];omega
def Aql (j:Base S L) {h:Y} {v:Aa} {n:Nat} {bs:Bl} (r:Rd h v 1 n (Ay bs)) (t:n<=100000000):
 Bk S L 1 263 [v] h λw J=>w=.int .u64 (PD bs n)/\J=h:=
 Cn f263 j λd u x=>by
  obtain⟨c,a,b,rfl,l,m,o⟩:=r;have p:Rd h (.slice a n b) 1 n (Ay bs):=⟨c,a,b,B,l,m,o⟩;have z:bs.length=n:=by rw[A7] at c;omega
  refine⟨λf A g=>g=h/\∃(k:Nat) (y:Int),A=[(3,.int .u64 y),(6,.slice a n b),(7,Vi n),(8,Vi k)]/\k<=n/\f=n-k/\y=PD bs k,
   ⟨_,_,Sq,?_,B,0,0,B,Al _,B,B⟩,?_⟩
  .omega
  rintro f A g ⟨rfl,k,y,rfl,C,rfl,rfl⟩ D;apply Bz<;>intro e
  .let⟨a1,E,q,_,s⟩:=p.at_ G
   cases q;have hb:=Pd (bs.getD k 0);refine⟨G,_,Rd.ld s B (i:=k) (by show _*1=_;omega) (CY G),_,.inl Pq,Pq,G,Pq,?_⟩;refine⟨_,_,Sq,?_,B,k+1,_,B,G,B,B⟩;omega
  .obtain rfl:k=n:=G
   exact⟨B,B⟩
def Adk (a:Base S L) {h:Y} {v w:Aa} {n m:Nat} {bs cs:Bl} (r:Rd h v 1 n (Ay bs)) (q:Rd h w 1 m (Ay cs)):Bk S L 1 110 [v,w] h λu J=>u=.bool (bs==cs)/\J=h:=
 Cn f110 a λd f _=>by
  have b:=FB (τ:=Ax) (s:=62) (d:=9) Kq r;have e:=FB (τ:=Ax) (s:=62) (d:=9) Kq q;obtain⟨_,A,c,rfl,_⟩:=r;obtain⟨_,g,i,rfl,_⟩:=q;refine⟨_,b,_,e,_,B,?_,B⟩;show CU (Gp _ _)=_;rw[J0]
def Akb (m:Base S L) {h:Y} {b:Nat} {l:List Bool} (o:Du h b l):Bk S L 2 184 [AG b 0] h λw J=>AA h J/\∃bs:Bl,bs.length<=300000/\AS J h.nx 5 1 w bs.length (Ay bs):=
 Cn f184 m λd q hL=>by
  let⟨v1,ws,w0,r,w2,w3⟩:=o.2.2.1
  let⟨v2,k0,K⟩:=o.2.2.2
  have aw:=o.len;have ax:ws.length=(l.length+63)/64:=by have:=r.1;simpa using this
  have b1:=Iv (τ:=Ax) (t:=274) (e:=213) (k:=1) Kq (.int .u64 (l.length:Int)) B B (by decide) h.ad;have M:=AA.row h.ad 213 [.int .u64 (l.length:Int)];have s:=Own.row h.ad 213 [.int .u64 (l.length:Int)]
  let⟨a,u⟩:∃a,a=BN h.ad 213 [.int .u64 (l.length:Int)]:=⟨_,B⟩
  have af:Bs Ax 274 1 [(0,.int .u64 (l.length:Int))] h.ad=I (sL h.nx 1 1,a):=by rw[u];exact b1
  rw[←u] at M s;rw[BF] at s;clear b1 u;have O:AA h (h.aa a):=M.aa
  let⟨g,hg⟩:∃g,g=h.aa a:=⟨_,B⟩
  have ow:Own (h.aa a) h.nx 213 [.int .u64 (l.length:Int)]:=s.aa;have ag:Rd (h.aa a).ad (sL h.nx 1 1) 1 1 ([l.length].map λx:Nat=>AL .u64 x):=by
   have:AS (h.aa a) h.nx 213 1 (sL h.nx 1 1) 1 [.int .u64 (l.length:Int)]:=⟨B,.inr ⟨h.nx,1,[],B,Ae _,Ae _,B,ow⟩⟩;exact this.rd
  refine⟨_,B,?_⟩;refine⟨[.w 11],Kq,_,ld B o.c0,_,.inl Pq,_,_,af,?_⟩;refine⟨_,Apv (h:=(h.aa a).ad) (N:=(h.aa a).nx) (bs:=[]) (sz:=4) (n:=0) m (AS.nil _ _ _ _) (Ae _) ag (λ_ _ h=>h) G (by simp;omega) G G d q,?_⟩;rintro P f ⟨Q,q1,v,R,q4⟩;refine⟨R.ag λ_ h=>h,?_⟩;have T:B0 (BY (sN)) (h.aa a) ((h.aa a).aa f):=R.aa;have y:AA h ((h.aa a).aa f):=O.then T λ_ h=>h.elim
  have V:AS ((h.aa a).aa f) (h.aa a).nx 5 1 P (0+4*1) (Ay Q):=v.aa;have z:=O.nx;have W:=T.nx;have ah:=r.ext y;have ai:=w0.ext y;have aj:∀i,BY v1 i->¬BY P i:=λi U c=>by
   have X:=r.aw i U;have z2:=v.ai i c;omega
  refine⟨_,ld B ai,?_⟩;refine⟨_,Apv (h:=((h.aa a).aa f).ad) (N:=(h.aa a).nx) (bs:=Q) (sz:=8) (n:=4) m V W ah aj G w2 G G d q,?_⟩;rintro o2 h3 ⟨ak,r1,r2,C,r4⟩;refine⟨C.dw V,?_⟩;have D:AA h (((h.aa a).aa f).aa h3):=y.then C.aa λi U=>Ao z (v.ai i U)
  have al:AS (((h.aa a).aa f).aa h3) (h.aa a).nx 5 1 o2 (4+8*((l.length+63)/64)) (Ay ak):=r2.aa;have am:=k0.ext D;have ay:=K.ext D;obtain⟨hr,E,F,rfl,an,ao,hA⟩:=K;have az:4+8*((l.length+63)/64)<=140000:=G;refine⟨_,ld B am,?_⟩;refine⟨λμ A c=>∃(k:Nat) (cv:Aa) (cs:Bl),A=[(3,cv),(23,.slice E (((l.length+63)/64+7)/8) F),(24,Vi ((((l.length+63)/64+7)/8:Nat):Int)),(25,Vi k)]/\k<=((l.length+63)/64+7)/8/\μ=((l.length+63)/64+7)/8-k/\
   AS c (h.aa a).nx 5 1 cv (4+8*((l.length+63)/64)+4*k) (Ay cs)/\AA h c/\(h.aa a).nx<=c.nx,
   ⟨_,_,Sq,?_,0,_,_,B,Al _,B,al,D,Ao W C.aa.nx⟩,?_⟩
  .omega
  rintro μ A c ⟨k,cv,cs,rfl,hk,rfl,f1,f2,f3⟩ a0;apply Bz<;>intro e
  .have kk:=(show Rd h (.slice E (((l.length+63)/64+7)/8) F) 1 _ _ from⟨hr,E,F,B,an,ao,hA⟩).ext f2
   let⟨a1,y1,e9,_,p1⟩:=kk.at_ G
   cases e9;have a2:(l.take (512*k)).count Ag<=1048576:=Ao HM (by simp;omega);have ap:((BG (((l.length+63)/64+7)/8)).map λg=>Vi ((l.take (512*g)).count Ag:Nat))[k]?=I (Vi ((l.take (512*k)).count Ag:Nat)):=by
    rw[AX,Jj G];rfl
   have b2:=Iv (τ:=Ax) (t:=274) (e:=213) (k:=1) Kq (.int .u64 ((l.take (512*k)).count Ag:Nat)) B B (by decide) c;have p:=AA.row c 213 [.int .u64 ((l.take (512*k)).count Ag:Nat)];have aa:=Own.row c 213 [.int .u64 ((l.take (512*k)).count Ag:Nat)]
   let⟨j,ab⟩:∃j,j=BN c 213 [.int .u64 ((l.take (512*k)).count Ag:Nat)]:=⟨_,B⟩
   have aq:Bs Ax 274 1 [(0,.int .u64 ((l.take (512*k)).count Ag:Nat))] c=I (sL c.nx 1 1,j):=by rw[ab];exact b2
   rw[←ab] at p aa;have ar:Rd j (sL c.nx 1 1) 1 1 ([(l.take (512*k)).count Ag].map λx:Nat=>AL .u64 x):=by
    have:AS j c.nx 213 1 (sL c.nx 1 1) 1 [.int .u64 ((l.take (512*k)).count Ag:Nat)]:=⟨B,.inr ⟨c.nx,1,[],B,Ae _,Ae _,B,aa⟩⟩;exact this.rd
   have au:=f1.ext p;have a3:=f2.nx;have ad:(h.aa a).nx<=j.nx:=Ao f3 p.nx;refine⟨G,_,Rd.ld p1 B (i:=k) (by show _*1=_;omega) ap,_,.inl Pq,_,_,aq,?_⟩;refine⟨_,Apv (sz:=4) m au ad ar (λi U av=>by have:=f1.aw i av;have:i=c.nx:=U;omega) G (by simp;omega) G G d q,?_⟩;rintro o5 h5 ⟨bs5,t1,t2,t3,t4⟩;refine⟨Pq,_,_,Sq,?_,k+1,o5,bs5,B,G,B,?_,?_,Ao ad t3.nx⟩
   .omega
   .rw[show 4+8*((l.length+63)/64)+4*(k+1)=4+8*((l.length+63)/64)+4*k+4*1 by omega];exact t2
   .exact(f2.trans p).then t3 λi U=>Ao z (f1.ai i U)
  .refine⟨f2,cs,?_,?_⟩
   .have:=f1.len;rw[A7] at this;omega
   .have ae:=f1.len
    rw[A7] at ae;rw[←ae]
    let⟨y1,H⟩:=f1
    refine⟨y1,?_⟩;rcases H with H|⟨b',c',sp,X,z2,z3⟩
    .exact .inl H
    .exact .inr ⟨b',c',sp,X,Ao z z2,z3⟩
def Lh (ws:Bo) (y:Nat):List Bool:=(BG y).map λi=>(ws.getD (i/64) 0).testBit (i%64)
def Ahc {ws:Bo} {y:Nat} (a:ws.length=(y+63)/64) (hb:∀x∈ws,x<18446744073709551616):TX (Lh ws y) ws:=by
 have e:(Lh ws y).length=y:=by simp[Lh]
 refine⟨by rw[e];exact a,hb,λi U=>?_⟩;rw[e] at U;have b:(Lh ws y)[i]?=I ((ws.getD (i/64) 0).testBit (i%64)):=by rw[Lh,AX,Jj U];rfl
 rw[Ak (l:=Lh ws y),b];rfl
def Zo {d:Nat} {z:Int} {n:Nat} (h:z=n):RO d (I (Vi z))=I n:=by
 subst h;rfl
def Awb (g:Base S L) {h:Y} {v:Aa} {n:Nat} {bs:Bl} (r:Rd h v 1 n (Ay bs)) (hn:n<=100000000):
 Bk S L 4 197 [v] h λw J=>AA h J/\(w=.tuple #[.pointer Z,Vi 5]\/∃p l,h.nx<=p/\w=.tuple #[AG p 0,Vi 0]/\Du J p l):=
 Cn f197 g λd av hL=>by
  obtain⟨hr,q,s,rfl,af,ag,hA⟩:=r;have D:Rd h (.slice q n s) 1 n (Ay bs):=⟨hr,q,s,B,af,ag,hA⟩;have aw:bs.length=n:=by rw[A7] at hr;omega
  apply Bz<;>intro e
  .exact⟨AA.refl h,.inl B⟩
  let⟨v4,s1,Q,s3⟩:=D.slice (τ:=Ax) (t:=62) Kq (lo:=Z) (U:=I (Vi 4)) (l:=0) (m:=4) B B G G
  rw[Qg,Ajb,BJ,Ez] at Q;have ad:CN h (C7 Ax 62 (.slice q n s) Z (I (Vi 4)) Z)=I (v4,h):=by rw[s1];rfl
  have ny:=Ri (bs.take 4) 4;refine⟨_,_,ad,_,Aql g Q G d G,?_⟩;rintro _ h ⟨rfl,rfl⟩;apply Bz<;>intro e2
  .exact⟨AA.refl _,.inl B⟩
  refine⟨_,_,ad,_,Aql g Q G d G,?_⟩;rintro _ h ⟨rfl,rfl⟩
  let⟨y,hy⟩:∃y:Nat,PD (bs.take 4) 4=y:=⟨(PD (bs.take 4) 4).toNat,G⟩
  have R:PD (bs.take 4) (4-0)=y:=hy;have ah:y<=1048576:=by rw[R] at e2;omega
  let⟨h1,b1,x1,o1,n1⟩:=H1 Ax 356 (.agg #[Vi y,sN,sN]) h
  have ae:Own h1 h.nx 356 [Vi y,sN,sN]:=o1;refine⟨_,.inl ⟨by rw[R];exact⟨by omega,by omega⟩,R.symm⟩,_,_,b1,_,ld B (ae.cell (i:=0) B),Pq,⟨G,G,G,G⟩,Pq,Pq,?_⟩;apply Bz<;>intro e3
  .exact⟨x1,.inl B⟩
  refine⟨λμ A a=>∃(k:Nat) (ws:Bo) (o:Aa),A=[(0,.slice q n s),(4,AG h.nx 0),(5,Vi (((y+63)/64:Nat):Int)),(34,Vi (((y+63)/64:Nat):Int)),(35,Vi k)]/\k<=(y+63)/64/\μ=(y+63)/64-k/\
   ws.length=k/\(∀x∈ws,x<18446744073709551616)/\AA h a/\Own a h.nx 356 [Vi y,o,sN]/\AS a h1.nx 213 1 o k (ws.map λx:Nat=>AL .u64 x),
   ⟨_,_,Sq,?_,0,[],_,B,Al _,B,B,(by simp),x1,ae,AS.nil _ _ _ _⟩,?_⟩
  .omega
  rintro μ A a ⟨k,ws,o,rfl,hk,rfl,T,V,E,F,H⟩ ax;apply Bz<;>intro e
  .have ay:k<(y+63)/64:=G
   have rk:Rd a.ad (.slice q n s) 1 n (Ay bs):=D.ext (E.trans (AA.ad a))
   let⟨v5,s4,W,s6⟩:=rk.slice (τ:=Ax) (t:=62) Kq (lo:=I (Vi (4+8*(k:Int)))) (U:=I (Vi (12+8*(k:Int)))) (l:=4+8*k) (m:=12+8*k) (Zo G) (Zo G) G G
   rw[BJ,BJ,EA,Ez,show 12+8*k-(4+8*k)=8 by omega] at W;have ai:CN a.ad (C7 Ax 62 (.slice q n s) (I (Vi (4+8*(k:Int)))) (I (Vi (12+8*(k:Int)))) Z)=I (v5,a.ad):=by rw[s4];rfl
   let⟨C,aj⟩:∃C,C=(bs.drop (4+8*k)).take 8:=⟨_,B⟩
   rw[←aj] at W;have nz:=Ri C 8
   let⟨z,hz⟩:∃z:Nat,PD C 8=z:=⟨(PD C 8).toNat,G⟩
   have K:AA a (a.aa a.ad):=(AA.refl a.ad).aa;have ak:=H.ext K;have al:h1.nx<=(a.aa a.ad).nx:=by have:=E.nx;have:=F.1;have:=K.nx;omega
   let⟨M,z1,z2,v',J,z3,X,z5,z6⟩:=Aef (τ:=Ax) (st:=274) (t2:=274) (e:=213) (k:=1) Kq ak (ys:=[.int .u64 z]) B B al G
   have z0:Bs Ax 274 1 [(0,.int .u64 z)] (a.aa a.ad).ad=I (sL ((a.aa a.ad).nx) 1 1,M):=by
    rw[←z1];exact Iv (τ:=Ax) (t:=274) (e:=213) (k:=1) Kq (.int .u64 z) B B (by decide) (a.aa a.ad).ad
   refine⟨[],Kq,_,ld B (F.cell (i:=1) B),Pq,Pq,Pq,Pq,_,_,ai,_,Aql g W G d G,?_⟩;rintro _ _ ⟨rfl,rfl⟩;rw[hz];refine⟨B,_,_,z0,_,_,z3,?_⟩;have c5:=z5.aa;have N:∀i,BY o i->h1.nx<=i:=λi U=>H.ai i U;have am:=((F.ext K).ext z2).ae c5 (λU=>by have:=N _ U;omega)
   let⟨h3,t5,t6,t7⟩:=Own.st (h:=(((a.aa a.ad).aa M).aa J).ad) (τ:=Ax) (t:=274) B (i:=1) (v:=v') am (by show 1<3;decide) (D5 X)
   refine⟨_,t5,Pq,?_⟩;have az:z<18446744073709551616:=G;have an:AS (((a.aa a.ad).aa M).aa J) h1.nx 213 1 v' (k+1) _:=X.aa;have ao:∀i,BY v' i->i≠h.nx:=λi U=>by have:=X.ai i U;omega
   have ap:AA h ((((a.aa a.ad).aa M).aa J).aa h3):=(((E.trans K).trans z2).then c5 λi U=>by have:=N i U;omega).ah t7.aa (Ae _)
   refine⟨_,_,Sq,?_,k+1,ws++[z],v',B,G,B,by simp[T],?_,ap,t6.aa,?_⟩
   .omega
   .intro x c
    rcases List.mem_append.1 c with c|c
    .exact V x c
    .simp at c;omega
   .rw[BS]
    exact an.ah t7.aa ao
  .obtain rfl:k=(y+63)/64:=G
   have e9:(Lh ws y).length=y:=by simp[Lh]
   have N:∀i,BY o i->h1.nx<=i:=λi U=>H.ai i U;have aa:Rd a o 1 ws.length (ws.map λx:Nat=>AL .u64 x):=by rw[T];exact H.rd
   have ab:∀i,BY o i->i≠h.nx:=λi U=>by have:=N i U;omega
   refine cl (Avh g F aa ab V G) ?_;rintro _ b ⟨rfl,k1,cv,k2,k3⟩;have c:AA h b:=E.then k1 (λi U=>by rw[U];omega)
   have u:Du b h.nx (Lh ws y):=by
    refine Afv (by rw[e9];exact ah) (Ahc T V) (by rw[e9];exact k2) (aa.ae k1 ab) k3.rd
   have aq:=aa.ae k1 ab;have ar:Cell b h.nx 1 o:=k2.cell B;refine⟨[],Kq,_,ld B u.c0,G,Ad (λO=>?_) (λO=>?_)⟩
   ·
    have O:¬(y:Int)%64=0:=by rw[e9] at O;simpa using O
    obtain⟨a1,y1,rfl,_,q1⟩:=aq.at_ G;have au:(ws.map λx:Nat=>AL .u64 x)[(y+63)/64-1]?=I (.int .u64 (ws.getD ((y+63)/64-1) 0:Nat)):=by
     rw[AX,Ak,Ab G];rfl
    refine⟨_,ld B ar,Pq,G,_,Rd.ld q1 B (i:=(y+63)/64-1) (by show _*1=_;omega) au,_,ld B u.c0,G,G,?_⟩;apply Ad<;>intro P
    .exact⟨c,.inl B⟩
    .skip
     refine cl (Akb (h:=b.ad) g u) ?_;rintro o5 j ⟨f,bs5,l5,r5⟩;refine⟨f.ag,_,Adk (h:=(b.aa j).ad) g (r5.aa (h:=b)).rd (D.ext ((c.trans f.aa).trans (AA.ad _))) d G,?_⟩;rintro _ _ ⟨rfl,rfl⟩;refine⟨B,_,_,B,Ad (λP=>?_) (λP=>?_)⟩
     .exact⟨c.trans (f.aa.trans (AA.refl (b.aa j).ad).aa),.inl B⟩
     .exact⟨c.trans (f.aa.trans (AA.refl (b.aa j).ad).aa),.inr ⟨h.nx,Lh ws y,Ae _,B,u.ext (f.aa.trans (AA.refl (b.aa j).ad).aa)⟩⟩
   .skip
    refine cl (Akb (h:=b.ad) g u) ?_;rintro o5 j ⟨f,bs5,l5,r5⟩;refine⟨f.ag,_,Adk (h:=(b.aa j).ad) g (r5.aa (h:=b)).rd (D.ext ((c.trans f.aa).trans (AA.ad _))) d G,?_⟩;rintro _ _ ⟨rfl,rfl⟩;refine⟨B,_,_,B,Ad (λP=>?_) (λP=>?_)⟩
    .exact⟨c.trans (f.aa.trans (AA.refl (b.aa j).ad).aa),.inl B⟩
    .exact⟨c.trans (f.aa.trans (AA.refl (b.aa j).ad).aa),.inr ⟨h.nx,Lh ws y,Ae _,B,u.ext (f.aa.trans (AA.refl (b.aa j).ad).aa)⟩⟩
def E1 (ws:Bo) (w i:Nat):Int:=
 if w=0 then 0 else
 let v:=DN .u64 (ws.getD (i*w/64) 0:Nat) ((i*w%64:Nat):Int)
 let v:=if i*w%64+w<=64 then v else JP .u64 v (Es .u64 (ws.getD (i*w/64+1) 0:Nat) (UX 64 ((i*w%64:Nat):Int)))
 D8 .u64 v (UX (Es .u64 1 (w:Int)) 1)
def FM (ws:Bo) (w i:Nat):0<=E1 ws w i/\E1 ws w i<18446744073709551616:=by
 unfold E1;split
 .omega
 .show 0<=D8 .u64 _ _/\D8 .u64 _ _<_
  unfold D8;rw[G8];omega
def BX (h:Y) (b n w:Nat) (ws:Bo):Prop:=Cell h b 0 (.int .i64 n)/\Cell h b 1 (.int .i64 w)/\n<=1048576/\w<=64/\(∃a,Cell h b 2 a/\Rd h a 1 ws.length (ws.map λx:Nat=>AL .u64 x))/\ws.length=(n*w+63)/64/\∀x∈ws,x<18446744073709551616
def BX.ext {w:Nat} (p:BX h b n w ws) (e:AA h J):BX J b n w ws:=by
 let⟨a,c,d,f,⟨g,i,j⟩,k⟩:=p
 exact⟨a.ext e,c.ext e,d,f,⟨g,i.ext e,j.ext e⟩,k⟩
def G5 (a:k<ws.length):(ws.map λx:Nat=>AL .u64 x)[k]?=I (.int .u64 (ws.getD k 0:Nat)):=by
 rw[AX,Ak,Ab a];rfl
def Aqv (l:Base S L) {w:Nat} (p:BX h b n w ws) (U:i<n):
 Bk S L 1 199 [AG b 0,Vi i] h λv J=>v=.int .u64 (E1 ws w i)/\J=h:=
 Cn f199 l λd x _=>by
  let⟨y,a,o,q,⟨z,c,r⟩,s,A⟩:=p
  have C:(i+1)*w<=n*w:=Ci w G;have D:(i+1)*w=i*w+w:=Gq;have E:=Cj o q
  let⟨m,f⟩:∃m,m=i*w:=⟨_,B⟩
  have em:(i:Int)*(w:Int)=(m:Int):=Gq;refine⟨_,ld B a,?_⟩;apply Bz<;>intro e
  .have:w=0:=G
   subst this;exact⟨by rw[E1,Bi B];rfl,B⟩
  have g:w≠0:=G;refine⟨[],Kq,_,ld B a,⟨by rw[em];omega,by rw[em];omega⟩,?_⟩;rw[em];have t:m/64<ws.length:=Gq;obtain⟨a1,F,rfl,_,j⟩:=r.at_ G;have k:(m:Int)%64=((m%64:Nat):Int):=G;refine⟨⟨G,G,G,G⟩,_,ld B a,⟨by rw[em];omega,by rw[em];omega⟩,?_⟩;rw[em];refine⟨G,_,.inl Pq,_,ld B c,G,_,Rd.ld j B (by show((m:Int)/64).toNat*1=_;omega) (G5 t),G,_,.inl Pq,_,ld B a,Pq,?_⟩;apply Bz<;>intro H
  .have u:m/64+1<ws.length:=by rw[s];omega
   refine⟨_,ld B c,Pq,G,_,Rd.ld j B (by show((m:Int)/64+1).toNat*1=_;omega) (G5 u),(by rw[T0 Pq];omega),_,ld B a,_,.inl Pq,G,?_,B⟩;rw[E1,Bm g,←f];simp only[];rw[Bm G,←k];rfl
  .refine⟨_,ld B a,_,.inl Pq,G,?_,B⟩
   rw[E1,Bm g,←f];simp only[];rw[Bi G,←k];rfl
def K3 (a:Base S L) (p:Cell h b 0 (Vi n)):Bk S L 1 120 [AG b 0] h λv J=>v=Vi n/\J=h:=
 Cn f120 a λd c _=>by
  refine⟨_,B,_,ld B p,B,B⟩
def ZZ (a:Base S L) {w:Nat} (p:BX h b n w ws) {i:Int}:
 Bk S L 2 121 [AG b 0,Vi i] h λv J=>v=.tuple #[.int .u64 (if 0<=i/\i<n then E1 ws w i.toNat else 0),.bool (decide (0<=i/\i<n))]/\J=h:=
 Cn f121 a λd f _=>by
  apply Bz<;>intro e
  .rw[Bm G,decide_eq_false G]
   exact⟨B,B⟩
  refine GZ (K3 a p.1 d G) ?_;apply Bz<;>intro g
  .rw[Bm G,decide_eq_false G]
   exact⟨B,B⟩
  obtain⟨k,rfl⟩:∃k:Nat,i=k:=⟨i.toNat,G⟩;refine GZ (Aqv a p G d G) ?_;have c:0<=(k:Int)/\(k:Int)<(n:Int):=G;refine⟨?_,B⟩;rw[Bi c,decide_eq_true c];rfl
def W4 (a b:Int):Nat:=(JP .u64 a b).toNat
def Xu (a b:Int):JP .u64 a b=(W4 a b:Int):=by
 let⟨y,_,h⟩:=NR a b
 rw[W4,h];rfl
def Afj (a b:Int):W4 a b<18446744073709551616:=by
 let⟨y,h1,h⟩:=NR a b
 rw[W4,h];exact h1
def Qr (ws:Bo) (w i:Nat) (v:Int):Bo:=
 if w=0 then ws else
 let a:=ws.set (i*w/64) (W4 (ws.getD (i*w/64) 0:Nat) (Es .u64 v ((i*w%64:Nat):Int)))
 if i*w%64+w<=64 then a else a.set (i*w/64+1) (W4 (a.getD (i*w/64+1) 0:Nat) (DN .u64 v (UX 64 ((i*w%64:Nat):Int))))
def WN (ws:Bo) (w i:Nat) (v:Int):(Qr ws w i v).length=ws.length:=by
 unfold Qr;split
 .rfl
 .simp[]
  split<;>simp
def TS (h:∀x∈ws,x<18446744073709551616) (k:Nat) (a b:Int):∀x∈ws.set k (W4 a b),x<18446744073709551616:=by
 intro x c;rcases BT c with c|rfl
 .exact h x c
 .exact Afj _ _
def Akp (w i:Nat) (v:Int) (h:∀x∈ws,x<18446744073709551616):∀x∈Qr ws w i v,x<18446744073709551616:=by
 unfold Qr;split
 .exact h
 .simp[]
  split
  .exact TS h _ _ _
  .exact TS (TS h _ _ _) _ _ _
def Azu (H:Base S L) {a w:Nat} (g:Cell h b 1 (Vi w)) (q:Cell h b 2 (sL a ws.length ws.length)) (o:Own h a 213 (ws.map λx:Nat=>AL .u64 x)) (r:b≠a)
 (K:n<=1048576) (M:w<=64) (O:ws.length=(n*w+63)/64) (U:i<n) {v:Int}:
 Bk S L 1 241 [AG b 0,Vi i,.int .u64 v] h λu J=>u=.tuple #[]/\B0 (·=a) h J/\Own J a 213 ((Qr ws w i v).map λx:Nat=>AL .u64 x):=
 Cn f241 H λd P _=>by
  have Q:(i+1)*w<=n*w:=Ci w G;have R:(i+1)*w=i*w+w:=Gq;have T:=Cj K M
  let⟨m,l⟩:∃m,m=i*w:=⟨_,B⟩
  have em:(i:Int)*(w:Int)=(m:Int):=by rw[l];simp
  refine⟨_,ld B g,?_⟩;apply Bz<;>intro e
  .have:w=0:=G
   subst this;exact⟨B,(AA.refl h).ae _,by rw[Qr,Bi B];exact o⟩
  have s:w≠0:=G;refine⟨[],Kq,_,ld B g,⟨by rw[em];omega,by rw[em];omega⟩,?_⟩;rw[em];have y:m/64<ws.length:=Gq;have z:(m:Int)%64=((m%64:Nat):Int):=G;refine⟨⟨G,G,G,G⟩,_,ld B g,⟨by rw[em];omega,by rw[em];omega⟩,?_⟩;rw[em];have A:0+((m:Int)/64).toNat*t213.size=m/64:=by show 0+_*1=_;omega
  have C:0+((m:Int)/64+1).toNat*t213.size=m/64+1:=by show 0+_*1=_;omega
  obtain⟨D,N,f,j⟩:=Own.st (τ:=Ax) (t:=213) B (v:=.int .u64 (W4 (ws.getD (m/64) 0:Nat) (Es .u64 v ((m:Int)%64)):Nat)) o (by simpa using y) B;refine⟨G,_,.inl Pq,_,ld B q,G,_,(by rw[A];exact ld B (o.cell (G5 y)):Bw Ax 213 h a (0+((m:Int)/64).toNat*t213.size)=I (.int .u64 (ws.getD (m/64) 0:Nat))),G,G,D,(by rw[A,Xu];exact N),?_⟩;rw[(λk x=>by rw[Cp]:∀k x,(ws.map λx:Nat=>AL .u64 x).set k (.int .u64 (x:Nat))=(ws.set k x).map λx:Nat=>AL .u64 x)] at f;refine⟨_,.inl Pq,_,ld B (g.ah j r),Pq,?_⟩;apply Bz<;>intro V
  .let⟨c,E⟩:∃c,c=ws.set (m/64) (W4 (ws.getD (m/64) 0:Nat) (Es .u64 v ((m:Int)%64))):=⟨_,B⟩
   rw[←E] at f;have F:m/64+1<c.length:=Gq;obtain⟨hb,t5,t6,t7⟩:=Own.st (τ:=Ax) (t:=213) B (v:=.int .u64 (W4 (c.getD (m/64+1) 0:Nat) (DN .u64 v (UX 64 ((m:Int)%64))):Nat)) f (by simpa using F) B;refine⟨_,ld B (q.ah j r),Pq,G,_,(by rw[C];exact ld B (f.cell (G5 F)):Bw Ax 213 D a (0+((m:Int)/64+1).toNat*t213.size)=I (.int .u64 (c.getD (m/64+1) 0:Nat))),(by rw[T0 Pq];omega),G,hb,(by rw[C,Xu];exact t5),B,j.ae.trans t7.ae,?_⟩;have p:Qr ws w i v=c.set (m/64+1) (W4 (c.getD (m/64+1) 0:Nat) (DN .u64 v (UX 64 ((m:Int)%64)))):=by
    rw[Qr,Bm s,←l];simp only[];rw[Bm G,←z,←E]
   rw[p,Cp];exact t6
  .refine⟨B,j.ae,?_⟩
   have p:Qr ws w i v=ws.set (m/64) (W4 (ws.getD (m/64) 0:Nat) (Es .u64 v ((m:Int)%64))):=by
    rw[Qr,Bm s,←l];simp only[];rw[Bi G,←z]
   rw[p];exact f
def bl (x:Nat):Nat:=if x=0 then 0 else Nat.log2 x+1
def Anz (s:Bd):Bool:=Am s.size 256&&(BG 256).all λi=>Am (Cv s i).toNat (bl i)
def FW (a:Anz s=Ag) (b:x<256):((x:Nat):Int)<(s.size:Int):=by
 have:=Af (An ..▸a:_/\_).1;omega
def Hc (b:Anz s=Ag) (c:x<256) {a:Int} {v:Nat} (d:(v:Int)=a+(bl x:Nat)):Vi (a+((Cv s ((x:Nat):Int).toNat).toNat:Nat))=Vi (v:Nat):=by
 have:=Af (List.all_eq_true.1 ((An ..▸b:_/\_).2:(BG 256).all (λi=>Am (Cv s i).toNat (bl i))=Ag) x (List.mem_range.2 c));rw[d,←this];rfl
def Pe (a:x<256):bl x<=8:=by
 unfold bl;split
 .omega
 .have:=(Nat.log2_lt (k:=8) (by assumption)).2 a
  omega
def bl1 (a x:Nat):Nat:=if 256<=x then a+8+bl (x/2^8) else a+bl x
def bl2 (a x:Nat):Nat:=if 65536<=x then bl1 (a+16) (x/2^16) else bl1 a x
def bitLen (x:Nat):Nat:=if 4294967296<=x then bl2 32 (x/2^32) else bl2 0 x
def G2 (b:UInt8):(b.toNat:Int)<=9223372036854775807:=by have:=Pd b;omega
def Lu (b:UInt8) {a:Int} (h:a<=1000):a+(b.toNat:Int)<=9223372036854775807:=by have:=Pd b;omega
def Awc (k:Base S L) (n:x<18446744073709551616):Bk S L 1 240 [.int .u64 x] h λv J=>v=Vi (bitLen x)/\bitLen x<=64/\J=h:=
 Cn f240 k λd o _=>by
  apply Bz<;>intro p
  .let⟨e,g⟩:∃y,y=x/2^32:=⟨_,B⟩
   refine⟨G,?_⟩;rw[(by rw[g];exact Fo B G:DN .u64 (x:Int) 32=(e:Int))];apply Bz<;>intro l
   .let⟨b,f⟩:∃y,y=e/2^16:=⟨_,B⟩
    have m:DN .u64 (e:Int) 16=(b:Int):=by rw[f];exact Fo B G
    refine⟨G,?_⟩;rw[m];refine⟨Jq,?_⟩;apply Bz<;>intro j
    .let⟨a,c⟩:∃y,y=b/2^8:=⟨_,B⟩
     have i:DN .u64 (b:Int) 8=(a:Int):=by rw[c];exact Fo B G
     refine⟨G,?_⟩;rw[i];have hb:=Pe (x:=a) G;have ev:bitLen x=56+bl (a):=by rw[bitLen,Bi G,←g,bl2,Bi G,←f,bl1,Bi G,←c]
     refine⟨Pq,_,.inl Pq,⟨G,FW Kq G⟩,_,.inl ⟨⟨G,G2 _⟩,B⟩,⟨G,Lu _ G⟩,Hc Kq G (by rw[ev];push_cast;omega),G,B⟩
    .have hb:=Pe (x:=b) G
     have ev:bitLen x=48+bl (b):=by rw[bitLen,Bi G,←g,bl2,Bi G,←f,bl1,Bm G]
     refine⟨_,.inl Pq,⟨G,FW Kq G⟩,_,.inl ⟨⟨G,G2 _⟩,B⟩,⟨G,Lu _ G⟩,Hc Kq G (by rw[ev];push_cast;omega),G,B⟩
   .apply Bz<;>intro j
    .let⟨a,c⟩:∃y,y=e/2^8:=⟨_,B⟩
     have i:DN .u64 (e:Int) 8=(a:Int):=by rw[c];exact Fo B G
     refine⟨G,?_⟩;rw[i];have hb:=Pe (x:=a) G;have ev:bitLen x=40+bl (a):=by rw[bitLen,Bi G,←g,bl2,Bm G,bl1,Bi G,←c]
     refine⟨Pq,_,.inl Pq,⟨G,FW Kq G⟩,_,.inl ⟨⟨G,G2 _⟩,B⟩,⟨G,Lu _ G⟩,Hc Kq G (by rw[ev];push_cast;omega),G,B⟩
    .have hb:=Pe (x:=e) G
     have ev:bitLen x=32+bl (e):=by rw[bitLen,Bi G,←g,bl2,Bm G,bl1,Bm G]
     refine⟨_,.inl Pq,⟨G,FW Kq G⟩,_,.inl ⟨⟨G,G2 _⟩,B⟩,⟨G,Lu _ G⟩,Hc Kq G (by rw[ev];push_cast;omega),G,B⟩
  .apply Bz<;>intro l
   .let⟨b,f⟩:∃y,y=x/2^16:=⟨_,B⟩
    refine⟨G,?_⟩;rw[(by rw[f];exact Fo B G:DN .u64 (x:Int) 16=(b:Int))];refine⟨Jq,?_⟩;apply Bz<;>intro j
    .let⟨a,c⟩:∃y,y=b/2^8:=⟨_,B⟩
     have i:DN .u64 (b:Int) 8=(a:Int):=by rw[c];exact Fo B G
     refine⟨G,?_⟩;rw[i];have hb:=Pe (x:=a) G;have ev:bitLen x=24+bl (a):=by rw[bitLen,Bm G,bl2,Bi G,←f,bl1,Bi G,←c]
     refine⟨Pq,_,.inl Pq,⟨G,FW Kq G⟩,_,.inl ⟨⟨G,G2 _⟩,B⟩,⟨G,Lu _ G⟩,Hc Kq G (by rw[ev];push_cast;omega),G,B⟩
    .have hb:=Pe (x:=b) G
     have ev:bitLen x=16+bl (b):=by rw[bitLen,Bm G,bl2,Bi G,←f,bl1,Bm G]
     refine⟨_,.inl Pq,⟨G,FW Kq G⟩,_,.inl ⟨⟨G,G2 _⟩,B⟩,⟨G,Lu _ G⟩,Hc Kq G (by rw[ev];push_cast;omega),G,B⟩
   .apply Bz<;>intro j
    .let⟨a,c⟩:∃y,y=x/2^8:=⟨_,B⟩
     refine⟨G,?_⟩;rw[(by rw[c];exact Fo B G:DN .u64 (x:Int) 8=(a:Int))];have hb:=Pe (x:=a) G;have ev:bitLen x=8+bl (a):=by rw[bitLen,Bm G,bl2,Bm G,bl1,Bi G,←c]
     refine⟨Pq,_,.inl Pq,⟨G,FW Kq G⟩,_,.inl ⟨⟨G,G2 _⟩,B⟩,⟨G,Lu _ G⟩,Hc Kq G (by rw[ev];push_cast;omega),G,B⟩
    .have hb:=Pe (x:=x) G
     have ev:bitLen x=0+bl (x):=by rw[bitLen,Bm G,bl2,Bm G,bl1,Bm G]
     refine⟨_,.inl Pq,⟨G,FW (x:=x) Kq G⟩,_,.inl ⟨⟨G,G2 _⟩,B⟩,⟨G,Lu _ G⟩,Hc (x:=x) Kq G (by rw[ev];push_cast;omega),G,B⟩
def Hz (l:Bo):Nat->Nat
 |0=>0
 |k+1=>W4 (Hz l k:Nat) (l.getD k 0:Nat)
def Aip (l:Bo):∀k,Hz l k<18446744073709551616
 |0=>by show 0<_;omega
 |k+1=>Afj _ _
def H2 (l:Bo) (w:Nat):Nat->Bo
 |0=>AE ((l.length*w+63)/64) 0
 |k+1=>Qr (H2 l w k) w k (l.getD k 0:Nat)
def HK (l:Bo) (w:Nat):∀k,(H2 l w k).length=(l.length*w+63)/64
 |0=>by simp[H2]
 |k+1=>by rw[H2,WN];exact HK l w k
def Vy (l:Bo) (w:Nat):∀k,∀x∈H2 l w k,x<18446744073709551616
 |0=>λx a=>by rw[CH a];omega
 |k+1=>Akp _ _ _ (Vy l w k)
def Fl (h:Y) (N b:Nat):Prop:=N<=b/\∀v,Cell h b 2 v->∀i,BY v i->N<=i
def BX.fr {w:Nat} (p:BX h b n w ws) (g:Fl h N b) (c:B0 W h J) (a:∀i,W i->i<N):BX J b n w ws:=by
 obtain⟨f,j,k,l,⟨d,e,m⟩,o⟩:=p;have hb:¬W b:=λh=>by have:=a b h;have:=g.1;omega
 exact⟨f.ae c hb,j.ae c hb,k,l,⟨d,e.ae c hb,m.ae c λi U q=>by have:=a i q;have:=g.2 d e i U;omega⟩,o⟩
def BX.aa {w:Nat} (p:BX J b n w ws):BX (h.aa J) b n w ws:=by
 obtain⟨a,c,d,e,⟨f,g,i⟩,j⟩:=p;exact⟨a.aa,c.aa,d,e,⟨f,g.aa,i.aa⟩,j⟩
def Fl.aa (v:Fl J N b):Fl (h.aa J) N b:=by
 unfold Fl Cell;rw[CL,DF];exact v
def Aqg (u:Base S L) {l:Bo} (r:Rd h v 1 l.length (l.map λx:Nat=>AL .u64 x)) (hb:∀x∈l,x<18446744073709551616) (hl:l.length<=9223372036854775807):
 Bk S L 2 172 [v] h λw J=>AA h J/\(1048576<l.length/\w=.tuple #[.pointer Z,Vi 2]\/l.length<=1048576/\∃b,h.nx<=b/\w=.tuple #[AG b 0,Vi 0]/\BX J b l.length (bitLen (Hz l l.length)) (H2 l (bitLen (Hz l l.length)) l.length)/\Fl J h.nx b):=
 Cn f172 u λd ae hL=>by
  obtain⟨Q,g,j,rfl,R,T,V⟩:=r;have F:Rd h (.slice g l.length j) 1 l.length (l.map λx:Nat=>AL .u64 x):=⟨Q,g,j,B,R,T,V⟩;apply Bz<;>intro e
  .exact⟨AA.refl h,.inl ⟨G,B⟩⟩
  have o:l.length<=1048576:=G;refine⟨λn A a=>a=h/\∃k:Nat,A=[(0,.slice g l.length j),(4,.int .u64 (Hz l k:Nat)),(13,.slice g l.length j),(14,Vi l.length),(15,Vi k)]/\k<=l.length/\n=l.length-k,
   ⟨_,_,Sq,?_,B,0,B,Al _,B⟩,?_⟩
  .omega
  rintro n A a ⟨rfl,k,rfl,W,rfl⟩ X;apply Bz<;>intro e
  .obtain⟨a1,y1,y,_,C⟩:=F.at_ G
   cases y;refine⟨G,_,Rd.ld C B (i:=k) (by show _*1=_;omega) (G5 G),Pq,_,_,Sq,?_,B,k+1,B,G,B⟩;omega
  obtain rfl:k=l.length:=G;refine cl (Awc u (Aip l l.length)) ?_;rintro _ h ⟨rfl,p,rfl⟩;obtain⟨w,aa⟩:∃w,w=bitLen (Hz l l.length):=⟨_,B⟩;rw[←aa] at p⊢;obtain⟨h1,e1,x1,o1,n1⟩:=H1 Ax 319 (.agg #[Vi l.length,Vi w,sN]) h;have D:=o1;have h4:=Cj o p;obtain⟨m,H⟩:∃m,m=l.length*w:=⟨_,B⟩;have em:(l.length:Int)*(w:Int)=(m:Int):=Gq;obtain⟨q,e2,x2,K,n2⟩:=MA (τ:=Ax) (t:=274) (z:=.int .u64 0) Kq Kq B ((m+63)/64) G .i64 .i64 h1.ad;refine⟨_,_,e1,[],Kq,_,ld B (D.cell B),_,ld B (D.cell B),⟨by rw[em];omega,by rw[em];omega⟩,?_⟩;rw[em];refine⟨Pq,⟨G,G,G,G⟩,?_⟩;rw[(G:((m:Int)+63)/64=(((m+63)/64:Nat):Int))];refine⟨_,_,e2,?_⟩;rw[BF] at K n2;have M:=x2.aa;have ab:=D.ext M;obtain⟨N,s5,s6,O⟩:=Own.st (h:=(h1.aa q).ad) (τ:=Ax) (t:=274) B (v:=sL h1.nx ((m+63)/64) ((m+63)/64)) ab (by show 2<3;decide) B;have o3:=(K.aa:Own (h1.aa q) h1.nx 213 (AE ((m+63)/64) (.int .u64 0))).ah O.aa G;have s:∀k,(H2 l w k).length=(m+63)/64:=λk=>by rw[HK,H]
  refine⟨_,s5,λn A a=>∃k:Nat,A=[(7,AG h.nx 0),(44,.slice g l.length j),(45,Vi l.length),(46,Vi k)]/\k<=l.length/\n=l.length-k/\AA h a/\
   Own a h.nx 319 [Vi l.length,Vi w,sL h1.nx ((m+63)/64) ((m+63)/64)]/\Own a h1.nx 213 ((H2 l w k).map λx:Nat=>AL .u64 x),
   ⟨_,_,Sq,?_,0,B,Al _,B,((x1.trans M).ah O.aa (Ae _):AA h ((h1.aa q).aa N)),(s6.aa:Own ((h1.aa q).aa N) h.nx 319 [Vi l.length,Vi w,sL h1.nx ((m+63)/64) ((m+63)/64)]),?_⟩,?_⟩
  .omega
  .rw[H2,KD,←H];exact o3
  rintro n A a ⟨k,rfl,W,rfl,E,f,P⟩ X;apply Bz<;>intro e
  .have ad:k<l.length:=G
   obtain⟨a1,y1,y,_,C⟩:=(F.ext E).at_ G;cases y;refine⟨G,_,Rd.ld C B (i:=k) (by show _*1=_;omega) (G5 G),_,Azu u (f.cell B) (by rw[s];exact f.cell B:Cell a h.nx 2 (sL h1.nx (H2 l w k).length (H2 l w k).length)) P G o p (by rw[HK]) ad d G,?_⟩;rintro _ h5 ⟨rfl,t1,t2⟩;refine⟨Pq,_,_,Sq,?_,k+1,B,G,B,E.then t1 (λi U=>by rw[U];omega),f.ae t1 G,t2⟩
   omega
  .obtain rfl:k=l.length:=G
   refine⟨E,.inr ⟨o,h.nx,Ae _,B,⟨f.cell B,f.cell B,o,p,⟨_,f.cell B,?_⟩,by rw[HK],Vy _ _ _⟩,Ae _,λv c i U=>?_⟩⟩;rotate_left
   .obtain rfl:=c.inj (f.cell B)
    have:i=h1.nx:=U;omega
   have:AS a h1.nx 213 1 (sL h1.nx ((m+63)/64) ((m+63)/64)) (H2 l w l.length).length ((H2 l w l.length).map λx:Nat=>AL .u64 x):=
    ⟨by simp,.inr ⟨h1.nx,_,[],by rw[s],Ae _,by rw[s];exact Ae _,by simp[s],by simpa using P⟩⟩
   exact this.rd
abbrev nb (h:Y):Y:=h.aa h.ad
def AT (x:AA h0 h):AA h0 (nb h):=x.trans (AA.refl h.ad).aa
def bs5 (a b c d e:Int) (h:Y):Bs Ax 62 5 [(0,.int .u8 a),(1,.int .u8 b),(2,.int .u8 c),(3,.int .u8 d),(4,.int .u8 e)] h=
 I (sL h.nx 5 5,BN h 5 [.int .u8 a,.int .u8 b,.int .u8 c,.int .u8 d,.int .u8 e]):=by
 rfl
def Apt (M:Base S L) {w:Nat} (p:BX h b n w ws):Bk S L 1 180 [AG b 0] h λv J=>AA h J/\∃bs:Bl,bs.length<=10000000/\AS J h.nx 5 1 v bs.length (Ay bs):=
 Cn f180 M λd ag hL=>by
  obtain⟨a,E,N,O,⟨v1,P,Q⟩,R,p8⟩:=p;have h4:=Cj N O;obtain⟨m,T⟩:∃m,m=n*w:=⟨_,B⟩;have em:(n:Int)*(w:Int)=(m:Int):=Gq;obtain⟨c,V⟩:=DH (n:Int);obtain⟨f,W⟩:=DH (DN .i64 (n:Int) 8);obtain⟨j,aa⟩:=DH (DN .i64 (n:Int) 16);obtain⟨l,ab⟩:=DH (DN .i64 (n:Int) 24);obtain⟨o,ad⟩:=DH (w:Int);have F:=AT (AT (AT (AT (AT (AA.refl h)))));obtain⟨X,x⟩:∃X,X=nb (nb (nb (nb (nb h)))):=⟨_,B⟩;rw[←x] at F;have q:=F.trans (AA.row X.ad 5 [.int .u8 c.toNat,.int .u8 f.toNat,.int .u8 j.toNat,.int .u8 l.toNat,.int .u8 o.toNat]).aa;have s:=(Own.row X.ad 5 [.int .u8 c.toNat,.int .u8 f.toNat,.int .u8 j.toNat,.int .u8 l.toNat,.int .u8 o.toNat]).aa (h:=X);have z:=bs5 c.toNat f.toNat j.toNat l.toNat o.toNat X.ad;rw[BF,(by rw[x];simp[nb,CL,BF]:X.nx=h.nx)] at s z;obtain⟨g,hg⟩:∃g,g=BN X.ad 5 [.int .u8 c.toNat,.int .u8 f.toNat,.int .u8 j.toNat,.int .u8 l.toNat,.int .u8 o.toNat]:=⟨_,B⟩;rw[←hg] at q s z;subst x;refine⟨_,B,[],Kq,_,ld B a,_,.inr V.symm,_,ld B a,G,_,.inr W.symm,_,ld B a,G,_,.inr aa.symm,_,ld B a,G,_,.inr ab.symm,_,ld B E,_,.inr ad.symm,_,_,z,?_⟩;have ae:=a.ext q;have af:=E.ext q;refine⟨[],Kq,_,ld B ae,_,ld B af,⟨by rw[em];omega,by rw[em];omega⟩,?_⟩;rw[em];refine⟨Pq,⟨G,G,G,G⟩,?_⟩;rw[(G:((m:Int)+7)/8=(((m+7)/8:Nat):Int))];obtain⟨C,D⟩:∃C,C=(nb (nb (nb (nb (nb h))))).aa g:=⟨_,B⟩;rw[←D] at q s;refine⟨λH A t=>∃(k:Nat) (cv:Aa) (cs:Bl),A=[(0,AG b 0),(3,cv),(46,Vi ((m+7)/8:Nat)),(47,Vi k)]/\k<=(m+7)/8/\H=(m+7)/8-k/\
   AS t h.nx 5 1 cv (5+k) (Ay cs)/\AA h t,
   ⟨_,_,Sq,?_,0,_,_,B,Al _,B,(D▸(⟨B,.inr ⟨h.nx,5,[],B,Ae _,Ae _,B,s⟩⟩:AS C h.nx 5 1 (sL h.nx 5 5) (5+0) (Ay [c,f,j,l,o]))),(D▸q)⟩,?_⟩
  .omega
  rintro H A t ⟨k,cv,cs,rfl,hk,rfl,u,r⟩ ah;apply Bz<;>intro e
  .have hq:k/8<ws.length:=by rw[R,←T];omega
   obtain⟨a1,z1,e9,_,q1⟩:=(Q.ext r).at_ G;cases e9;obtain⟨y,hy⟩:=DH (DN .u64 (ws.getD (k/8) 0:Nat) ((k:Int)%8*8));obtain⟨v',J,t1,t2,t3,t4⟩:=Apn u y r.nx G;refine⟨_,ld B (P.ext r),⟨G,G,G,G⟩,G,_,Rd.ld q1 B (by show((k:Int)/8).toNat*1=_;omega) (G5 hq),G,Pq,_,.inl Pq,G,_,.inr hy.symm,_,_,bsB y t,_,_,t1,Pq,_,_,Sq,?_,k+1,v',_,B,G,B,t2,r.then t3 λi U=>u.ai i U⟩
   omega
  .have K:=u.len
   rw[A7] at K;refine⟨r,cs,G,?_⟩;rw[←K];exact u
def AGg (a:Base S L) {b1 c w:Nat} {x:Int} (p:BX h b n w ws) (e:Cell h b1 0 (AG b 0)) (f:Cell h c 0 (.int .u64 x)) {i:Int} (U:0<=i/\i<n):
 Bk S L 2 265 [Vi i,AG b1 0,AG c 0] h λv J=>v=.bool (decide (x<=E1 ws w i.toNat))/\J=h:=
 Cn f265 a λd g _=>by
  obtain⟨k,rfl⟩:∃k:Nat,i=k:=⟨i.toNat,G⟩;refine⟨[],Kq,_,ld B e,GZ (Aqv (h:=h.ad) a p G d G) ?_⟩;exact⟨B,_,ld B f,B,B⟩
def ACz (a:Base S L) {w:Nat} {x:Int} (p:BX h b n w ws):
 Bk S L 4 200 [AG b 0,.int .u64 x] h λv J=>AA h J/\∃z:Nat,v=Vi z/\z<=n/\(0<z->E1 ws w (z-1)<x)/\(z<n->x<=E1 ws w z):=
 Cn f200 a λd y _=>by
  have A:=p.2.2.1;obtain⟨h1,k,l,o,C⟩:=H1 Ax 125 (AG b 0) h;obtain⟨c,q,e,r,D⟩:=H1 Ax 213 (.int .u64 x) h1;have f:Cell c h.nx 0 (AG b 0):=(o.ext e).cell B;have s:Cell c h1.nx 0 (.int .u64 x):=r.cell B;have g:=l.trans e;have j:=p.ext g;refine⟨_,_,k,_,_,q,_,ld B f,GZ (K3 a j.1 d G) ?_⟩;refine cl (Aup a G ⟨265,#[],#[AG h.nx 0,AG h1.nx 0],B,λi h0 h1=>AGg a j f s ⟨h0,h1⟩⟩) ?_;rintro _ _ ⟨rfl,z,rfl,E,F,t,u⟩;obtain⟨m,rfl⟩:∃m:Nat,z=m:=Jq;refine⟨g,m,B,G,λh0=>?_,λh0=>?_⟩
  .have:=KK (t G)
   rw[show((m:Int)-1).toNat=m-1 by omega] at this;omega
  .have:=Fp (u G)
   exact this
def Oj {a b:Nat} (c:a<4294967296) (hb:b<4294967296):JP .i64 (a:Int) (b:Int)=((a|||b:Nat):Int)/\a|||b<4294967296:=by
 have d:a|||b<2^32:=Zz c hb;refine⟨?_,d⟩;unfold JP;have e:(BitVec.ofInt IntKind.i64.bits (a:Int)|||BitVec.ofInt IntKind.i64.bits (b:Int)).toNat=a|||b:=by
  rw[BitVec.toNat_or];have f:(BitVec.ofInt IntKind.i64.bits (a:Int)).toNat=a:=by
   show(BitVec.ofInt 64 (a:Int)).toNat=a;rw[BitVec.toNat_ofInt];omega
  have g:(BitVec.ofInt IntKind.i64.bits (b:Int)).toNat=b:=by
   show(BitVec.ofInt 64 (b:Int)).toNat=b;rw[BitVec.toNat_ofInt];omega
  rw[f,g]
 rw[e];exact FC Pq
def LY {a n:Nat} {z:Int} (b:z=n) (c:n<=24) (d:a<256):Es .i64 (a:Int) z=((a*2^n:Nat):Int)/\a*2^n<4294967296:=by
 have h1:2^n<=2^24:=Na G c;have f:a*2^n<=255*2^24:=Cj G h1;refine⟨?_,G⟩;subst b;unfold Es;have e:min ((n:Int)).toNat IntKind.i64.bits=n:=by show min n 64=n;omega
 rw[e];have:(a:Int)*2^n=((a*2^n:Nat):Int):=by push_cast;rfl
 rw[this];exact FC Pq
def Fl.to {h J:Y} {M N b n w:Nat} {ws:Bo} (g:Fl h N b) (p:BX h b n w ws) (x:AA h J) (a:M<=N):Fl J M b:=
 ⟨Ao a g.1,λv y i U=>Ao a (g.2 v (by obtain⟨_,y⟩:=y;rw[x.t b p.1.1] at y;exact⟨p.1.1,y⟩) i U)⟩
def Awa (C:Base S L) {h:Y} {v:Aa} {a:Nat} {bs:Bl} (r:Rd h v 1 a (Ay bs)) (hn:a<=100000000):
 Bk S L 3 119 [v] h λw J=>AA h J/\(w=.tuple #[.pointer Z,Vi 5]\/∃p n wd ws,h.nx<=p/\w=.tuple #[AG p 0,Vi 0]/\BX J p n wd ws/\Fl J h.nx p):=
 Cn f119 C λd ba hL=>by
  obtain⟨hr,A0,D,rfl,aq,ar,hA⟩:=r;have rr:Rd h (.slice A0 a D) 1 a (Ay bs):=⟨hr,A0,D,B,aq,ar,hA⟩;have bb:bs.length=a:=by rw[A7] at hr;omega
  apply Bz<;>intro e
  .exact⟨AA.refl h,.inl B⟩
  obtain⟨a1,y1,e9,_,E⟩:=rr.at_ G;cases e9;have hb:=λk=>Pd (bs.getD k 0);obtain⟨s1,l1⟩:=LY (z:=8) (n:=8) B G (hb 1);obtain⟨s2,l2⟩:=LY (z:=16) (n:=16) B G (hb 2);obtain⟨s3,l3⟩:=LY (z:=24) (n:=24) B G (hb 3);obtain⟨t1,m1⟩:=Oj (by have:=hb 0;omega:(bs.getD 0 0).toNat<4294967296) l1;obtain⟨t2,m2⟩:=Oj m1 l2;obtain⟨t3,m3⟩:=Oj m2 l3;refine⟨[],Kq,G,_,Rd.ld E B (i:=0) (by rfl) (CY G),_,.inl ⟨⟨G,G2 _⟩,B⟩,
   G,_,Rd.ld E B (i:=1) (by rfl) (CY G),_,.inl ⟨⟨G,G2 _⟩,B⟩,G,?_⟩
  refine⟨G,_,Rd.ld E B (i:=2) (by rfl) (CY G),_,.inl ⟨⟨G,G2 _⟩,B⟩,G,?_⟩;refine⟨G,_,Rd.ld E B (i:=3) (by rfl) (CY G),_,.inl ⟨⟨G,G2 _⟩,B⟩,G,?_⟩;have xX:AA h (nb (nb (nb (nb (nb h))))):=AT (AT (AT (AT (AT (AA.refl h)))));obtain⟨X,hX⟩:∃X,X=nb (nb (nb (nb (nb h)))):=⟨_,B⟩;have au:X.nx=h.nx:=by rw[hX];simp only[nb,CL,BF]
  rw[←hX] at xX;obtain⟨n,ag⟩:∃n,n=(bs.getD 0 0).toNat|||(bs.getD 1 0).toNat*2^8|||(bs.getD 2 0).toNat*2^16|||(bs.getD 3 0).toNat*2^24:=⟨_,B⟩;obtain⟨w,hw⟩:∃w,w=(bs.getD 4 0).toNat:=⟨_,B⟩;have bc:w<256:=by rw[hw];exact hb 4
  have eN:JP .i64 (JP .i64 (JP .i64 ((bs.getD 0 0).toNat:Int) (Es .i64 ((bs.getD 1 0).toNat:Int) 8)) (Es .i64 ((bs.getD 2 0).toNat:Int) 16)) (Es .i64 ((bs.getD 3 0).toNat:Int) 24)=(n:Int):=by
   rw[s1,t1,s2,t2,s3,t3,ag]
  rw[←ag] at m3;obtain⟨g,b1,x1,o1,n1⟩:=H1 Ax 319 (.agg #[Vi n,Vi w,sN]) X.ad;rw[BF,au] at b1 o1;have P:=xX.trans x1.aa;have Q:Own (X.aa g) h.nx 319 [Vi n,Vi w,sN]:=o1.aa;clear o1 n1 x1;subst hX;have ah:K7 Ax 319 (.agg #[Vi (JP .i64 (JP .i64 (JP .i64 ((bs.getD 0 0).toNat:Int) (Es .i64 ((bs.getD 1 0).toNat:Int) 8)) (Es .i64 ((bs.getD 2 0).toNat:Int) 16)) (Es .i64 ((bs.getD 3 0).toNat:Int) 24)),Vi ((bs.getD 4 0).toNat:Nat),sN]) (nb (nb (nb (nb (nb h))))).ad=I (AG h.nx 0,g):=by rw[eN,←hw];exact b1
  refine⟨G,_,Rd.ld E B (i:=4) (by rfl) (CY G),_,.inl ⟨⟨G,G2 _⟩,B⟩,_,_,ah,?_⟩;clear ah b1;have cn:=Q.cell (i:=0) B;have cw:=Q.cell (i:=1) B;refine⟨[],Kq,_,ld B cn,Bz (λe1=>?_) (λe1=>?_)⟩
  .exact⟨P,.inl B⟩
  have ai:n<=1048576:=G;refine⟨_,ld B cw,Bz (λe2=>?_) (λe2=>?_)⟩
  .exact⟨P,.inl B⟩
  have aj:w<=64:=G;have h4:n*w<=1048576*64:=Cj ai aj;obtain⟨m,hm⟩:∃m,m=n*w:=⟨_,B⟩;have em:(n:Int)*(w:Int)=(m:Int):=by rw[hm];simp
  refine⟨_,ld B cn,_,ld B cw,⟨by rw[em];omega,by rw[em];omega⟩,?_⟩;rw[em];refine⟨Pq,⟨G,G,G,G⟩,Pq,Ad (λe3=>?_) (λe3=>?_)⟩
  .exact⟨P,.inl B⟩
  have e3:(a:Int)=5+((m:Int)+7)/8:=by simpa using e3
  have av:((m:Int)+63)/64=(((m+63)/64:Nat):Int):=G;obtain⟨c,R⟩:∃c,c=(nb (nb (nb (nb (nb h))))).aa g:=⟨_,B⟩;have aw:h.nx<c.nx:=by rw[R];exact Q.1
  obtain⟨F,e4,x2,o2,n2⟩:=MA (τ:=Ax) (t:=274) (e:=213) (z:=.int .u64 0) Kq Kq B ((m+63)/64) G .i64 .i64 c.ad;rw[BF] at o2 e4;have ak:AA c (c.aa F):=x2.aa;have al:Own (c.aa F) c.nx 213 (AE ((m+63)/64) (.int .u64 0)):=o2.aa;have am:=(R▸Q:Own c h.nx 319 _).ext ak;obtain⟨h3,s5,s6,s7⟩:=Own.st (h:=(c.aa F).ad) (τ:=Ax) (t:=274) B (i:=2) (v:=sL c.nx ((m+63)/64) ((m+63)/64)) am (by show 2<3;decide) B;have an:Own ((c.aa F).aa h3) h.nx 319 [Vi n,Vi w,sL c.nx ((m+63)/64) ((m+63)/64)]:=s6.aa;have o3:=al.ah s7.aa G;have x3:AA h ((c.aa F).aa h3):=((R▸P:AA h c).trans ak).ah s7.aa (Ae _);obtain⟨j,ax⟩:∃j,j=c.nx:=⟨_,B⟩;rw[←ax] at e4 s5 an o3 aw;clear o2 n2 al s6 s7 am;subst R;refine⟨[],Kq,_,ld B cn,_,ld B cw,⟨by rw[em];omega,by rw[em];omega⟩,?_⟩;rw[em];refine⟨Pq,⟨G,G,G,G⟩,?_⟩;rw[av];refine⟨_,_,e4,_,s5,?_⟩;obtain⟨v5,r4,r5,r6⟩:=rr.slice (τ:=Ax) (t:=62) Kq (lo:=I (Vi 5)) (U:=Z) (l:=5) (m:=a) B B G G;rw[BJ,BJ,EA,Ez] at r5;obtain⟨cs,ad⟩:∃cs,cs=(bs.drop 5).take (a-5):=⟨_,B⟩;rw[←ad] at r5;have bd:cs.length=a-5:=by rw[ad];simp;omega
  clear ad r6;obtain⟨ay,K,M,rfl,az,a0,a2⟩:=r5;have a3:∀H,CN H (C7 Ax 62 (.slice (I a1) a D) (I (Vi 5)) Z Z)=I (.slice K (a-5) M,H):=λH=>by rw[r4];rfl
  refine⟨_,_,a3 _,?_⟩;refine⟨λN A b=>∃(k:Nat) (ws:Bo),A=[(0,.slice (I a1) a D),(4,AG h.nx 0),(87,.slice K (a-5) M),(88,Vi (a-5:Nat)),(89,Vi k)]/\k<=a-5/\N=a-5-k/\ws.length=(m+63)/64/\(∀x∈ws,x<18446744073709551616)/\AA h b/\
   Own b h.nx 319 [Vi n,Vi w,sL j ((m+63)/64) ((m+63)/64)]/\Own b j 213 (ws.map λx:Nat=>AL .u64 x),
   ⟨_,_,Sq,?_,0,AE ((m+63)/64) 0,B,Al _,B,by simp,λx o=>by rw[CH o];omega,x3,an,by rw[KD];exact o3⟩,?_⟩
  .omega
  rintro N A b ⟨k,ws,rfl,hk,rfl,u,ao,T,s,V⟩ a4;apply Bz<;>intro e
  .have rv:Rd b (.slice K (a-5) M) 1 (a-5) (Ay cs):=(show Rd h (.slice K (a-5) M) 1 (a-5) (Ay cs) from⟨ay,K,M,B,az,a0,a2⟩).ext T
   obtain⟨be,z2,e9,_,q2⟩:=rv.at_ G;cases e9;have hq:k/8<ws.length:=by rw[u];omega
   have bf:=Pd (cs.getD k 0);have W:0+((k:Int)/8).toNat*t213.size=k/8:=by show 0+_*1=_;omega
   have l1:Bw Ax 213 b j (0+((k:Int)/8).toNat*t213.size)=I (.int .u64 (ws.getD (k/8) 0:Nat)):=by rw[W];exact ld B (V.cell (G5 hq))
   obtain⟨y,hy⟩:∃y,y=W4 (ws.getD (k/8) 0:Nat) (Es .u64 ((cs.getD k 0).toNat:Int) ((k:Int)%8*8)):=⟨_,B⟩;obtain⟨h5,u5,O,u7⟩:=Own.st (h:=b) (τ:=Ax) (t:=213) B (i:=k/8) (v:=.int .u64 (y:Nat)) V (by simpa using hq) B;rw[←Cp] at O;refine⟨G,_,Rd.ld q2 B (i:=k) (by show _*1=_;omega) (CY G),_,ld B (s.cell (i:=2) B),⟨G,G,G,G⟩,G,_,l1,_,.inl Pq,G,Pq,_,.inl Pq,G,G,h5,(by rw[W,Xu,←hy];exact u5),Pq,?_⟩;refine⟨_,_,Sq,?_,k+1,_,B,G,B,?_,?_,?_,s.ah u7 G,O⟩
   .omega
   .simp[u]
   .rw[hy];exact TS ao _ _ _
   .exact T.ah u7 G
  obtain rfl:k=a-5:=G;obtain⟨h6,v1,v2,v3,v4⟩:=MA (τ:=Ax) (t:=274) (e:=213) (z:=.int .u64 0) Kq Kq B n G .i64 .i64 b;have bg:=s.1;have bh:=V.1;have y2:AA h h6:=T.trans v2;have pk:BX b h.nx n w ws:=by
   refine⟨s.cell B,s.cell B,ai,aj,⟨_,s.cell B,?_⟩,by rw[u,hm],ao⟩;have:AS b j 213 1 (sL j ((m+63)/64) ((m+63)/64)) ws.length (ws.map λx:Nat=>AL .u64 x):=
    ⟨by simp,.inr ⟨j,_,[],by rw[u],Ae _,by rw[u];exact Ae _,by simp[u],by simpa using V⟩⟩
   exact this.rd
  refine⟨_,ld B (s.cell (i:=0) B),_,_,v1,?_⟩;refine⟨λN A f=>∃(k:Nat) (l:Bo),A=[(0,.slice (I a1) a D),(4,AG h.nx 0),(7,sL b.nx n n),(118,Vi n),(119,Vi k)]/\k<=n/\N=n-k/\l.length=n/\(∀x∈l,x<18446744073709551616)/\B0 (·=b.nx) h6 f/\Own f b.nx 213 (l.map λx:Nat=>AL .u64 x),
   ⟨_,_,Sq,?_,0,AE n 0,B,Al _,B,by simp,λx o=>by rw[CH o];omega,(AA.refl _).ae _,by rw[KD];exact v3⟩,?_⟩
  .omega
  rintro N A f ⟨k,l,rfl,hk,rfl,aa,ap,f1,f2⟩ a4;have x7:AA b f:=v2.then f1 λi U=>by rw[U];omega
  apply Bz<;>intro e
  .have hz:=FM ws w k
   obtain⟨z,a5⟩:∃z:Nat,E1 ws w k=z:=⟨(E1 ws w k).toNat,G⟩;have W:0+((k:Int)).toNat*t213.size=k:=by show 0+_*1=_;omega
   obtain⟨h8,u5,O,u7⟩:=Own.st (h:=f) (τ:=Ax) (t:=213) B (i:=k) (v:=.int .u64 (z:Nat)) f2 (by simp;omega) B;rw[←Cp] at O;refine cl (Aqv C (pk.ext x7) (i:=k) G) ?_;rintro _ f ⟨rfl,rfl⟩;refine⟨G,h8,(by rw[W,a5];exact u5),Pq,?_⟩;refine⟨_,_,Sq,?_,k+1,_,B,G,B,?_,?_,f1.trans u7.ae,O⟩
   .omega
   .simp[aa]
   .intro x o
    rcases BT o with o|rfl
    .exact ap x o
    .omega
  obtain rfl:k=n:=G;have rl:Rd f (sL b.nx k k) 1 l.length (l.map λx:Nat=>AL .u64 x):=by
   have:AS f b.nx 213 1 (sL b.nx k k) l.length (l.map λx:Nat=>AL .u64 x):=
    ⟨by simp,.inr ⟨b.nx,_,[],by rw[aa],Ae _,by rw[aa];exact Ae _,by simp[aa],by simpa using f2⟩⟩
   exact this.rd
  have ab:AA h f:=T.trans x7;refine cl (Aqg C rl ap G) ?_;rintro o9 h9 ⟨x9,⟨_,rfl⟩|⟨_,q,w9,rfl,p9,a6⟩⟩
  .exact⟨ab.trans x9,.inl B⟩
  .have a7:=ab.trans x9
   refine cl (Apt C p9) ?_;rintro bi a8 ⟨ae,bj,bk,a9⟩;have af:=a7.trans ae;refine cl (Adk C a9.rd (rr.ext af)) ?_;rintro _ a8 ⟨rfl,rfl⟩;refine⟨_,_,B,Ad (λe5=>?_) (λe5=>?_)⟩
   .exact⟨af,.inl B⟩
   .exact⟨af,.inr ⟨q,_,_,_,Ao ab.nx w9,B,p9.ext ae,a6.to p9 ae ab.nx⟩⟩
def VG (z:Int):IntKind.wrap .u32 z=z%4294967296:=by simp[IntKind.wrap,IntKind.bits,IntKind.signed]
def T7 (a b:Int):∃y:Nat,y<4294967296/\Oe .u32 a b=(y:Int):=by
 refine⟨(Oe .u32 a b).toNat,?_,?_⟩<;>(unfold Oe;rw[VG];omega)
def Aoi (a:Int):∃y:Nat,y<16/\D8 .u32 a 15=(y:Int):=by
 refine⟨(BitVec.ofInt 32 a&&&BitVec.ofInt 32 15).toNat,?_,?_⟩
 .rw[BitVec.toNat_and]
  exact Ji Apg Jq
 .unfold D8
  rw[VG];show((BitVec.ofInt 32 a&&&BitVec.ofInt 32 15).toNat:Int)%4294967296=_;omega
def Zm (b:a<4294967296):∃y:Nat,y<4294967296/\DN .u32 (a:Int) 4=(y:Int):=by
 refine⟨a/16,G,?_⟩;show(a:Int).fdiv (2^4)=_;rw[Int.fdiv_eq_ediv_of_nonneg _ Jq];omega
def G3 (h:Y):Prop:=∀i,i<16->∃x:Nat,x<4294967296/\Cell h 5 i (.int .u32 x)
def G3.ext (q:G3 h) (e:AA h J):G3 J:=λi U=>by
 obtain⟨x,h1,a⟩:=q i U;exact⟨x,h1,a.ext e⟩
def ADs (u:Base S L) {s:Nat} (q:G3 h) (hs:s<4294967296) (r:Rd h v 1 n (Ay bs)) (hn:n<=100000000):
 Bk S L 1 256 [.int .u32 s,v] h λw J=>(∃x:Nat,x<4294967296/\w=.int .u32 x)/\J=h:=
 Cn f256 u λd ab hL=>by
  obtain⟨j,f,g,rfl,y,C,D⟩:=r;have E:Rd h (.slice f n g) 1 n (Ay bs):=⟨j,f,g,B,y,C,D⟩;have ad:bs.length=n:=by rw[A7] at j;omega
  refine⟨_,_,B,λm A a=>a=h/\∃(k x:Nat),A=[(5,.int .u32 x),(10,.slice f n g),(11,Vi n),(12,Vi k)]/\k<=n/\m=n-k/\x<4294967296,
   ⟨_,_,Sq,?_,B,0,_,B,Al _,B,?_⟩,?_⟩
  .omega
  .exact Je _ Jq
  rintro m A a ⟨rfl,k,x,rfl,hk,rfl,hx⟩ ae;apply Bz<;>intro e
  .obtain⟨a1,y1,F,_,H⟩:=E.at_ G
   cases F;have hb:=Pd (bs.getD k 0);obtain⟨K,M,i⟩:=T7 (x:Int) ((bs.getD k 0).toNat:Int);obtain⟨b,N,O⟩:=Aoi (K:Int);obtain⟨t1,af,P⟩:=q b N;obtain⟨Q,ag,o⟩:=Zm M;obtain⟨R,T,p⟩:=T7 (Q:Int) (t1:Int);obtain⟨c,V,W⟩:=Aoi (R:Int);obtain⟨t2,ah,X⟩:=q c V;obtain⟨w2,ai,e6⟩:=Zm T;obtain⟨t,aa,e7⟩:=T7 (w2:Int) (t2:Int);have f1:D8 .u32 (Oe .u32 (x:Int) ((bs.getD k 0).toNat:Int)) 15=(b:Int):=by rw[i,O]
   have f2:D8 .u32 (Oe .u32 (DN .u32 (Oe .u32 (x:Int) ((bs.getD k 0).toNat:Int)) 4) (t1:Int)) 15=(c:Int):=by rw[i,o,p,W]
   have l1:Bw Ax 301 a 5 (0+(D8 .u32 (Oe .u32 (x:Int) ((bs.getD k 0).toNat:Int)) 15).toNat*t301.size)=I (.int .u32 t1):=by
    rw[f1];show Bw Ax 301 a 5 (0+(b:Int).toNat*1)=_;rw[show 0+(b:Int).toNat*1=b by omega];exact ld B P
   have l2:Bw Ax 301 a 5 (0+(D8 .u32 (Oe .u32 (DN .u32 (Oe .u32 (x:Int) ((bs.getD k 0).toNat:Int)) 4) (t1:Int)) 15).toNat*t301.size)=I (.int .u32 t2):=by
    rw[f2];show Bw Ax 301 a 5 (0+(c:Int).toNat*1)=_;rw[show 0+(c:Int).toNat*1=c by omega];exact ld B X
   refine⟨G,_,Rd.ld H B (by show _*1=_;omega) (CY G),_,.inl ⟨⟨by omega,by omega⟩,B⟩,G,Jq,_,l1,G,Jq,_,l2,Pq,_,_,CG (l:=[(5,_),(10,_),(11,_),(12,_)]) ⟨Cs (λz=>I (AL .u32 z)) (show Oe .u32 (DN .u32 (Oe .u32 (DN .u32 (Oe .u32 (x:Int) ((bs.getD k 0).toNat:Int)) 4) (t1:Int)) 4) (t2:Int)=(t:Int) by rw[i,o,p,e6,e7]),B,B,B,trivial⟩,?_,B,k+1,t,B,G,B,aa⟩;omega
  .exact⟨_,_,B,⟨_,Je _ (by decide),B⟩,B⟩
def ADv (a:Base S L) (q:G3 h) (r:Rd h v 1 n (Ay bs)) (b:n<=100000000):
 Bk S L 2 187 [v] h λw J=>(∃x:Nat,x<4294967296/\w=.int .u32 x)/\J=h:=
 Cn f187 a λd e _=>by
  refine⟨_,ADs (s:=0) a q G r b d G,?_⟩;rintro _ h ⟨⟨x,c,rfl⟩,rfl⟩;exact⟨⟨x,c,B⟩,B⟩
def Rd.bu (r:Rd h v k n xs):MM v=I n:=by
 obtain⟨h1,A,c,rfl,d,b,e⟩:=r;cases A with
 |none=>
  have:=b B;subst this;have:n=0:=G;subst this;rfl
 |some a=>rfl
def Rd.src (r:Rd h v k n xs):MN k h v n=I xs:=by
 obtain⟨h1,A,c,rfl,i,d,e⟩:=r;cases A with
 |
  none=>
  have:=d B;subst this;have:n=0:=G;subst this;simp at h1;subst h1;rfl
 |
  some a=>
  obtain⟨j,l,m,o,lo,U,x,f,g⟩:=e a B;have b:=HQ g;rw[h1] at b;simp[MN,f,b]
def Fa (bs:Bl):(Ay bs).all one=true:=by
 rw[Jf];intro v a;obtain⟨b,_,rfl⟩:=List.mem_map.1 a;rfl
def Z0 (h:Y) (N:Nat) (e:Ai) (v:Aa) (n:Nat) (xs:AH):Prop:=
 (v=.slice Z 0 0/\n=0/\xs=[])\/∃b sp,v=.slice (I ⟨b,0,I 0⟩) n n/\N<=b/\xs.length=n/\Own h b e (xs++sp)
def ACe (g:Base S L) (r:Rd h v 1 n (Ay bs)) (l:n<=100000000):
 Bk S L 1 248 [v] h λw J=>AA h J/\AS J h.nx 5 1 w n (Ay bs):=
 Cn f248 g λd m _=>by
  obtain⟨h1,A,c,rfl,j,e,k⟩:=r;cases A with
  |
   none=>
   have:=e B;subst this;have:n=0:=G;subst this;rw[(by simpa using h1:Ay bs=[])];exact⟨_,B,AA.refl _,AS.nil _ _ _ _⟩
  |
   some a=>
   have r:Rd h (.slice (I a) n c) 1 n (Ay bs):=⟨h1,_,c,B,j,e,k⟩;have b:=AA.row h 5 [];have f:=r.ext b;have o:AS (BN h 5 []) h.nx 5 1 (sL h.nx 0 0) 0 []:=⟨B,.inr ⟨h.nx,0,[],B,Ae _,Ae _,B,Own.row h 5 []⟩⟩;obtain⟨v',J,t1,t2,t3,t4⟩:=UN Kq o f.bu f.src Jq (Fa bs) b.nx G;refine⟨_,B,_,_,B,_,_,t1,b.then t3 (λi U=>by have:i=h.nx:=U;omega),?_⟩
   rw[IW,Ba] at t2;exact t2
def ABf (e:Base S L) (o:AS h N 5 1 v n (Ay bs)) (k:n<=100000000):
 Bk S L 1 247 [v] h λw J=>Z0 h N 5 w n (Ay bs)/\J=h:=
 Cn f247 e λd l _=>by
  obtain⟨a,⟨rfl,rfl⟩|⟨b,c,sp,rfl,f,g,m,i⟩⟩:=o
  .have hb:Ay bs=[]:=by simpa using a
   refine⟨_,_,B,.inl ⟨B,B,hb⟩,B⟩
  .have j:C7 Ax 62 (sL b n c) Z (I (Vi n)) (I (Vi n))=I (.slice (I ⟨b,0,I 0⟩) n n):=by
    show(bif Ar 0 n&&Ar n n&&Ar n c then I (PA (I ⟨b,0+0*1,I 0⟩) (n-0) (n-0)) else Z)=_
    rw[Aq (Al n),Aq (Ae n),Aq g];rfl
   refine⟨_,_,(λH=>by rw[j];rfl:∀H,CN H (C7 Ax 62 (sL b n c) Z (I (Vi n)) (I (Vi n)))=I (.slice (I ⟨b,0,I 0⟩) n n,H)) _,.inr ⟨b,sp,B,f,by simpa using a,i⟩,B⟩
def Azy (a:G1 τ st t2 e 1=Ag) {x:Aa} (o:Z0 h N e v n xs) (c:MM x=I m) (d:MN 1 h x m=I ys)
 (w:ys.length=m) (h1:ys.all one=Ag) (f:N<=h.nx) (y:0<m) (hb:n+m<=1000000000):
 ∃v' J,Bx τ .append [st,t2] [v,x] h=I (v',J)/\AS J N e 1 v' (n+m) (xs++ys)/\AA h J:=by
 obtain⟨rfl,rfl,rfl⟩|⟨b,sp,rfl,A,j,l⟩:=o
 .obtain⟨v',J,t1,t2,t3,t4⟩:=UN a (AS.nil h N e 1) c d Jq h1 f hb
  exact⟨v',J,t1,t2,(AA.refl h).then t3 λi U=>U.elim⟩
 .obtain⟨t1,p,i,z,t3,t4,t5,t6,t7,t8,t9⟩:=In a
  suffices H:∃v' J,Gj τ [st,t2] [.slice (I ⟨b,0,I 0⟩) n n,x] h=I (v',J)/\AS J N e 1 v' (n+m) (xs++ys)/\AA h J by
   obtain⟨v',J,q,r⟩:=H;exact⟨v',J,by simp[Bx,q],r⟩
  have s:Ar (n+m) n=false:=by
   cases t:Ar (n+m) n with
   |false=>rfl
   |true=>have:=Ac t;omega
  obtain⟨C,D,u,g⟩:=l.bx (off:=0) (k:=n*1) Jq;rw[(by rw[Ajb,BJ,←j,List.take_left]:((xs++sp).drop 0).take (n*1)=xs)] at g;unfold Gj;simp only[List.head?_cons,p,I0,t1,t3,c,t4,t5,d,t7,t8,(by rw[h1];rfl:(AD 0 1&&ys.all one&&Am 1 1&&Ag)=Ag),D1,s,M2 hb t9,Bool.and_self,u,(by simp:Am e e=Ag),g];refine⟨_,_,B,⟨Jq,.inr ⟨h.nx,n+m,[],B,f,Ae _,Jq,?_⟩⟩,AA.a4 h e _⟩;rw[Fb];exact Own.a4 h e _
def Z0.ext {e:Ai} (o:Z0 h N e v n xs) (x:AA h J):Z0 J N e v n xs:=by
 obtain h1|⟨b,sp,h1,a,c,d⟩:=o
 .exact .inl h1
 .exact .inr ⟨b,sp,h1,a,c,d.ext x⟩
def Aul (h:Y) (N:Nat) (v:Aa) (n:Nat) (bs:Bl):Prop:=Z0 h N 5 v n (Ay bs)\/AS h N 5 1 v n (Ay bs)
def Awv (o:Aul h N v n bs) (b:UInt8) (c:N<=h.nx) (hb:n+1<=1000000000):
 ∃v' J,Bx Ax .append [62,62] [v,sL h.nx 1 1] (BN h 5 [.int .u8 (b.toNat:Int)])=I (v',J)/\AS J N 5 1 v' (n+1) (Ay (bs++[b]))/\(∀h0,AA h0 h->h0.nx<=N->AA h0 J):=by
 rcases o with o|o
 .have a:=AA.row h 5 [.int .u8 (b.toNat:Int)]
  obtain⟨v',J,t1,t2,t3⟩:=Azy Kq (o.ext a) (x:=sL h.nx 1 1) (ys:=Ay [b]) B
   (by rw[Il (Own.row h 5 [.int .u8 (b.toNat:Int)]) (by show 0+1*1<=1;omega)];rfl) B B (Ao c a.nx) G hb
  rw[←Ee] at t2;exact⟨v',J,t1,t2,λh0 x _=>(x.trans a).trans t3⟩
 .obtain⟨v',J,t1,t2,t3,t4⟩:=Apn o b c hb
  exact⟨v',J,t1,t2,λh0 x d=>x.then t3 λi U=>Ao d (o.ai i U)⟩
def Anq (a b:Int):∃y:UInt8,JP .u8 a b=(y.toNat:Int):=by
 obtain⟨y,c⟩:=DH ((BitVec.ofInt IntKind.u8.bits a|||BitVec.ofInt IntKind.u8.bits b).toNat:Int);exact⟨y,c⟩
def R5 (f:Base S L) (r:Rd h v 1 n (Ay bs)) (i:n<=100000000) (C:x<18446744073709551616):
 Bk S L 2 177 [v,.int .u64 x] h λw J=>AA h J/\∃m,m<=60/\∃cs:Bl,AS J h.nx 5 1 w (n+m) (Ay (bs++cs)):=
 Cn f177 f λd D E=>by
  refine⟨_,ACe f r i d G,?_⟩;rintro F h1 ⟨p,q⟩;refine⟨_,ABf f q i d G,?_⟩;rintro s h1 ⟨H,rfl⟩;refine⟨λj A a=>∃(k y:Nat) (cv:Aa) (cs:Bl),A=[(0,cv),(1,.int .u64 y)]/\y*2^k<=x/\k<=58/\j=58-k/\Aul a h.nx cv (n+k) (bs++cs)/\AA h a,
   ⟨_,_,Sq,?_,0,x,s,[],B,G,G,B,.inl Jq,p⟩,?_⟩
  .omega
  rintro j A a ⟨k,y,cv,cs,rfl,K,M,rfl,o,c⟩ N;apply Bz<;>intro e
  .have O:k<=57:=by
    rcases A8 k 58 with h|h
    .omega
    .have h1:2^58<=2^k:=Na G h
     have t:128*2^58<=y*2^k:=Cj G h1;omega
   obtain⟨c1,g⟩:=DH (y:Int);obtain⟨b,hb⟩:=Anq (c1.toNat:Int) 128;have u:=c.nx;obtain⟨v',J,t1,t2,t3⟩:=Awv o b u G;refine⟨_,.inr g.symm,_,_,(by rw[hb];exact bsB b a:Bs Ax 62 1 [(0,.int .u8 (JP .u8 (c1.toNat:Int) 128))] a=I (sL a.nx 1 1,BN a 5 [.int .u8 (b.toNat:Int)])),_,_,t1,G,_,_,CG (l:=[(0,_),(1,_)]) ⟨B,Cs (λz=>I (AL .u64 z)) (Fo (m:=7) B (by omega)),trivial⟩,?_,k+1,y/2^7,v',cs++[b],B,?_,G,B,.inr ?_,t3 h c (Ae _)⟩
   .omega
   .have h1:y/2^7*2<=y:=G
    have t:y/2^7*2*2^k<=y*2^k:=Ci _ h1;rw[(by rw[Nat.pow_succ,UI]:2^(k+1)=2*2^k),←Ajd];omega
   .rw[←KA];exact t2
  .obtain⟨c1,g⟩:=DH (y:Int)
   obtain⟨v',J,t1,t2,t3⟩:=Awv o c1 c.nx G;refine⟨_,.inr g.symm,_,_,bsB c1 a,_,_,t1,t3 h c Jq,k+1,G,cs++[c1],?_⟩;rw[←KA];exact t2
def Zp (s:Bd):MN 1 h (.string s) s.size=I (Ay s.data.toList):=by
 show(bif Am 1 1 then I ((s.data.toList.take s.size).map λb=>AL .u8 b.toNat) else Z)=_
 have:s.data.toList.take s.size=s.data.toList:=Bj (by rw[EZ];exact Ae _);rw[this];rfl
def Avn (a:Base S L) (r:Rd h v 1 n (Ay bs)) (e:n<=100000000) (f:s.size<=100000000):
 Bk S L 3 178 [v,.string s] h λw J=>AA h J/\∃m,m<=60+s.size/\∃cs:Bl,AS J h.nx 5 1 w (n+m) (Ay (bs++cs)):=
 Cn f178 a λd g _=>by
  refine⟨_,.inl Pq,_,R5 a r e G d G,?_⟩;rintro j h1 ⟨b,m,k,cs,c⟩;obtain⟨v',J,t1,t2,t3,t4⟩:=UN Kq c B (Zp s) (by simp[Ay]) (Fa _) b.nx G;refine⟨_,_,t1,b.then t3 λi U=>c.ai i U,m+s.size,G,cs++s.data.toList,?_⟩
  rw[←KA,Ee (bs++cs),←DD];exact t2
def bs4 (a b c d:Int) (h:Y):Bs Ax 62 4 [(0,.int .u8 a),(1,.int .u8 b),(2,.int .u8 c),(3,.int .u8 d)] h=
 I (sL h.nx 4 4,BN h 5 [.int .u8 a,.int .u8 b,.int .u8 c,.int .u8 d]):=by
 rfl
def Auy (f:Base S L) (q:G3 h) (r:Rd h v 1 n (Ay bs)) (g:n<=100000000):
 Bk S L 3 111 [v] h λw J=>AA h J/\∃cs:Bl,AS J h.nx 5 1 w 4 (Ay cs):=
 Cn f111 f λd m _=>by
  refine⟨_,ADv f q r g d G,?_⟩;rintro _ h ⟨⟨x,o,rfl⟩,rfl⟩;obtain⟨a,i⟩:=DH (x:Int);obtain⟨b,j⟩:=DH (DN .u32 (x:Int) 8);obtain⟨c,k⟩:=DH (DN .u32 (x:Int) 16);obtain⟨e,l⟩:=DH (DN .u32 (x:Int) 24);refine⟨_,.inr i.symm,G,_,.inr j.symm,G,_,.inr k.symm,G,_,.inr l.symm,_,_,bs4 _ _ _ _ _,AA.row h 5 (Ay [a,b,c,e]),[a,b,c,e],B,.inr ⟨h.nx,4,[],B,Ae _,Ae _,B,Own.row h 5 (Ay [a,b,c,e])⟩⟩
def Avs (g:Base S L) (r:Rd h v 1 n (Ay bs)) (l:n<=100000000):
 Bk S L 1 189 [v] h λw J=>AA h J/\AS J h.nx 5 1 w n (Ay bs):=
 Cn f189 g λd m _=>by
  obtain⟨h1,A,c,rfl,j,e,k⟩:=r;cases A with
  |
   none=>
   have:=e B;subst this;have:n=0:=G;subst this;rw[(by simpa using h1:Ay bs=[])];exact⟨_,B,AA.refl _,AS.nil _ _ _ _⟩
  |
   some a=>
   have r:Rd h (.slice (I a) n c) 1 n (Ay bs):=⟨h1,_,c,B,j,e,k⟩;have b:=AA.row h 5 [];have f:=r.ext b;have o:AS (BN h 5 []) h.nx 5 1 (sL h.nx 0 0) 0 []:=⟨B,.inr ⟨h.nx,0,[],B,Ae _,Ae _,B,Own.row h 5 []⟩⟩;obtain⟨v',J,t1,t2,t3,t4⟩:=UN Kq o f.bu f.src Jq (Fa bs) b.nx G;refine⟨_,B,_,_,B,_,_,t1,b.then t3 (λi U=>by have:i=h.nx:=U;omega),?_⟩
   rw[IW,Ba] at t2;exact t2
def ADt (b:Base S L):Bk S L 1 315 [.int .i32 z] h λw J=>w=.bool (decide (z<97\/122<z))/\J=h:=
 Cn f315 b λd c _=>by
  refine Bz (λe=>?_) (λe=>?_)
  .refine⟨?_,B⟩
   rw[decide_eq_true Jq];rfl
  .refine⟨?_,B⟩
   by_cases a:122<z
   .rw[decide_eq_true (show z<97\/122<z from .inr a)]
    show CU (decide (122<z))=_;rw[decide_eq_true a]
   .rw[decide_eq_false (show¬(z<97\/122<z) by omega)]
    show CU (decide (122<z))=_;rw[decide_eq_false a]
def BK (h:Y) (b off:Nat) (xs:AH):Prop:=b<h.nx/\∃c n e lo U x,h.t.get b=I (.cells c n e lo U x)/\∀i u,xs[i]?=I u->c.get (off+i)=I u
def BK.ae (c:BK h b off xs) (e:B0 W h J) (a:¬W b):BK J b off xs:=by
 obtain⟨hb,y⟩:=c;exact⟨AC hb e.nx,by rw[e.t b hb a];exact y⟩
def BK.ext (c:BK h b off xs) (e:AA h J):BK J b off xs:=c.ae (e.ae λ_=>False) λh=>h
def Own.cells {e:Ai} (o:Own h b e xs):BK h b 0 xs:=by
 obtain⟨hb,c,x,h1,a⟩:=o;exact⟨hb,c,_,_,_,_,_,h1,λi u d=>by rw[Ba];exact a i u d⟩
def Rd.el (r:Rd h v k n xs) (U:i<n):∃a c,v=.slice (I a) n c/\n<=c/\BK h a.block (a.off+i*k) ((xs.drop (i*k)).take k):=by
 obtain⟨h1,A,c,rfl,d,e,f⟩:=r;cases A with
 |none=>have:=e B;omega
 |
  some a=>
  obtain⟨g,l,m,o,lo,p,x,q,s⟩:=f a B;refine⟨a,c,B,d,g,l,m,o,lo,p,x,q,λj u b=>?_⟩;rw[DD];refine s _ u ?_;rw[LS] at b;split at b
  .rw[Eg] at b;exact b
  .cases b
def ZX (τ:Bb) (t k:Nat):Bool:=match τ.ds.get t,τ.aj.get t with
 |some d,I i=>J5 d&&Am i.size k
 |_,_=>Ah
def EQ {t:Nat} (a:ZX τ t k=Ag) (c:BK h b off xs) (f:xs.length=k):Bw τ t h b off=I (.agg ⟨xs⟩):=by
 unfold ZX at a;split at a
 .rename_i d i g U
  rw[An] at a;obtain⟨_,l,n,e,lo,m,x,h1,j⟩:=c;have:=HQ j;rw[f,←Af a.2] at this;unfold Bw;simp[h1,g,a.1,D1,U,this]
 .cases a
def Own.bD {t:Nat} (a:ZX τ t k=Ag) {e:Ai} (o:Own h b e xs) (c:vs.length=k) (f:i+k<=xs.length) (h1:vs.all one=Ag):
 ∃J,BA τ t h b i (.agg ⟨vs⟩)=I J/\Own J b e (I2 xs i vs)/\Er b h J:=by
 unfold ZX at a;split at a
 .rename_i d n p U
  rw[An] at a;obtain⟨J,g,j,l⟩:=o.bb (by rw[c];exact f) h1;refine⟨J,?_,j,l⟩;unfold BA;have m:AJ (.agg ⟨vs⟩)=vs:=rfl;simp only[U,m,c,Af a.2,g];simp
 .cases a
structure DQ where
 nm:Bd
 dv:Aa
 db:Bl
def Fj (p:DQ):AH:=[.string p.nm,p.dv]
def EC (h:Y) (v:Aa) (ps:List DQ):Prop:=Rd h v 2 ps.length (ps.flatMap Fj)/\∀p∈ps,p.nm.size<=100000000/\p.db.length<=16777216/\Rd h p.dv 1 p.db.length (Ay p.db)
def EC.ext {ps:List DQ} (p:EC h v ps) (e:AA h J):EC J v ps:=
 ⟨p.1.ext e,λq a=>⟨(p.2 q a).1,(p.2 q a).2.1,(p.2 q a).2.2.ext e⟩⟩
def Vo (ps:List DQ) {p:DQ} (U:ps[i]?=I p):((ps.flatMap Fj).drop (i*2)).take 2=Fj p:=by
 induction ps generalizing i with
 |nil=>cases U
 |
  cons q ps a=>
  cases i with
  |zero=>cases U;rfl
  |
   succ i=>
   have:=a Jq;rw[show(i+1)*2=i*2+2 by omega];exact this
def U9 (h:Y) (p:DQ) (c:one p.dv=Ag):∃h1,K7 Ax 203 (.agg #[.string ⟨#[]⟩,.slice Z 0 0]) h=I (AG h.nx 0,h1)/\h1.nx=h.nx+1/\AA h h1/\∃a,BA Ax 203 h1 h.nx 0 (.agg ⟨Fj p⟩)=I a/\AA h a/\Own a h.nx 203 (Fj p):=by
 obtain⟨h1,d,b,e,f⟩:=H1 Ax 203 (.agg #[.string ⟨#[]⟩,.slice Z 0 0]) h;obtain⟨a,g,i,j⟩:=e.bD Kq (vs:=Fj p) B (by show 0+2<=2;decide) (by show(one _&&(one p.dv&&Ag))=Ag;rw[c];rfl);exact⟨h1,d,f,b,a,g,b.ah j (Ae _),i⟩
def Rd.one (r:Rd h v k n xs):one v=true:=by
 obtain⟨_,A,c,rfl,_⟩:=r;rfl
def AS.mono {M:Nat} {e:Ai} (o:AS h N e k v n xs) (d:M<=N):AS h M e k v n xs:=by
 obtain⟨h1,a|⟨b,c,sp,a,f,g⟩⟩:=o
 .exact⟨h1,.inl a⟩
 .exact⟨h1,.inr ⟨b,c,sp,a,Ao d f,g⟩⟩
def ACf (j:Base S L) {ps:List DQ} (p:EC h v ps) (P:ps.length<=1000000):
 Bk S L 2 116 [v,.string s] h λw J=>AA h J/\(w=.tuple #[.slice Z 0 0,.bool Ah]\/∃q∈ps,∃o,w=.tuple #[o,.bool Ag]/\AS J h.nx 5 1 o q.db.length (Ay q.db)):=
 Cn f116 j λd Q R=>by
  obtain⟨r,u⟩:=p;obtain⟨x,b,c,rfl,y,z,C⟩:=r;have D:Rd h (.slice b ps.length c) 2 ps.length (ps.flatMap Fj):=⟨x,b,c,B,y,z,C⟩;refine⟨λl A f=>∃k:Nat,A=[(1,.string s),(8,.slice b ps.length c),(9,Vi ps.length),(10,Vi k)]/\k<=ps.length/\l=ps.length-k/\AA h f,
   ⟨_,_,Sq,?_,0,B,Al _,B,AA.refl _⟩,?_⟩
  .omega
  rintro l A f ⟨k,rfl,T,rfl,g⟩ V;apply Bz<;>intro e
  .have m:k<ps.length:=G
   have i:=Ab m;obtain⟨q,E⟩:∃q,q=ps[k]:=⟨_,B⟩;rw[←E] at i;have n:=AZ i;obtain⟨W,X,t⟩:=u q n;obtain⟨a1,y1,F,_,H⟩:=(D.ext g).el m;cases F;rw[Vo ps i] at H;obtain⟨h1,t2,t3,t4,h2,t5,t6,t7⟩:=U9 f q t.one;have a:=g.trans t6;refine⟨G,_,EQ Kq Jq B,_,_,t2,_,t5,_,ld B (t7.cell B),_,B,Ad (λK=>?_) (λK=>?_)⟩
   .refine⟨_,ld B (t7.cell B),_,Avs j (t.ext a) G d G,?_⟩
    rintro M h5 ⟨N,O⟩;refine⟨a.trans N,.inr ⟨q,n,M,B,O.mono a.nx⟩⟩
   .refine⟨Pq,_,_,Sq,?_,k+1,B,G,B,a⟩
    omega
  .exact⟨g,.inl B⟩
def Aux (a:Base S L) (p:Cell h b 0 (Vi n)):Bk S L 1 165 [AG b 0] h λv J=>v=Vi n/\J=h:=
 Cn f165 a λd c _=>by
  refine⟨_,B,_,ld B p,B,B⟩
def Ajv (c:Base S L) (p:Cell h b 0 (Vi n)) {i:Int}:Bk S L 2 186 [AG b 0,Vi i] h λv J=>v=.bool (decide (0<=i/\i<n))/\J=h:=
 Cn f186 c λd f _=>by
  refine Bz (λe=>?_) (λe=>?_)
  .refine GZ (Aux c p d G) ?_
   refine⟨?_,B⟩;by_cases a:i<n
   .rw[decide_eq_true (show 0<=i/\i<(n:Int) from⟨e,a⟩)]
    show CU (decide (i<(n:Int)))=_;rw[decide_eq_true a]
   .rw[decide_eq_false (show¬(0<=i/\i<(n:Int)) by omega)]
    show CU (decide (i<(n:Int)))=_;rw[decide_eq_false a]
  .refine⟨?_,B⟩
   rw[decide_eq_false Jq];rfl
def Awp (b:Base S L) {i:Int}:Bk S L 1 185 [Vi i] h λv J=>v=.bool (decide (0<=i/\i<=30000))/\J=h:=
 Cn f185 b λd c _=>by
  refine Bz (λe=>?_) (λe=>?_)
  .refine⟨?_,B⟩
   by_cases a:i<=30000
   .rw[decide_eq_true (show 0<=i/\i<=30000 from⟨e,a⟩)]
    show CU (decide (i<=30000))=_;rw[decide_eq_true a]
   .rw[decide_eq_false (show¬(0<=i/\i<=30000) by omega)]
    show CU (decide (i<=30000))=_;rw[decide_eq_false a]
  .refine⟨?_,B⟩
   rw[decide_eq_false Jq];rfl
def C9 (a b:Int):Value:=.agg #[.int .i64 a,.int .i64 b]
def Xs (a b c d:Int):IZ Ax Op.maxDepth 298 (C9 a b) (C9 c d)=I (a==c&&b==d):=by
 rw[(by rfl:IZ Ax Op.maxDepth 298 (C9 a b) (C9 c d)=(match I (a==c) with|some Ag=>(match I (b==d) with|some Ag=>I Ag|some Ah=>I Ah|none=>Z)|some Ah=>I Ah|none=>Z))]
 cases a==c<;>cases b==d<;>rfl
def Np (l:GX) (a b:Int):Option Int:=match l with
 |[]=>Z
 |p::l=>if a==p.1.1&&b==p.1.2 then I p.2 else Np l a b
def Kd (k v:Aa):∀(es:List Ap) (ck lo:Nat),Fc ck lo es=Ag->lo<=ck->Fc (ck+1) lo (es++[⟨k,v,ck⟩])=Ag
 |
  [],ck,lo,_,a=>by
  show(Ar lo ck&&AD ck (ck+1)&&Ag)=Ag;rw[Aq a,show AD ck (ck+1)=Ag by rw[AK];omega];rfl
 |
  e::es,ck,lo,h,a=>by
  simp only[Fc,An,AK] at h;show(Ar lo e.born&&AD e.born (ck+1)&&Fc (ck+1) (A3 e.born) (es++[⟨k,v,ck⟩]))=Ag;rw[h.1.1,show AD e.born (ck+1)=Ag by rw[AK];omega,Kd k v es ck _ h.2 G];rfl
def Kc {f:Ap->Ap} (a:∀e,(f e).born=e.born):∀(es:List Ap) (j ck lo:Nat),Fc ck lo es=Ag->Fc ck lo (Cu es j f)=Ag
 |[],_,_,_,_=>rfl
 |e::es,0,ck,lo,h=>by simpa[Cu,Fc,a] using h
 |
  e::es,j+1,ck,lo,h=>by
  simp[Cu,Fc,An] at h⊢;exact⟨h.1,Kc a es j ck _ h.2⟩
def Amb:∀{es:List Ap} {lo a:Nat},Fc ck lo es=Ag->a<=lo->Fc ck a es=Ag
 |[],_,_,_,_=>rfl
 |
  e::es,lo,a,h,b=>by
  simp only[Fc,An] at h⊢;exact⟨⟨Aq (by have:=Ac h.1.1;omega),h.1.2⟩,h.2⟩
def Zc:∀(es:List Ap) (j ck lo:Nat),Fc ck lo es=Ag->Fc ck lo (es.eraseIdx j)=Ag
 |[],_,_,_,h=>h
 |
  e::es,0,ck,lo,h=>by
  simp only[Fc,An] at h;exact Amb h.2 (by have:=Ac h.1.1;omega)
 |
  e::es,j+1,ck,lo,h=>by
  simp[W6,Fc,An] at h⊢;exact⟨h.1,Zc es j ck _ h.2⟩
def Aen (l:GX):Prop:=l.Pairwise λp q=>p.1≠q.1
def HE (h:Y) (r:Nat) (l:GX):Prop:=r<h.nx/\∃es ck,h.t.get r=I (.map es ck)/\es.map (λe=>(e.key,e.val))=l.map (λp=>(C9 p.1.1 p.1.2,AL .i64 p.2))/\Fc ck 0 es=Ag/\Aen l
def HE.ae {l:GX} (c:HE h r l) (e:B0 W h J) (a:¬W r):HE J r l:=by
 obtain⟨hb,y⟩:=c;exact⟨AC hb e.nx,by rw[e.t r hb a];exact y⟩
def HE.ext {l:GX} (c:HE h r l) (e:AA h J):HE J r l:=c.ae (e.ae λ_=>False) λh=>h
def Adt (a b:Int):∀(es:List Ap) (l:GX) (i:Nat),es.map (λe=>(e.key,e.val))=l.map (λp=>(C9 p.1.1 p.1.2,Vi p.2))->
 (CE Ax 298 (C9 a b) es i=I Z/\Np l a b=Z)\/∃j e c,CE Ax 298 (C9 a b) es i=I (I (j,e))/\e.val=Vi c/\Np l a b=I c
 |[],[],i,_=>.inl ⟨B,B⟩
 |[],_::_,_,h=>by cases h
 |_::_,[],_,h=>by cases h
 |
  e::es,p::l,i,h=>by
  simp[Bp,List.cons.injEq,Prod.mk.injEq] at h;obtain⟨⟨h1,f⟩,d⟩:=h;rw[CE,h1,Xs,Np];cases g:(a==p.1.1&&b==p.1.2) with
  |true=>exact .inr Jq
  |false=>simpa using Adt a b es l (i+1) d
def Vk (h:Y) (b n:Nat) (df:Int) (l:GX):Prop:=Cell h b 0 (.int .i64 n)/\Cell h b 1 (.int .i64 df)/\∃r,Cell h b 2 (.map (I r))/\HE h r l
def Vk.ext {l:GX} (m:Vk h b n df l) (e:AA h J):Vk J b n df l:=by
 obtain⟨a,c,r,d,f⟩:=m;exact⟨a.ext e,c.ext e,r,d.ext e,f.ext e⟩
def Mz (n:Nat) (df:Int) (l:GX) (a b:Int):Int:=
 if(0<=a/\a<n)/\(0<=b/\b<n) then(Np l a b).getD df else 30000
def ADb (i:Base S L) {l:GX} (m:Vk h p n df l) {a b:Int}:Bk S L 3 162 [AG p 0,Vi a,Vi b] h λv J=>v=Vi (Mz n df l a b)/\J=h:=
 Cn f162 i λd y _=>by
  obtain⟨o,w,r,q,z,es,ck,s,m6,_⟩:=m;refine GZ (Ajv i o d G) ?_;refine⟨_,_,B,Ad (λe=>?_) (λe=>?_)⟩
  .have e:¬(0<=a/\a<(n:Int)):=λf=>by rw[decide_eq_true f] at e;cases e
   exact⟨by rw[Mz,Bm (λf=>e f.1)];rfl,B⟩
  refine GZ (Ajv i o d G) ?_;refine⟨_,_,B,Ad (λg=>?_) (λg=>?_)⟩
  .have g:¬(0<=b/\b<(n:Int)):=λf=>by rw[decide_eq_true f] at g;cases g
   exact⟨by rw[Mz,Bm (λf=>g f.2)];rfl,B⟩
  have x:Mz n df l a b=(Np l a b).getD df:=by rw[Mz,Bi ⟨(by simpa using e:0<=a/\a<(n:Int)),(by simpa using g:0<=b/\b<(n:Int))⟩]
  rw[x];have t:Ax.ds.get 294=I (.map 298 3):=by rfl
  have u:Do Ax 5 298 (C9 a b)=true:=by rfl
  rcases Adt a b es l 0 m6 with⟨f1,f2⟩|⟨j,A,c,f1,f2,f3⟩
  .have k:BW Ax 294 (.map (I r)) (C9 a b) Ag h=I (.tuple #[Vi 0,.bool Ah]):=by
    unfold BW;simp only[t,u,D1,s,f1,(by rfl:CP Ax 3=I (Vi 0))];rfl
   refine⟨_,ld B q,_,_,Cs (CN h) k,_,ld B w,?_,B⟩;rw[f2];rfl
  .have k:BW Ax 294 (.map (I r)) (C9 a b) Ag h=I (.tuple #[Vi c,.bool Ag]):=by
    unfold BW;simp only[t,u,D1,s,f1,f2];rfl
   refine⟨_,ld B q,_,_,Cs (CN h) k,?_,B⟩;rw[f3];rfl
def ML (l:GX) (a b c:Int):GX:=match l with
 |[]=>[((a,b),c)]
 |p::l=>if a==p.1.1&&b==p.1.2 then((a,b),c)::l else p::ML l a b c
def Ago (a b:Int):Cy (C9 a b) (C9 a b)=true:=by
 rw[(by rfl:Cy (C9 a b) (C9 a b)=((Ag&&decide (a=a))&&((Ag&&decide (b=b))&&Ag)))];simp
def Afe (a b c:Int):∀(es:List Ap) (l:GX) (i:Nat) (ck:Nat),es.map (λe:Ap=>(e.key,e.val))=l.map (λp=>(C9 p.1.1 p.1.2,Vi p.2))->
 (CE Ax 298 (C9 a b) es i=I Z/\(es++[({key:=C9 a b,val:=Vi c,born:=ck}:Ap)]).map (λe:Ap=>(e.key,e.val))=(ML l a b c).map (λp=>(C9 p.1.1 p.1.2,Vi p.2)))\/
 ∃j e,CE Ax 298 (C9 a b) es i=I (I (i+j,e))/\Cy e.key (C9 a b)=Ag/\(Cu es j λe=>{e with key:=C9 a b,val:=Vi c}).map (λe:Ap=>(e.key,e.val))=(ML l a b c).map (λp=>(C9 p.1.1 p.1.2,Vi p.2))
 |[],[],i,ck,_=>.inl ⟨B,B⟩
 |[],_::_,_,_,h=>by cases h
 |_::_,[],_,_,h=>by cases h
 |
  e::es,p::l,i,ck,h=>by
  simp[Bp,List.cons.injEq,Prod.mk.injEq] at h;obtain⟨⟨h1,f⟩,g⟩:=h;rw[CE,h1,Xs,ML];cases d:(a==p.1.1&&b==p.1.2) with
  |
   true=>
   refine .inr ⟨0,e,B,?_,?_⟩
   .rw[h1]
    simp[An,beq_iff_eq] at d;rw[←d.1,←d.2];exact Ago a b
   .simp[Cu,g]
  |
   false=>
   rcases Afe a b c es l (i+1) ck g with⟨f1,f2⟩|⟨j,k,f1,f2,f3⟩
   .refine .inl ⟨f1,?_⟩
    simpa[h1,f] using f2
   .refine .inr ⟨j+1,k,?_,f2,?_⟩
    .rw[show i+(j+1)=i+1+j by omega];exact f1
    .simp only[Cu,Bp,h1,f,f3];rfl
def Wj {a b c:Int}:∀{l:GX} {q:(Int×Int)×Int},q∈ML l a b c->q.1=(a,b)\/q∈l
 |[],q,h=>.inl (by rw[List.mem_singleton.1 h])
 |
  p::l,q,h=>by
  rw[ML] at h;split at h
  .rcases List.mem_cons.1 h with rfl|h
   .exact .inl B
   .exact .inr Jq
  .rcases List.mem_cons.1 h with rfl|h
   .exact .inr Av
   .exact(Wj h).imp Jq Jq
def OH {a b c:Int}:∀{l:GX},Aen l->Aen (ML l a b c)
 |[],_=>List.pairwise_singleton _ _
 |
  p::l,h=>by
  have J:=List.pairwise_cons.1 h;rw[ML];split
  .rename_i d
   simp[An,beq_iff_eq] at d;exact List.pairwise_cons.2 Jq
  .rename_i d
   refine List.pairwise_cons.2 ⟨λq f=>?_,OH J.2⟩;rcases Wj f with e|e
   .intro g
    rw[e] at g;exact d Jq
   .exact J.1 q e
def ABt {l:GX} (m:HE h r l) (a b c:Int):∃J,BH Ax 294 (.map (I r)) (C9 a b) (Vi c) h=I J/\HE J r (ML l a b c)/\Er r h J:=by
 obtain⟨d,es,ck,g,m6,i,m8⟩:=m;have k:Ax.ds.get 294=I (.map 298 3):=by rfl
 have n:Do Ax 5 298 (C9 a b)=true:=by rfl
 rcases Afe a b c es l 0 ck m6 with⟨f1,f2⟩|⟨j,e,f1,f2,f3⟩
 .refine⟨h.put r (.map (es++[({key:=C9 a b,val:=Vi c,born:=ck}:Ap)]) (ck+1)),?_,⟨by rw[Cc];exact d,_,_,by rw[BQ,Bi B],f2,Kd _ _ es ck 0 i (Al _),OH m8⟩,Er.put _ _ _⟩
  unfold BH;simp[k,n,D1,g,f1]
 .rw[Ba] at f1
  refine⟨h.put r (.map (Cu es j λe=>{e with key:=C9 a b,val:=Vi c}) ck),?_,⟨by rw[Cc];exact d,_,_,by rw[BQ,Bi B],f3,Kc (f:=λe=>{e with key:=C9 a b,val:=Vi c}) (λ_=>rfl) es j ck 0 i,OH m8⟩,Er.put _ _ _⟩
  unfold BH;simp[k,n,D1,g,f1,f2]
def Nh (l:GX) (a b:Int):GX:=match l with
 |[]=>[]
 |p::l=>if a==p.1.1&&b==p.1.2 then l else p::Nh l a b
def Anl (a b:Int):∀(es:List Ap) (l:GX) (i:Nat),es.map (λe:Ap=>(e.key,e.val))=l.map (λp=>(C9 p.1.1 p.1.2,Vi p.2))->
 (CE Ax 298 (C9 a b) es i=I Z/\Nh l a b=l)\/
 ∃j e,CE Ax 298 (C9 a b) es i=I (I (i+j,e))/\(es.eraseIdx j).map (λe:Ap=>(e.key,e.val))=(Nh l a b).map (λp=>(C9 p.1.1 p.1.2,Vi p.2))
 |[],[],i,_=>.inl ⟨B,B⟩
 |[],_::_,_,h=>by cases h
 |_::_,[],_,h=>by cases h
 |
  e::es,p::l,i,h=>by
  simp[Bp,List.cons.injEq,Prod.mk.injEq] at h;obtain⟨⟨h1,d⟩,c⟩:=h;rw[CE,h1,Xs,Nh];cases g:(a==p.1.1&&b==p.1.2) with
  |true=>exact .inr ⟨0,e,B,by simpa using c⟩
  |
   false=>
   rcases Anl a b es l (i+1) c with⟨f1,f2⟩|⟨j,f,f1,f3⟩
   .refine .inl ⟨f1,?_⟩
    simp[f2]
   .refine .inr ⟨j+1,f,?_,?_⟩
    .rw[show i+(j+1)=i+1+j by omega];exact f1
    .simp only[W6,Bp,h1,d,f3];rfl
def Vw (a b:Int):∀l:GX,(Nh l a b).Sublist l
 |[]=>.slnil
 |
  p::l=>by
  rw[Nh];split
  .exact List.sublist_cons_self _ _
  .exact List.Sublist.cons_cons _ (Vw a b l)
def AEn {l:GX} (m:HE h r l) (a b:Int):∃J,Bx Ax .delete [294,298] [.map (I r),C9 a b] h=I (.tuple #[],J)/\HE J r (Nh l a b)/\Er r h J:=by
 obtain⟨c,es,ck,d,m6,f,m8⟩:=m;have g:Ax.ds.get 294=I (.map 298 3):=by rfl
 have i:Do Ax 5 298 (C9 a b)=true:=by rfl
 suffices H:∃J,II Ax [294,298] [.map (I r),C9 a b] h=I J/\HE J r (Nh l a b)/\Er r h J by
  obtain⟨J,k,n⟩:=H;exact⟨J,by simp[Bx,k],n⟩
 rcases Anl a b es l 0 m6 with⟨f1,f2⟩|⟨j,e,f1,f3⟩
 .refine⟨h.put r (.map es ck),?_,⟨by rw[Cc];exact c,_,_,by rw[BQ,Bi B],by rw[f2];exact m6,f,by rw[f2];exact m8⟩,Er.put _ _ _⟩
  unfold II;simp[g,i,D1,d,f1]
 .rw[Ba] at f1
  refine⟨h.put r (.map (es.eraseIdx j) ck),?_,⟨by rw[Cc];exact c,_,_,by rw[BQ,Bi B],f3,Zc es j ck 0 f,m8.sublist (Vw a b l)⟩,Er.put _ _ _⟩;unfold II;simp[g,i,D1,d,f1]
def F6 (h:Y) (b n:Nat) (df:Int) (r:Nat) (l:GX):Prop:=b≠r/\Cell h b 0 (.int .i64 n)/\Cell h b 1 (.int .i64 df)/\Cell h b 2 (.map (I r))/\HE h r l
def F6.ext {l:GX} (m:F6 h b n df r l) (e:AA h J):F6 J b n df r l:=
 ⟨m.1,m.2.1.ext e,m.2.2.1.ext e,m.2.2.2.1.ext e,m.2.2.2.2.ext e⟩
def P9 {l:GX} (m:HE J r l):HE (h.aa J) r l:=by
 obtain⟨a,b⟩:=m;exact⟨by rw[CL];exact a,by rw[DF];exact b⟩
def Da {l l':GX} (u:Er r h J) (m:F6 h b n df r l) (m':HE J r l'):F6 J b n df r l':=
 ⟨m.1,m.2.1.ah u m.1,m.2.2.1.ah u m.1,m.2.2.2.1.ah u m.1,m'⟩
def Avy (j:Base S L) {l:GX} (m:F6 h b n df r l) {x y:Int}:Bk S L 3 109 [AG b 0,Vi x,Vi y,Vi z] h λw J=>
 B0 (·=r) h J/\((w=Vi 6/\¬((0<=x/\x<n)/\(0<=y/\y<n)/\(0<=z/\z<=30000))/\F6 J b n df r l)\/(w=Vi 0/\(0<=x/\x<n)/\(0<=y/\y<n)/\(0<=z/\z<=30000)/\F6 J b n df r (if z=df then Nh l x y else ML l x y z))):=
 Cn f109 j λd H _=>by
  obtain⟨K,u,M,N,O⟩:=m;have o:F6 h b n df r l:=Jq;have q:B0 (·=r) h h:=(AA.refl h).ae _;refine⟨_,B,GZ (Ajv j u d G) ?_⟩;refine⟨_,_,B,Ad (λe=>?_) (λe=>?_)⟩
  .have e:¬(0<=x/\x<(n:Int)):=λa=>by rw[decide_eq_true a] at e;cases e
   exact⟨q,.inl ⟨B,λa=>e a.1,o⟩⟩
  have e:0<=x/\x<(n:Int):=Gq;refine GZ (Ajv j u d G) ?_;refine⟨_,_,B,Ad (λc=>?_) (λc=>?_)⟩
  .have c:¬(0<=y/\y<(n:Int)):=λa=>by rw[decide_eq_true a] at c;cases c
   exact⟨q,.inl ⟨B,λa=>c a.2.1,o⟩⟩
  have c:0<=y/\y<(n:Int):=Gq;refine GZ (Awp j d G) ?_;refine⟨_,_,B,Ad (λf=>?_) (λf=>?_)⟩
  .have f:¬(0<=z/\z<=30000):=λa=>by rw[decide_eq_true a] at f;cases f
   exact⟨q,.inl ⟨B,λa=>f a.2.2,o⟩⟩
  have f:0<=z/\z<=30000:=Gq;obtain⟨h1,b1,v,A,P⟩:=H1 Ax 298 (C9 0 0) h;obtain⟨p,C,D,E⟩:=(A:Own h1 h.nx 298 [Vi 0,Vi 0]).bD (k:=2) Kq (i:=0) (vs:=[Vi x,Vi y]) B Jq B;have s:=v.ah E Jq;have lp:Bw Ax 298 p h.nx 0=I (C9 x y):=EQ Kq (D:Own p h.nx 298 [Vi x,Vi y]).cells B;have g:=o.ext s;refine⟨_,_,b1,_,C,_,ld B g.2.2.1,Bz (λt=>?_) (λt=>?_)⟩
  .obtain⟨F,t1,t2,t3⟩:=AEn (h:=p.ad) g.2.2.2.2 x y
   exact⟨[],Kq,_,ld B g.2.2.2.1,_,lp,_,_,t1,(s.ae _).trans t3.aa.ae,.inr ⟨B,e,c,f,by rw[Bi t];exact Da t3.aa g (P9 t2)⟩⟩
  .obtain⟨F,t1,t2,t3⟩:=ABt (h:=p.ad) g.2.2.2.2 x y z
   exact⟨[],Kq,_,ld B g.2.2.2.1,_,lp,_,_,Cs Nb t1,(s.ae _).trans t3.aa.ae,.inr ⟨B,e,c,f,by rw[Bm t];exact Da t3.aa g (P9 t2)⟩⟩
def Avx (g:Base S L) {n:Int}:Bk S L 2 108 [Vi n,Vi df] h λw J=>AA h J/\
 ((w=.tuple #[.pointer Z,Vi 6]/\¬((1<=n/\n<=64)/\(0<=df/\df<=30000)))\/((1<=n/\n<=64)/\(0<=df/\df<=30000)/\∃b r,h.nx<=b/\h.nx<=r/\w=.tuple #[AG b 0,Vi 0]/\F6 J b n.toNat df r [])):=
 Cn f108 g λd m _=>by
  refine Bz (λe=>?_) (λe=>?_)
  .exact⟨AA.refl h,.inl ⟨B,G⟩⟩
  apply Bz<;>intro o
  .exact⟨AA.refl h,.inl ⟨B,G⟩⟩
  refine GZ (Awp g d G) ?_;refine⟨_,_,B,Ad (λa=>?_) (λa=>?_)⟩
  .have a:¬(0<=df/\df<=30000):=λf=>by rw[decide_eq_true f] at a;cases a
   exact⟨AA.refl h,.inl ⟨B,λf=>a f.2⟩⟩
  obtain⟨p,i,j,k,l⟩:=H1 Ax 296 (.agg #[Vi n,Vi df,.map (I h.nx)]) (h.new (.map [] 0));have c:=k;rw[Ck] at i c l;refine⟨_,_,i,(AA.new h (.map [] 0)).trans j,.inr ⟨G,Jq,h.nx+1,h.nx,G,G,B,G,?_,c.cell B,c.cell B,HE.ext ⟨by rw[Ck];omega,[],0,by rw[CK,Bi B],B,B,.nil⟩ j⟩⟩;rw[←(G:n=(n.toNat:Int))];exact c.cell rfl
def Awz (a:Base S L) {x:Int}:Bk S L 1 279 [Vi x] h λw J=>w=.bool Ah/\J=h:=
 Cn f279 a λd b _=>by
  refine⟨?_,B⟩;show CU (!decide (x=x))=_;simp
def Dx (x y:Int):Int:=if x<y then-1 else if y<x then 1 else 0
def Qo (a:Base S L) {x y:Int}:Bk S L 2 213 [Vi x,Vi y] h λw J=>w=Vi (Dx x y)/\J=h:=
 Cn f213 a λd c _=>by
  refine GZ (Awz a d G) ?_;refine GZ (Awz a d G) ?_;apply Bz<;>intro e
  .exact⟨by rw[Dx,Bi e];rfl,B⟩
  apply Bz<;>intro b
  .exact⟨by rw[Dx,Bm e,Bi b];rfl,B⟩
  exact⟨by rw[Dx,Bm e,Bm b];rfl,B⟩
def Avd (a:Base S L) (r:Rd h v k n xs):Bk S L 1 394 [v] h λw J=>w=Vi n/\J=h:=
 Cn f394 a λd b _=>by
  obtain⟨_,A,c,rfl,_⟩:=r;exact⟨B,B⟩
def Hm (n w:Nat) (ws:Bo) (i:Int):Int:=if 0<=i/\i<n then min (E1 ws w i.toNat) 1073741824 else 0
def Im (n w:Nat) (ws:Bo) (i:Int):0<=Hm n w ws i/\Hm n w ws i<=1073741824:=by
 have:=FM ws w i.toNat;unfold Hm;split<;>omega
def Xo (a:Base S L) {w:Nat} (p:BX h b n w ws) {i:Int}:Bk S L 3 201 [AG b 0,Vi i] h λv J=>v=Vi (Hm n w ws i)/\J=h:=
 Cn f201 a λd g _=>by
  refine GZ (ZZ a p d G) ?_;intro z c;have e:z=Hm n w ws i:=by
   rw[Hm];by_cases f:0<=i/\i<(n:Int)
   .rw[Bi f] at c⊢;omega
   .rw[Bm f] at c⊢;omega
  have j:=Im n w ws i;refine⟨_,.inl Pq,?_,B⟩;rw[e];rfl
def AGe (a:Base S L) {w:Nat} (p:BX h b n w ws) {i e:Int} (U:0<=i/\i<=9223372036854775806):Bk S L 4 268 [AG b 0,Vi i,Vi e] h λv J=>v=.tuple #[Vi (Hm n w ws i),Vi (if i+1<n then Hm n w ws (i+1) else e)]/\J=h:=
 Cn f268 a λd f _=>by
  refine⟨Pq,GZ (K3 a p.1 d G) ?_⟩;apply Bz<;>intro c
  .refine⟨Pq,GZ (Xo a p d G) ?_⟩
   refine GZ (Xo a p d G) ?_;rw[Bi c];exact⟨B,B⟩
  .refine GZ (Xo a p d G) ?_
   rw[Bm c];exact⟨B,B⟩
def AR (l:BZ):AH:=l.map Value.string
def Dl {l:BZ} (a:k<l.length):(AR l)[k]?=I (.string l[k]):=by
 unfold AR;rw[AX,Ab a];rfl
def CJ {a b:Bd}:Gp a.data.toList b.data.toList=Ag↔a=b:=by
 rw[J0,beq_iff_eq];constructor
 .intro h
  cases a with|mk a=>cases b with|mk b=>cases a with|mk a=>cases b with|mk b=>simp at h;rw[h]
 .rintro rfl;rfl
end
section
variable(m:Bool) (τ:Bb) (call:Be)
def YN (sz:Nat):List Tmp->AH->As->Option As
 |[],[],A=>I A
 |p::ps,v::vs,A=>bif AD p sz then YN sz ps vs ((p,v)::A) else Z
 |_,_,_=>Z
def Ki (l:Nat) (b:LoopState->Option DC->HB) (a:Option DC) (Q:Aa->Y->Prop) (_:As) (h:Y):Prop:=
 ∃st p,h.t.get l=I (b st p)/\Q (.bool a.isNone) (h.put l (b (match a with|none=>.ready|some _=>.done) a))
def Um (L:Nat) (l:Nat) (a:LoopState->Option DC->HB) (sz:Nat) (ps:List Tmp) (c d:DC) (e:AH) (A:As) (h:Y) (Q:Aa->Y->Prop):Prop:=
 match YN sz ps e A with
 |some f=>J2 τ call L sz c (kp (λg b=>b.t.get l=I (a .ready Z)/\
  J2 τ call L sz d (kp (Ki l a Z Q) (λid=>Ki l a (I (.exit id)) Q) (Ki l a (I .ret) Q)) g (b.put l (a .busy Z))) (λ_ _ _=>False) (λ_ _=>False)) f h
 |none=>False
end
section
variable{τ:Bb} {call:Be}
def Pt {sz:Nat}:∀(ps:List Tmp) (vs:AH) (A b:As) (a:T Aa) (ds:List Hh),YN sz ps vs A=I b->Gx A ⟨a,sz,ds⟩->∃c,JY sz ps vs a=I c/\Gx b ⟨c,sz,ds⟩
 |[],[],A,b,a,ds,h,r=>by cases h;exact⟨a,B,r⟩
 |[],_::_,A,b,a,ds,h,r=>by cases h
 |_::_,[],A,b,a,ds,h,r=>by cases h
 |
  p::ps,v::vs,A,b,a,ds,h,r=>by
  rw[YN] at h;cases hb:AD p sz with
  |false=>rw[hb] at h;cases h
  |
   true=>
   rw[hb] at h;obtain⟨c,f,g⟩:=Pt ps vs ((p,v)::A) b (a.ins p v) ds h (λx u d=>by
    show(a.ins p v).get x=I u;rw[GC] at d;rw[T.dA];split at d
    .rename_i e;subst e;rw[Bi rfl];exact d
    .rename_i e;rw[Bm (λh=>e h.symm)];exact r _ _ d)
   exact⟨c,by rw[JY,hb];exact f,g⟩
def Ahr {S:A9} {L n l:Nat} {st:LoopState} {o:Option DC} {f:T Aa} {sz:Nat} {ps:List Tmp} {a b:DC} {d:Nat} {i:AH} {A:As} {h:Y} {Q:Aa->Y->Prop}
 (s:h.t.get l=I (.loop st o f sz ps a b d)) (r:Gx A ⟨f,sz,[]⟩) (c:Um τ (B8 τ S L n) L l (λst p=>.loop st p f sz ps a b d) sz ps a b i A h Q):Cd (B8 τ S L (n+1)) (.yield l) i h Q:=by
 unfold Um at c;split at c
 case h_2=>cases c
 rename_i u v;obtain⟨w,x,z⟩:=Pt ps i A u f [] v r;have Da:∀(j:Option DC) (fr:Fr) (h:Y) (_:Unit) (A:As),fr.sz=sz->fr.ds=[]->Gx A fr->Ki l (λst p=>.loop st p f sz ps a b d) j Q A h->P1 Q λy=>Fy l j y.1 fr h:=λj fr h _ A _ d2 _ ⟨_,_,C,D⟩=>⟨_,_,D,λk kp=>by simp only[Fy,d2,IJ,C];cases j<;>rfl⟩
 suffices H:P1 Q λy=>B7 τ (B8 τ S L n) L (I l) a (.mk (λfr g=>
  (match fr.ds,g.t.get l with
   |
    [],I (.loop .ready Z _ _ _ _ _ _)=>(match IJ g l .busy Z with
    |some E=>B7 τ (B8 τ S L n) L (I l) b (.mk (Fy l Z y.1) (λid=>Fy l (I (.exit id)) y.1) (Fy l (I .ret) y.1) (λ_ _ _=>Z)) fr E
    |none=>Z)
   |_,_=>Z))
  (λ_ _ _=>Z) (λ_ _=>Z) (λ_ _ _=>Z)) ⟨w,sz,[]⟩ h from H.imp λ_ h=>h.imp λ_ ⟨q,e⟩=>⟨q,λk kp=>Eq.trans (by
   show Ll τ (B8 τ S L n) L l i _ k=_;unfold Ll;rw[s];simp only[x];rfl) (e k kp)⟩
 refine La W0 R3 L sz a _ _ _ () _ h c z B B ⟨λfr g _ A F d1 K ⟨m,c1⟩=>?_,λ_ _ _ _ _ _ _ _ c=>c.elim,λ_ _ _ _ _ _ _ c=>c.elim,λ_ _ _ _ _ _ _ _ c=>c.elim⟩;have M:IJ g l .busy Z=I (g.put l (.loop .busy Z f sz ps a b d)):=by
  unfold IJ;rw[m]
 simp only[d1,m,M];exact La W0 R3 L sz b _ _ A () fr _ c1 K F d1 ⟨Da Z,λid=>Da (I (.exit id)),Da (I .ret),λ_ _ _ _ _ _ _ _ c=>c.elim⟩
def JM {k:Y->Prop}:∀(D:Bo) {h:Y},D.Nodup->(∀b∈D,h.t.get b=I (.aq Ah))->(∀J,J.nx=h.nx->B0 (·∈D) h J->k J)->Og D k h
 |[],h,_,_,H=>H h B ((AA.refl h).ae _)
 |
  b::D,h,d,f,H=>by
  refine⟨f b Av,JM D (List.nodup_cons.1 d).2 (λc a=>?_) λJ g a=>H J (by rw[g,Cc]) ?_⟩
  .have j:c≠b:=λe=>(List.nodup_cons.1 d).1 (e▸a)
   rw[BQ,Bm j];exact f c (Az _ a)
  .exact(((Er.put h b (.aq Ag)).ae).mono (λi U=>by rw[U];exact Av)).trans (a.mono λi U=>Az _ U)
def Arm (l:Nat) (b:LoopState->Option DC->HB) (K:KG Bo) (A:As) (D:Bo) (h:Y):Prop:=
 ∃st a,h.t.get l=I (b st a)/\st≠.busy/\(match a with
  |none=>K.n A D (h.put l (b .exhausted a))
  |some .ret=>K.r A D (h.put l (b .exhausted a))
  |some (.exit id)=>K.x id A D (h.put l (b .exhausted a))
  |_=>False)
def XI {f:Au} {fn:BC} (h:τ.fn.get f=I fn) (hb:fn.body.isSome=Ag):(match τ.fn.get f with|some fn=>fn.body.isSome=Ag|none=>False):=by rw[h];exact hb
def T3 {m:Bool} {S:A9} {L n sz:Nat} {ps:Array Tmp} {e g:DC} {K:KG Bo} {A:As} {D:Bo} {h:Y} {f:Au} {first cap:Array Aa}
 (H:∀(i:LoopState->Option DC->HB),(∀(d:Nat) (j:As) (l:AH) (k:Y) (Q:Aa->Y->Prop),Sub j A->k.t.get (A3 h.nx)=I (i .ready Z)->
  Um τ (B8 τ S L d) L (A3 h.nx) i sz ps.toList e g l j k Q->Cd (B8 τ S L (d+1)) (.yield (A3 h.nx)) l k Q)->
  JW m (B8 τ S L n) (.func f) (first.toList++[.func (.yield (A3 h.nx)) #[] #[]]++cap.toList) ((h.new (.aq Ah)).new (i .ready Z)) (λ_ a=>Arm (A3 h.nx) i K A (h.nx::D) a)):
 ∀b,Gx A ⟨b,sz,[]⟩->JW m (B8 τ S L n) (.func f) (first.toList++[.func (.yield (A3 h.nx)) #[] #[]]++cap.toList) ((h.new (.aq Ah)).new (.loop .ready Z b sz ps.toList e g h.nx)) (λ_ a=>Anx (A3 h.nx) K A (h.nx::D) a):=by
 intro b r;obtain⟨Q,c,o⟩:=H (λst p=>.loop st p b sz ps.toList e g h.nx) (λm j l k Q q s c=>Ahr s (A:=j) (λt v u=>r t v (q t v u)) c);refine⟨Q,c,λv a w=>?_⟩;obtain⟨st,x,y,z,C⟩:=o v a w;exact⟨st,x,b,sz,ps.toList,e,g,h.nx,y,z,C⟩
end
section
variable{S:A9} {L:Nat}
section
variable {h J h0 h1 H:Y} {v fv nv pv cv ev lv u v':Aa} {xs args vs ys:AH} {b N i k e r j x m c q d a p t2 st sb mo ck lp rm b0 sz off:Nat} {t:Ai} {f:Au} {fn:BC} {s:Bd} {bs:Bl} {ws:Bo} {W:Nat->Prop} {Q:Aa->Y->Prop} {A:Option BD} {z df day:Int} {ss:BZ} {τ:Bb}
def P7 (l:List Bool) (c:Bool) {i j:Nat} (h:i<=j):(l.take i).count c<=(l.take j).count c:=by
 have:l.take i=(l.take j).take i:=by rw[List.take_take];congr 1;omega
 rw[this];exact(Ajl i (l.take j)).count_le c
def Akm (l:List Bool) (c:Bool) (i:Nat):(l.take (i+1)).count c<=(l.take i).count c+1:=by
 rw[List.take_add_one,K0];have:(l[i]?.toList).count c<=(l[i]?.toList).length:=HM;have a:(l[i]?.toList).length<=1:=by cases l[i]?<;>simp
 omega
def Oi:∀l:List Bool,l.count Ag+l.count Ah=l.length
 |[]=>rfl
 |
  b::l=>by
  have:=Oi l;cases b<;>simp<;>omega
def XB (l:List Bool) (c:Bool) (i:Nat):(l.take i).count c<=l.count c:=(Ajl i l).count_le c
def Afh (l:List Bool) {i:Nat} (U:i<=l.length):(l.take i).count Ag+(l.take i).count Ah=i:=by
 rw[Oi,Cg];omega
def Ahm {l:List Bool} (h0:l[0]?=I Ag) (h1:l[1]?=I Ah) {z:Nat} (c:1<(l.take (z+1)).count Ag):2<=z/\1<=(l.take z).count false:=by
 match l,h0,h1 with
 |
  a::b::r,h0,h1=>
  simp only[CO,B5,Option.some.injEq] at h0 h1;subst h0 h1
  match z,c with
  |0,c=>simp at c
  |1,c=>simp at c
  |z+2,c=>exact⟨G,by simp⟩
structure En where
 bits:List Bool
 is:List Bool
 lb:Bl
 ni:Nat
 wi:Nat
 cq:Bo
 nd:Bo
def En.n (t:En):Nat:=t.lb.length+1
def En.Ok (t:En):Prop:=t.bits.length=2*t.n+1/\t.bits.count Ag=t.n/\t.bits[0]?=I Ag/\t.bits[1]?=I Ah/\t.wi<=15/\t.n<=524287/\t.nd.length<=20000/\
 ∃a:Nat->Nat,(∀c z,1<=c->(t.bits.take z).count Ag<=c->c<(t.bits.take (z+1)).count Ag->(t.bits.take z).count Ah-1<t.n/\a ((t.bits.take z).count Ah-1)+1=a c)/\
  ∀x∈t.nd,x<t.n/\a x<=256
def Bn (l:Bo):AH:=l.map λx:Nat=>AL .i64 x
def HO (l:Bo):(Bn l).length=l.length:=by simp[Bn]
def GH {l:Bo} {k:Nat} (a:k<l.length):(Bn l)[k]?=I (Vi (l.getD k 0:Nat)):=by
 unfold Bn;rw[AX,Ak,Ab a];rfl
def DE (h:Y) (b:Nat) (t:En):Prop:=t.Ok/\(∃p,Cell h b 0 (AG p 0)/\Du h p t.bits)/\(∃p,Cell h b 1 (AG p 0)/\Du h p t.is)/\(∃v,Cell h b 2 v/\Rd h v 1 t.lb.length (Ay t.lb))/\
 (∃p,Cell h b 3 (AG p 0)/\BX h p t.ni t.wi t.cq)/\∃v,Cell h b 4 v/\Rd h v 1 t.nd.length (Bn t.nd)
def DE.ext {h J:Y} {b:Nat} {t:En} (T:DE h b t) (e:AA h J):DE J b t:=by
 obtain⟨a,⟨c,a0,b0⟩,⟨d,a1,b1⟩,⟨f,g,i⟩,⟨j,k,l⟩,m,n,o⟩:=T;exact⟨a,⟨c,a0.ext e,b0.ext e⟩,⟨d,a1.ext e,b1.ext e⟩,⟨f,g.ext e,i.ext e⟩,⟨j,k.ext e,l.ext e⟩,m,n.ext e,o.ext e⟩
def Aba {l:List Bool} {n k b c:Nat} (f:l.length=2*n+1) (g:l.count Ag=n) (h0:l[0]?=I Ag) (i:b<l.length) (j:c<l.length) (m:(l.take b).count Ah<=k) (o:k<(l.take (b+1)).count Ah)
 (p:(l.take c).count Ah<=k+1) (q:k+1<(l.take (c+1)).count Ah):b+1<=c/\1<=(l.take (b+1)).count Ag/\(l.take (b+1)).count Ag+c-(b+1)=(l.take c).count Ag/\(l.take (b+1)).count Ag<=(l.take c).count Ag/\(l.take c).count Ag<=n:=by
 have s:=Akm l Ah b;have d:b+1<=c:=by
  rcases A8 b c with h|h
  .exact h
  .have:=P7 l Ah (show c+1<=b+1 by omega);omega
 have t:=P7 l Ah d;have e:=P7 l Ag d;have u:=Afh l (show b+1<=l.length by omega);have v:=Afh l (show c<=l.length by omega);have a1:=XB l Ag c;have f1:1<=(l.take (b+1)).count true:=by
  have:=P7 l Ag (show 1<=b+1 by omega);have h1:(l.take 1).count Ag=1:=by
   match l,h0 with
   |a::r,h0=>simp only[CO,Option.some.injEq] at h0;subst h0;simp
  omega
 refine⟨d,f1,G,e,G⟩
def ADz {a b:Int} {x y:Nat} (h1:a=x) (c:b=y):C4 #[Vi a,Vi b]=.tuple #[Vi (x:Int),Vi (y:Int)]:=by rw[h1,c]
def Awe (a:Base S L) {h:Y} {b:Nat} {t:En} (T:DE h b t) {k:Nat} (A:k<t.n):
 Bk S L 6 320 [AG b 0,Vi k] h λw J=>AA h J/\∃x y:Nat,w=.tuple #[Vi x,Vi y]/\1<=x/\x<=y/\y<=t.n:=
 Cn f320 a λd C _=>by
  obtain⟨⟨l,m,o,D,E,k6,F,k8⟩,⟨p,f,g⟩,_⟩:=T;have H:t.bits.count Ah=t.n+1:=by have:=Oi t.bits;omega
  refine⟨_,ld B f,_,Aqx a g Ah (k:=k) G d G,?_⟩;rintro K h1 ⟨i,⟨hb,_⟩|⟨c,rfl,a1,M,N⟩⟩
  .omega
  refine⟨Pq,_,ld B (f.ext i),Pq,_,Aqx a (g.ext i) Ah (k:=(k:Int)+1) G d G,?_⟩;rintro O q ⟨r,⟨hb,_⟩|⟨s,rfl,b1,P,Q⟩⟩
  .omega
  have j:=i.trans r;obtain⟨R,u,V,v,z⟩:=Aba l m o a1 b1 (G:(t.bits.take c).count Ah<=k) G G G;refine⟨_,ld B (f.ext j),_,ZW a (g.ext j) Ag ((c:Int)+1) G d G,?_⟩;rintro _ q ⟨rfl,rfl⟩;have e:((c:Int)+1).toNat=c+1:=G;rw[e];refine⟨Pq,Pq,j,_,_,ADz B (G:_=(((t.bits.take s).count Ag:Nat):Int)),u,v,z⟩
def Arz (a b:Int) (hb:0<=b/\b<18446744073709551616):D8 .u64 a b<=b/\0<=D8 .u64 a b:=by
 have e:(BitVec.ofInt 64 a&&&BitVec.ofInt 64 b).toNat<=(BitVec.ofInt 64 b).toNat:=by rw[BitVec.toNat_and];exact Apg
 have d:(BitVec.ofInt 64 b).toNat=b.toNat:=by rw[BitVec.toNat_ofInt];omega
 have c:D8 .u64 a b=IntKind.wrap .u64 ((BitVec.ofInt 64 a&&&BitVec.ofInt 64 b).toNat:Int):=rfl;rw[c,G8];omega
def Aks (ws:Bo) {w:Nat} (b:w<=15) (i:Nat):E1 ws w i<=32767:=by
 obtain⟨q,a⟩:∃q,q=2^w:=⟨_,B⟩;have h1:1<=q:=by rw[a];exact Nat.one_le_two_pow
 have f:q<=2^15:=by rw[a];exact Na G b
 have c:Es .u64 1 (w:Int)=(q:Int):=by
  unfold Es;have e:min ((w:Int)).toNat IntKind.u64.bits=w:=by show min w 64=w;omega
  rw[e];have:(1:Int)*2^w=(q:Int):=by rw[a];push_cast;omega
  rw[this];exact FC Pq
 have d:UX (Es .u64 1 (w:Int)) 1=(q:Int)-1:=by rw[c];exact T0 Pq
 unfold E1;split
 .omega
 .show D8 .u64 _ _<=_
  rw[d];exact Int.le_trans (Arz _ _ G).1 G
def Avr (a:Base S L) {h:Y} {b:Nat} {t:En} (T:DE h b t) {k:Nat} (n:k<=1048576):
 Bk S L 3 267 [AG b 0,Vi k] h λw J=>AA h J/\∃(x:Nat) (f:Bool),w=.tuple #[Vi x,.bool f]/\x<=32767:=
 Cn f267 a λd o _=>by
  obtain⟨⟨r,s,u,v,g,k6,y,k8⟩,⟨p,z,A⟩,⟨C,c1,c⟩,_,⟨D,c3,j⟩,_⟩:=T;refine⟨_,ld B c1,_,Acw a c (i:=k) d G,?_⟩;rintro _ h ⟨rfl,rfl⟩;refine⟨_,_,B,Ad (λe=>?_) (λe=>?_)⟩
  .exact⟨AA.refl _,0,Ah,B,G⟩
  refine⟨[],Kq,_,ld B c3,_,ld B c1,_,ZW (h:=h.ad) a c Ag k G d G,?_⟩;rintro _ _ ⟨rfl,rfl⟩;refine⟨B,_,ZZ (h:=(nb h).ad) a (show BX (nb h) _ _ _ _ from j.ext (AT (AA.refl h))) d G,?_⟩;rintro _ _ ⟨rfl,rfl⟩;refine⟨B,?_⟩;have E:=FM t.cq t.wi (((t.bits.take 0).count Ag:Nat):Int).toNat;obtain⟨q,l,m⟩:∃q:Nat,(if(0:Int)<=((t.is.take (k:Int).toNat).count Ag:Nat)/\(((t.is.take (k:Int).toNat).count Ag:Nat):Int)<t.ni then E1 t.cq t.wi (((t.is.take (k:Int).toNat).count Ag:Nat):Int).toNat else 0)=(q:Int)/\q<=32767:=by
   split
   .have h1:=FM t.cq t.wi (((t.is.take (k:Int).toNat).count Ag:Nat):Int).toNat
    have F:=Aks t.cq g (((t.is.take (k:Int).toNat).count Ag:Nat):Int).toNat;exact⟨(E1 t.cq t.wi (((t.is.take (k:Int).toNat).count Ag:Nat):Int).toNat).toNat,G,G⟩
   .exact⟨0,B,G⟩
  rw[l];refine⟨_,.inl Pq,AT (AT (AA.refl h)),q,Ag,B,m⟩
def c91 (a:Base S L) {h:Y} {b:Nat} {t:En} (T:DE h b t):Bk S L 1 91 [AG b 0] h λw J=>w=Vi t.nd.length/\J=h:=
 Cn f91 a λd f _=>by
  obtain⟨_,_,_,_,_,v,c4,e⟩:=T;obtain⟨_,A,c,rfl,_⟩:=e;exact⟨_,B,_,ld B c4,B,B⟩
end
end
section
variable {h J h0 h1 H:Y} {v fv nv pv cv ev lv u v':Aa} {xs args vs ys:AH} {n b N i k e r j x m c q d a p t2 st sb mo ck lp rm b0 sz off:Nat} {t:Ai} {f:Au} {fn:BC} {s:Bd} {bs:Bl} {ws:Bo} {W:Nat->Prop} {Q:Aa->Y->Prop} {A:Option BD} {z df day:Int} {ss:BZ} {τ:Bb}
variable{S:A9} {L:Nat}
def Aus (f:Base S L) {t:En} (T:DE h b t) (r:k<t.n) {c:Int}:
 Bk S L 7 266 [AG b 0,Vi k,.int .u8 c] h λw J=>AA h J/\∃(x:Nat) (s:Bool),w=.tuple #[Vi x,.bool s]/\(s=Ag->x<t.n):=
 Cn f266 f λd W X=>by
  have v:=T;obtain⟨⟨k1,k2,k3,k4,k5,k6,k7,k8⟩,_,_,⟨v2,z,C⟩,_⟩:=T;have hn:t.n=t.lb.length+1:=rfl;refine cl (Awe f v r) ?_;rintro _ h1 ⟨H,x,y,rfl,K,D,M⟩;refine⟨λE A F=>∃x y:Nat,A=[(0,AG b 0),(1,Vi k),(2,.int .u8 c),(8,Vi x),(9,Vi y)]/\1<=x/\x<=y/\y<=t.n/\E=y-x/\AA h F,
   ⟨_,_,Sq,?_,x,y,B,K,D,M,B,H⟩,?_⟩
  .omega
  rintro E A F ⟨x,y,rfl,hx,D,N,rfl,g⟩ aa;apply Bz<;>intro e
  .obtain⟨m,O,ab,ad⟩:∃m:Nat,((x:Int)+y)/2=m/\x<=m/\m<y:=⟨(x+y)/2,G,G,G⟩
   obtain⟨a1,P,rfl,_,j⟩:=C.at_ G;have Q:=λi u l=>(j i u l).ext g;refine⟨Pq,_,Awi ⟨G,Pq⟩,?_⟩;rw[O];refine⟨_,ld B (z.ext g),Pq,G,_,Rd.ld Q B (i:=m-1) (by show((m:Int)-1).toNat*1=_;omega) (CY G),Ad (λo=>?_) (λo=>?_)⟩
   .refine⟨Pq,_,_,Sq,?_,m+1,y,B,G,G,N,B,g⟩
    omega
   .refine⟨_,_,Sq,?_,x,m,B,G,G,G,B,g⟩
    omega
  refine cl (Awe f (v.ext g) r) ?_;rintro _ h2 ⟨R,p,q,rfl,ae,af,ag⟩;have a:=g.trans R;refine⟨[],Kq,Bz (λo=>?_) (λo=>?_)⟩
  .obtain⟨a1,P,rfl,_,j⟩:=C.at_ G
   have V:=z.ext a;exact⟨_,ld B V,Pq,G,_,Rd.ld (λi u l=>(j i u l).ext a) B (i:=x-1) (by show((x:Int)-1).toNat*1=_;omega) (CY G),a,x,_,B,λ_=>G⟩
  .exact⟨a,x,Ah,B,λh=>by cases h⟩
def ADk (f:Base S L) {t:En} (T:DE h b t) (q:s.size<=100000000):
 Bk S L 8 269 [AG b 0,Sg s] h λw J=>AA h J/\∃(x:Nat) (a:Bool),w=.tuple #[Vi x,.bool a]/\(a=Ag->x<t.n):=
 Cn f269 f λd r u=>by
  have v:t.n=t.lb.length+1:=rfl;refine⟨λi A j=>∃(k x:Nat) (a:Bool),A=[(0,AG b 0),(1,Sg s),(6,Vi x),(7,.bool a),(8,Vi k)]/\k<=s.size/\i=s.size-k/\(a=Ag->x<t.n)/\AA h j,
   ⟨_,_,Sq,?_,0,0,Ag,B,Al _,B,λ_=>G,AA.refl _⟩,?_⟩
  .omega
  rintro i A j ⟨k,x,a,rfl,z,rfl,c,g⟩ C;apply Bz<;>intro e
  .apply Ad<;>intro l
   .refine⟨G,_,Aus f (T.ext g) (c l) d G,?_⟩
    rintro _ h1 ⟨m,y,o,rfl,p⟩;refine⟨Pq,_,_,Sq,?_,k+1,y,o,B,G,B,p,g.trans m⟩;omega
   .exact⟨g,x,a,B,c⟩
  .exact⟨g,x,a,B,c⟩
def ABs (c:Base S L) {t:En} (T:DE h b t) (i:s.size<=100000000):
 Bk S L 9 209 [AG b 0,Sg s] h λw J=>AA h J/\∃(x:Nat) (a:Bool),w=.tuple #[Vi x,.bool a]/\x<=32767:=
 Cn f209 c λd o _=>by
  have k6:=T.1.2.2.2.2.2.1;refine⟨_,B,Ad (λe=>?_) (λe=>?_)⟩
  .exact⟨AA.refl _,0,Ah,B,G⟩
  refine cl (ADk c T i) ?_;rintro _ h1 ⟨f,y,a,rfl,j⟩;refine⟨_,_,B,Ad (λg=>?_) (λg=>?_)⟩
  .exact⟨f,0,Ah,B,G⟩
  have k:a=true:=by cases a<;>first|rfl|cases g
  have:=j k;refine cl (Avr c (T.ext f) G) ?_;rintro _ p ⟨l,z,m,rfl,n⟩;exact⟨f.trans l,z,m,B,n⟩
def Vt (l:List (Nat×Nat)):AH:=l.flatMap λp=>[.int .i64 p.1,.int .i64 p.2]
def ABu (l:Base S L) {t:En} (T:DE h b t) (a:s.size<=100000000):
 Bk S L 8 205 [AG b 0,Sg s] h λw J=>AA h J/\∃a:List (Nat×Nat),AS J h.nx 326 2 w a.length (Vt a)/\(∀p∈a,p.1<=32767)/\a.length<=s.size:=
 Cn f205 l λd O P=>by
  have Q:t.n=t.lb.length+1:=rfl;have k6:=T.1.2.2.2.2.2.1;refine⟨_,B,λC A m=>∃(k x:Nat) (cv:Aa) (a:List (Nat×Nat)),A=[(0,AG b 0),(1,Sg s),(5,cv),(6,Vi x),(14,Vi s.size),(15,Vi k)]/\k<=s.size/\C=s.size-k/\x<t.n/\AA h m/\
   AS m h.nx 326 2 cv a.length (Vt a)/\(∀p∈a,p.1<=32767)/\a.length<=k,
   ⟨_,_,Sq,?_,0,0,_,[],B,Al _,B,G,AA.refl _,AS.nil _ _ _ _,(λp c=>by cases c),Ae _⟩,?_⟩
  .omega
  rintro C A m ⟨k,x,cv,f,rfl,R,rfl,H,g,o,hb,V⟩ W;apply Bz<;>intro e
  .refine⟨G,_,Aus l (T.ext g) H d G,?_⟩
   rintro _ h1 ⟨q,y,D,rfl,j⟩;have r:=g.trans q;refine⟨_,_,B,Ad (λE=>?_) (λE=>?_)⟩
   .exact⟨r,f,o.ext q,hb,G⟩
   have K:D=true:=by cases D<;>first|rfl|cases E
   have j:=j K;refine cl (Avr l (T.ext r) G) ?_;rintro _ M ⟨F,z,X,rfl,N⟩;have u:=r.trans F;have v:=(o.ext q).ext F;apply Ad<;>intro e3
   .obtain⟨v',J,t1,t2,t3,t4⟩:=Tz Kq v (ys:=[Vi z,Vi ((k:Int)+1)]) B B u.nx G
    refine⟨Pq,_,_,Iv (τ:=Ax) (t:=323) (k:=2) Kq (.agg #[Vi z,Vi ((k:Int)+1)]) B B (by decide) M,_,_,t1,Pq,_,_,Sq,?_,k+1,y,v',f++[(z,k+1)],B,G,B,j,u.then t3 λi U=>v.ai i U,?_,?_,?_⟩
    .omega
    .have:Vt (f++[(z,k+1)])=Vt f++[Vi z,Vi ((k:Int)+1)]:=by simp[Vt]
     rw[this,Aj];exact t2
    .intro p c
     rcases List.mem_append.1 c with c|c
     .exact hb p c
     .rw[List.mem_singleton.1 c];exact N
    .simp;omega
   .refine⟨Pq,_,_,Sq,?_,k+1,y,cv,f,B,G,B,j,u,v,hb,G⟩
    omega
  .exact⟨g,f,o,hb,G⟩
def Aew {z:Aa} (a:CP τ t=I z) (h:Y):∃h1,(∀A,D9 τ A h (.alloc t)=I (AG h.nx 0,h1))/\AA h h1/\Own h1 h.nx t (AJ z)/\h1.nx=h.nx+1:=by
 obtain⟨h1,b,c⟩:=H1 τ t z h;exact⟨h1,λA=>by show(match CP τ t with|some z=>K7 τ t z h|none=>Z)=_;rw[a];exact b,c⟩
def Arj (o:Own h p 286 (Ay bs)) (d:bs.length=256) (e:a<=256):∃v,C7 Ax 286 (AG p 0) (I (Vi a)) Z Z=I v/\Rd h v 1 (256-a) (Ay (bs.drop a)):=by
 refine⟨.slice (I ⟨p,0+a*1,I 0⟩) (256-a) (256-a),?_,?_⟩
 .show(bif Ar a 256&&Ar 256 256 then I (PA (I ⟨p,0+a*1,I 0⟩) (256-a) (256-a)) else Z)=_
  rw[Aq e];rfl
 .obtain⟨h1,c,x,f,g⟩:=o
  refine⟨by rw[A7,AV,d];omega,_,_,B,Ae _,(λh=>by cases h),λa' j=>?_⟩;cases j;refine⟨h1,c,_,_,_,_,_,f,λi u b=>g _ u ?_⟩;rw[←EA,Eg] at b;rw[show 0+a*1+i=a+i by omega];exact b
def ZR:List Bool->Nat->Nat
 |[],_=>0
 |true::_,0=>0
 |true::l,x+1=>ZR l x+1
 |false::l,x=>ZR l x+1
def Ui:∀(l:List Bool) (x z:Nat),(l.take z).count Ag<=x->x<(l.take (z+1)).count Ag->ZR l x=z
 |[],x,z,_,h=>by simp at h
 |
  b::l,x,0,h1,h=>by
  cases b with
  |
   true=>
   obtain rfl:x=0:=by simp at h;omega
   rfl
  |false=>simp at h
 |
  b::l,x,z+1,h1,h=>by
  rw[List.take_succ_cons] at h1 h;cases b with
  |
   true=>
   rw[List.count_cons_self] at h1 h;obtain⟨y,rfl⟩:∃y,x=y+1:=⟨x-1,G⟩;rw[ZR,Ui l y z G G]
  |
   false=>
   rw[List.count_cons_of_ne (by decide)] at h1 h;rw[ZR,Ui l x z h1 h]
def Awd (t:En) (x:Nat):Nat:=(t.bits.take (ZR t.bits x)).count Ah-1
def U2 (t:En):Nat->Nat->Bl->Bl
 |0,_,a=>a
 |f+1,x,a=>if x=0 then a else U2 t f (Awd t x) (t.lb.getD (x-1) 0::a)
def Sv (t:En) (k:Int):Bd:=if 0<=k/\k<(t.nd.length:Int) then EY (U2 t 256 (t.nd.getD k.toNat 0) []) else⟨#[]⟩
def c92 (m:Base S L) {t:En} (T:DE h b t) {k:Int}:
 Bk S L 6 92 [AG b 0,Vi k] h λw J=>AA h J/\∃(s:Bd) (ok:Bool),w=.tuple #[Sg s,.bool ok]/\s.size<=256/\s=Sv t k:=
 Cn f92 m λd ae hL=>by
  have aa:=T;obtain⟨⟨k1,k2,k3,k4,k5,k6,k7,j,k8,k9⟩,⟨p0,c0,O⟩,_,⟨v2,c2,r2⟩,_,v4,c4,r4⟩:=T;have hn:t.n=t.lb.length+1:=rfl;apply Ad<;>intro e
  .exact⟨AA.refl _,⟨#[]⟩,Ah,B,by decide,by rw[Sv,Bm (by have:=Fp e;omega)]⟩
  refine GZ (c91 m aa d G) ?_;apply Ad<;>intro r
  .exact⟨AA.refl _,⟨#[]⟩,Ah,B,by decide,by rw[Sv,Bm (by have:=Fp r;omega)]⟩
  have e:=KK e;have r:=KK r;obtain⟨q,rfl⟩:∃q:Nat,k=q:=⟨k.toNat,G⟩;obtain⟨h1,z1,y,o1,n1⟩:=Aew (z:=.agg ⟨AE 256 (.int .u8 0)⟩) Kq h;obtain⟨a4,y4,rfl,_,q4⟩:=r4.at_ G;have ab:t.nd.getD q 0∈t.nd:=by
   rw[Ak,Ab G];exact Bu _
  obtain⟨P,C⟩:=k9 _ ab;obtain⟨l,D⟩:∃l,l=t.nd.getD q 0:=⟨_,B⟩;rw[←D] at P C;refine⟨_,_,z1 _,_,ld B (c4.ext y),G,_,Rd.ld (λi u E=>(q4 i u E).ext y) B (i:=q) (by show((q:Int)).toNat*1=_;omega) (GH G),?_⟩;rw[←D];refine⟨λQ A F=>∃(x a:Nat) (bs:Bl),A=[(0,AG b 0),(6,AG h.nx 0),(7,Vi a),(8,Vi x)]/\x<t.n/\a+j l=256+j x/\j x<=256/\a<=256/\Q=j x/\bs.length=256/\Own F h.nx 286 (Ay bs)/\AA h F/\∃f,j x<=f/\U2 t f x (bs.drop a)=U2 t 256 l [],
   ⟨_,_,Sq,?_,l,256,AE 256 0,B,P,B,C,G,B,by simp,by rw[Ay,KD];exact o1,y,256,C,by simp⟩,?_⟩
  .omega
  rintro Q A F ⟨x,a,bs,rfl,hx,ha,af,ad,rfl,R,o,g,f,hf,V⟩ ag;apply Bz<;>intro e3
  .obtain⟨a2,y2,rfl,_,q2⟩:=r2.at_ G
   have ah:1<=j x:=by
    have hz:∃z,(t.bits.take z).count Ag<=x/\x<(t.bits.take (z+1)).count true:=by
     have Cw:∀n,x<(t.bits.take n).count Ag->∃z,(t.bits.take z).count Ag<=x/\x<(t.bits.take (z+1)).count true:=by
      intro n
      induction n with
      |zero=>intro h;simp at h
      |
       succ n ih=>
       intro h;rcases A8 x ((t.bits.take n).count Ag) with h1|h1
       .exact ih h1
       .exact⟨n,h1,h⟩
     exact Cw t.bits.length (by rw[CS];exact (G:x<t.bits.count Ag))
    obtain⟨z,h1,K⟩:=hz;have:=(k8 x z G h1 K).2;omega
   obtain⟨p,u5,u6,u7⟩:=Own.st (τ:=Ax) (t:=5) B (i:=a-1) (v:=.int .u8 ((t.lb.getD (x-1) 0).toNat:Int)) o (by rw[A7];omega) B;have u8:Own p h.nx 286 (Ay (bs.set (a-1) (t.lb.getD (x-1) 0))):=by
    have:Ay (bs.set (a-1) (t.lb.getD (x-1) 0))=(Ay bs).set (a-1) (.int .u8 ((t.lb.getD (x-1) 0).toNat:Int)):=by simp[Ay,Cp]
    rw[this];exact u6
   have M:=g.ah u7 (Ae _);have W:=c0.ext M;have v5:=O.ext M;refine⟨Pq,_,ld B (c2.ext g),Pq,G,_,Rd.ld (λi u E=>(q2 i u E).ext g) B (i:=x-1) (by show((x:Int)-1).toNat*1=_;omega) (CY G),G,p,(by rw[(by show 0+_*1=_;omega:0+((a:Int)-1).toNat*t5.size=a-1)];exact u5),[],Kq,_,ld B W,_,ld B W,_,Aqx (h:=p.ad) m v5 Ag G d G,?_⟩;rintro o2 K ⟨N,⟨hb,_⟩|⟨z,rfl,b1,b2,b3⟩⟩
   .omega
   have X:=M.trans N.aa;obtain⟨f1,f2⟩:=Ahm k3 k4 (z:=z) G;obtain⟨f3,f4⟩:=k8 x z G G G;have v6:=O.ext X;refine⟨N.ag,GZ (ZW (h:=(p.aa K).ad) m v6 Ah z G d G) ?_⟩;have ez:((z:Int)).toNat=z:=rfl;rw[ez];refine⟨B,Pq,_,_,Sq,?_,(t.bits.take z).count Ah-1,a-1,_,B,f3,G,G,G,B,?_,u8.ext (N.aa.trans (AT (AA.refl _))),AT X,f-1,G,?_⟩
   .omega
   .simp[R]
   .obtain⟨f',rfl⟩:∃f',f=f'+1:=⟨f-1,G⟩
    rw[←V,U2,Bm G,Awd,Ui t.bits x z G G,List.drop_set,Bm G,Nat.sub_self,Di G,List.set_cons_zero,show a-1+1=a by omega,Nat.add_sub_cancel]
  .obtain⟨v,s1,s2⟩:=Arj o R ad
   have s3:=FB (τ:=Ax) (s:=62) (d:=9) Kq s2;obtain⟨_,A,c,rfl,_⟩:=s2;refine⟨_,_,(λH=>by rw[s1];rfl:∀H,CN H (C7 Ax 286 (AG h.nx 0) (I (Vi a)) Z Z)=I (.slice A (256-a) c,H)) _,_,s3,g,_,Ag,B,?_,?_⟩
   .show(bs.drop a).length<=256
    rw[AV];omega
   .obtain rfl:x=0:=G
    rw[Sv,Bi G,show((q:Int)).toNat=q from B,←D,←V];cases f<;>rfl
def Ajr (q:Base S L) {w:Aa} {cs:Bl} (o:AS h N 5 1 v n (Ay bs)) (g:N<=h.nx) (r:Rd h w 1 m (Ay cs)) (s:∀i,BY w i->¬BY v i) (Q:n<=100000000) (R:m<=100000000):
 Bk S L 1 183 [v,w] h λu J=>∃t:Bl,AS J N 5 1 u (n+4+m) (Ay t)/\B0 (BY v) h J/\Grw h v u:=
 Cn f183 q λd T _=>by
  obtain⟨y,j,k,rfl,z,A,C⟩:=r;have D:Rd h (.slice j m k) 1 m (Ay cs):=⟨y,j,k,B,z,A,C⟩;obtain⟨b,E⟩:=DH (m:Int);obtain⟨c,F⟩:=DH (DN .i64 (m:Int) 8);obtain⟨e,H⟩:=DH (DN .i64 (m:Int) 16);obtain⟨f,K⟩:=DH (DN .i64 (m:Int) 24);have a:=AA.row h 5 (Ay [b,c,e,f]);obtain⟨V,h1,t1,t2,t3,t4⟩:=UN Kq (o.ext a) (x:=sL h.nx 4 4) (ys:=Ay [b,c,e,f]) B
   (by rw[Il (Own.row h 5 (Ay [b,c,e,f])) (by show 0+4*1<=4;decide)];rfl) B B (Ao g a.nx) G
  have l:=(D.ext a).ae t3 s;obtain⟨W,X,M,p,O,P⟩:=UN Kq t2 l.bu l.src Jq (Fa cs) (Ao (Ao g a.nx) t3.nx) G;rw[←Ee,←Ee] at p;have hx:=a.nx;have aa:=t3.nx;refine⟨_,.inr E.symm,G,_,.inr F.symm,G,_,.inr H.symm,G,_,.inr K.symm,_,_,bs4 _ _ _ _ h,_,_,t1,_,_,M,_,p,((a.ae _).trans t3).then O λi U=>?_,λi U=>?_⟩
  .rcases t4 i U with h|h
   .exact .inl h
   .right;omega
  .rcases P i U with h|h
   .rcases t4 i h with h|h
    .exact .inl h
    .right;omega
   .right;omega
def Aqp (a:Base S L) {t:En} (T:DE h b t):Bk S L 3 103 [AG b 0] h λw J=>AA h J/\∃bs:Bl,bs.length<=12000000/\AS J h.nx 5 1 w bs.length (Ay bs):=
 Cn f103 a λd P _=>by
  have k6:=T.1.2.2.2.2.2.1;have Q:t.n=t.lb.length+1:=rfl;obtain⟨R,⟨V,x,y⟩,⟨W,c1,z⟩,⟨X,A,q⟩,⟨p3,c3,C⟩,_⟩:=T;refine⟨_,B,_,ld B x,_,Akb a y d G,?_⟩;rintro o1 h1 ⟨r,b1,l1,D⟩;refine⟨_,Ajr a (AS.nil h1 h.nx 5 1) r.nx D.rd (bs:=[]) (λi _ h=>h.elim) G G d G,?_⟩;rintro u1 h2 ⟨e1,j,E,w1⟩;have e:=r.then E λi U=>U.elim
  refine⟨_,ld B (A.ext e),_,Ajr a j e.nx (q.ext e) (λi U c=>by have:=q.aw i U;have:=j.ai i c;omega) G G d G,?_⟩;rintro u2 h3 ⟨e2,k,F,w2⟩;have f:=e.then F λi U=>j.ai i U
  refine⟨_,ld B (c1.ext f),_,Akb a (z.ext f) d G,?_⟩;rintro o4 h4 ⟨l,H,l4,s⟩;refine⟨_,Ajr a (k.ext l) (Ao f.nx l.nx) s.rd (λi U c=>by have:=s.ai i U;have:=k.aw i c;omega) G G d G,?_⟩;rintro u3 h5 ⟨e3,m,K,w3⟩;have g:=(f.trans l).then K λi U=>k.ai i U
  refine⟨_,ld B (c3.ext g),_,Apt a (C.ext g) d G,?_⟩;rintro o6 h6 ⟨o,M,l6,u⟩;refine⟨_,Ajr a (m.ext o) (Ao g.nx o.nx) u.rd (λi U c=>by have:=u.ai i U;have:=m.aw i c;omega) G G d G,?_⟩;rintro u4 h7 ⟨v,p,N,w4⟩;have O:0+4+b1.length+4+t.lb.length+4+H.length+4+M.length=v.length:=by have:=p.len;rw[A7] at this;exact this
  rw[O] at p;exact⟨(g.trans o).then N λi U=>m.ai i U,v,G,p⟩
end
open Go Go.Proofs Tryz
section
variable {h J h0 h1 H:Y} {v fv nv pv cv ev lv u v':Aa} {xs args vs ys:AH} {n b N i k e r j x m c q d a p t2 st sb mo ck lp rm b0 sz off:Nat} {t:Ai} {f:Au} {fn:BC} {s:Bd} {bs:Bl} {ws:Bo} {W:Nat->Prop} {Q:Aa->Y->Prop} {A:Option BD} {z df day:Int} {ss:BZ} {τ:Bb}
variable{S:A9} {L:Nat}
def gS (l:BZ) (i:Nat):Bl:=(l.getD i ⟨#[]⟩).data.toList
def Js {l:BZ} {i:Nat} (U:i<l.length):gS l i=l[i].data.toList:=by
 unfold gS;rw[Ak,Ab U];rfl
def J9 (s:Bd):s.size=s.data.toList.length:=by rw[EZ];rfl
def Td:∀a b:Bl,KJ a b=Ag\/a=b\/KJ b a=Ag
 |[],[]=>.inr (.inl B)
 |[],_::_=>.inl B
 |_::_,[]=>.inr (.inr B)
 |
  a::l,b::m=>by
  rcases FD a.toNat b.toNat with h|h|h
  .left;show(bif AD a.toNat b.toNat then Ag else _)=Ag;rw[show AD a.toNat b.toNat=Ag by rw[AK];exact h];rfl
  .have e:a=b:=UInt8.toNat_inj.1 h
   subst e;have c:∀x y:Bl,KJ (a::x) (a::y)=KJ x y:=λx y=>by
    show(bif AD a.toNat a.toNat then Ag else bif Am a.toNat a.toNat then KJ x y else Ah)=_
    rw[show AD a.toNat a.toNat=Ah by rw[MK,ne_eq,AK];omega,show Am a.toNat a.toNat=Ag by simp];rfl
   rw[c,c];rcases Td l m with h|h|h
   .exact .inl h
   .exact .inr (.inl (by rw[h]))
   .exact .inr (.inr h)
  .right;right;show(bif AD b.toNat a.toNat then Ag else _)=Ag;rw[show AD b.toNat a.toNat=Ag by rw[AK];exact h];rfl
def Apy (l:BZ):Prop:=l.length<=20000/\(∀i,i<l.length->1<=(gS l i).length/\(gS l i).length<=256)/\∀i,i+1<l.length->KJ (gS l i) (gS l (i+1))=Ag
def CM (l:BZ):(AR l).length=l.length:=by simp[AR]
def ABk (s:Base S L) {h:Y} {v:Aa} {l:BZ} (r:Rd h v 1 l.length (AR l)):
 Bk S L 1 169 [v] h λw J=>J=h/\(w=Vi 0/\Apy l\/w=Vi 1\/w=Vi 2):=
 Cn f169 s λd N O=>by
  obtain⟨u,c,f,rfl,x,y,z⟩:=r;have C:Rd h (.slice c l.length f) 1 l.length (AR l):=⟨u,c,f,B,x,y,z⟩;apply Bz<;>intro e
  .exact⟨B,.inr (.inr B)⟩
  refine⟨λp A b=>b=h/\∃k:Nat,A=[(0,.slice c l.length f),(8,.slice c l.length f),(9,Vi l.length),(10,Vi k)]/\k<=l.length/\p=l.length-k/\
   (∀i,i<k->1<=(gS l i).length/\(gS l i).length<=256)/\∀i,i+1<k->KJ (gS l i) (gS l (i+1))=Ag,
   ⟨_,_,Sq,?_,B,0,B,Al _,B,λi U=>G,λi U=>G⟩,?_⟩
  .omega
  rintro p A b ⟨rfl,k,rfl,P,rfl,f1,f2⟩ Q;apply Bz<;>intro R
  .have g:k<l.length:=G
   obtain⟨a1,T,D,_,q⟩:=C.at_ G;cases D;have E:=Rd.ld q (t:=9) B (j:=((k:Int)).toNat*1) (i:=k) (by show k*1=k;omega) (Dl g);refine⟨G,_,E,_,B,Ad (λm=>?_) (λm=>?_)⟩
   .exact⟨B,.inr (.inl B)⟩
   have F:1<=(gS l k).length:=by
    rw[Js g];rcases KQ l[k].data.toList.length with h0|h0
    .have:l[k].data.toList=[]:=List.length_eq_zero_iff.1 h0
     rw[this] at m;cases m
    .exact h0
   apply Bz<;>intro V
   .exact⟨B,.inr (.inl B)⟩
   have H:(gS l k).length<=256:=by rw[Js g,←J9];omega
   have Da:∀(b:0<k->KJ (gS l (k-1)) (gS l k)=Ag),(∀i,i<k+1->1<=(gS l i).length/\(gS l i).length<=256)/\∀i,i+1<k+1->KJ (gS l i) (gS l (i+1))=true:=λb=>
    ⟨λi U=>by
     rcases A8 i k with h|h
     .exact f1 i h
     .have:i=k:=G
      subst this;exact⟨F,H⟩,λi U=>by
     rcases A8 (i+1) k with h|h
     .exact f2 i h
     .have:k=i+1:=G
      subst this;exact b G⟩
   apply Bz<;>intro W
   .have K:=Rd.ld q (t:=9) B (j:=((k:Int)-1).toNat*1) (i:=k-1) G (Dl (show k-1<l.length by omega))
    refine⟨Pq,G,_,K,_,B,Ad (λa=>?_) (λa=>?_)⟩
    .exact⟨B,.inr (.inl B)⟩
    have M:KJ (gS l (k-1)) (gS l k)=true:=by
     rw[Js g,Js (show k-1<l.length by omega)];have a:(KJ l[k].data.toList l[k-1].data.toList||Gp l[k].data.toList l[k-1].data.toList)=false:=a;rw[Iy] at a;rcases Td l[k-1].data.toList l[k].data.toList with h|h|h
     .exact h
     .have:Gp l[k].data.toList l[k-1].data.toList=true:=by rw[J0,beq_iff_eq];exact h.symm
      rw[a.2] at this;cases this
     .rw[a.1] at h;cases h
    obtain⟨n,o⟩:=Da (λ_=>M);refine⟨Pq,_,_,Sq,?_,B,k+1,B,G,B,n,o⟩;omega
   .obtain⟨n,o⟩:=Da (λ_=>G)
    refine⟨Pq,_,_,Sq,?_,B,k+1,B,G,B,n,o⟩;omega
  .obtain rfl:k=l.length:=G
   exact⟨B,.inl ⟨B,G,f1,f2⟩⟩
def Lq (l:BZ) (a b d:Nat):Prop:=a<=b/\b<=l.length/\∀i,a<=i->i<b->d<=(gS l i).length/\(gS l i).take d=(gS l a).take d
def Y1:∀y z:Bl,KJ (y++z) y=Ah
 |[],z=>by cases z<;>rfl
 |
  a::y,z=>by
  show(bif AD a.toNat a.toNat then Ag else bif Am a.toNat a.toNat then KJ (y++z) y else Ah)=_
  rw[show AD a.toNat a.toNat=Ah by rw[MK,ne_eq,AK];omega,show Am a.toNat a.toNat=Ag by simp];exact Y1 y z
def Abg {l:BZ} (s:Apy l) {a b d:Nat} (o:Lq l a b d) {j:Nat} (h1:a<j) (f:j<b):d<(gS l j).length:=by
 obtain⟨m,n,e⟩:=o;obtain⟨p,g⟩:=e j G f;rcases A8 d (gS l j).length with h|h
 .exact h
 have i:gS l j=(gS l j).take d:=(Bj h).symm;obtain⟨q,k⟩:=e (j-1) G G;have c:=s.2.2 (j-1) G;rw[show j-1+1=j by omega] at c;rw[i,g,←k] at c;have:=Y1 ((gS l (j-1)).take d) ((gS l (j-1)).drop d);rw[FO] at this;rw[this] at c;cases c
def XE (h:Y) (c bl:Nat) (v:Aa) (l:BZ) (a b d:Nat):Prop:=Cell h c 0 (.int .i64 a)/\Cell h c 1 (.int .i64 b)/\Cell h c 2 (.int .i64 d)/\Cell h bl 0 v/\Rd h v 1 l.length (AR l)
def ZP (S:A9) (L:Nat) (d:Nat) (f:Fn) (args:AH) (h:Y) (Q:Aa->Y->Prop):Prop:=∀n,d<=n->Cd (B8 Ax S L n) f args h Q
def Ayq {a b:UInt8} (h:(a.toNat:Int)=(b.toNat:Int)):a=b:=by
 have:a.toNat=b.toNat:=G;exact UInt8.toNat_inj.1 this
def AGb (m:Base S L) {h:Y} {v:Aa} {l:BZ} (r:Rd h v 1 l.length (AR l)) {a b e:Nat}:
 Bk S L 1 170 [.agg #[Vi a,Vi b,Vi e],v] h λw J=>AA h J/\∃g bl,h.nx<=g/\h.nx<=bl/\w=.func (.func 238) #[] #[AG g 0,AG bl 0]/\XE J g bl v l a b e:=
 Cn f170 m λd t _=>by
  obtain⟨h1,b1,i,n,u⟩:=H1 Ax 276 (.agg #[Vi a,Vi b,Vi e]) h;obtain⟨o,p,f,k,x⟩:=H1 Ax 55 v h1;have q:Own o h1.nx 55 [v]:=by
   have:AJ v=[v]:=by obtain⟨_,A,c,rfl,_⟩:=r;rfl
   rw[this] at k;exact k
  have s:=i.nx;have j:Own h1 h.nx 276 [Vi a,Vi b,Vi e]:=n;refine⟨_,_,b1,_,_,p,i.trans f,h.nx,h1.nx,Ae _,s,B,(j.cell B).ext f,(j.cell B).ext f,(j.cell B).ext f,q.cell B,r.ext (i.trans f)⟩
def ADl (W:Base S L) {h:Y} {x y bl:Nat} {v:Aa} {l:BZ} {a b e dy:Nat} (D:Apy l) (E:Lq l a b e) (o:Nat->Y->Prop) (M:∀i f,o i f->XE f y bl v l a b e)
 (h0:∀i,i=a\/i=a+1->o i h) (X:∀i k f,o i f->a<=i->i<k->k<=b->e<(gS l i).length->Lq l i k (e+1)->ZP S L dy (.yield x) [.agg #[Vi i,Vi k,Vi ((e:Int)+1)]] f λu J=>u=.bool Ag/\o k J):
 Bk S L (dy+1) 238 [.func (.yield x) #[] #[],AG y 0,AG bl 0] h λ_ J=>∃i,i<=l.length+1/\o i J:=
 Cn f238 W λd af hL=>by
  have ag:=D.1;obtain⟨CN,aa,z⟩:=E;have E:Lq l a b e:=⟨CN,aa,z⟩;obtain⟨s1,s2,s3,s4,s5⟩:=M a h (h0 a (.inl B));have N:=h0 a (.inl B);have O:∀j,a<j->j<b->e<(gS l j).length:=λj h1 c=>Abg D E h1 c
  let F:Nat->As->Y->Prop:=λp A f=>∃i:Nat,A=[(0,.func (.yield x) #[] #[]),(1,AG y 0),(2,AG bl 0),(4,Vi i)]/\a<=i/\i<=b/\p=b-i/\(∀j,i<=j->j<b->e<(gS l j).length)/\o i f
  refine⟨_,ld B s1,[],Kq,_,ld B s2,Ad (λg=>?a) (λg=>?b)⟩
  case' b=>
   refine⟨F,⟨_,_,Sq,?_,a,B,Ae _,CN,B,λj h1 c=>?_,N⟩,?_⟩
  case' a=>
   obtain⟨a1,y1,rfl,_,q1⟩:=s5.at_ (by have:=Fp g;omega);refine⟨_,ld B s4,⟨G,by have:=Fp g;omega⟩,_,Rd.ld q1 (t:=9) B (j:=((a:Int)).toNat*1) (i:=a) (by show a*1=a;omega) (Dl (by have:=Fp g;omega)),_,ld B s3,Ad (λC=>?a1) (λC=>?a2)⟩
  case' a1=>
   refine⟨Pq,F,⟨_,_,Sq,?_,a+1,B,G,by have:=Fp g;omega,B,λj h1 c=>O j G c,h0 _ (.inr B)⟩,?_⟩
  case' a2=>
   refine⟨F,⟨_,_,Sq,?_,a,B,Ae _,CN,B,λj h1 c=>?_,N⟩,?_⟩
  all_goals first
   |omega
   |(have g:=KK g;omega)
   |(
    rcases A8 a j with h|h
    .exact O j h c
    .have g:=Fp g
     have C:=KK C;obtain rfl:j=a:=by omega
     have:=(z j (Ae _) c).1;rw[Js (show j<l.length by omega)] at this⊢;rw[J9] at C;omega)
   |skip
  all_goals
   rintro p A f ⟨i,rfl,ab,ah,rfl,m,H⟩ ai;obtain⟨w1,P,K,Q,w5⟩:=M i f H;refine⟨_,ld B P,Bz (λe3=>?_) (λe3=>?_)⟩;rotate_left
   .exact⟨i,G,H⟩
   obtain⟨a2,y2,e9,_,R⟩:=w5.at_ G;cases e9;have aj:=m i (Ae _) G;have ak:=(D.2.1 i G).2;refine⟨Pq,λp A J=>J=f/\∃k:Nat,A=[(0,.func (.yield x) #[] #[]),(1,AG y 0),(2,AG bl 0),(4,Vi i),(5,Vi k)]/\i<k/\k<=b/\p=b-k/\∀j,i<=j->j<k->(gS l j)[e]?=(gS l i)[e]?,
    ⟨_,_,Sq,?_,B,i+1,B,G,G,B,λj h1 c=>by rw[show j=i by omega]⟩,?_⟩
   .omega
   rintro p A J ⟨rfl,k,rfl,ad,T,rfl,V⟩ al;refine⟨[],Kq,_,ld B P,Bz (λe4=>?_) (λe4=>?_)⟩;have q:=m k G G;have r:=m i G G;have s:k<l.length:=G;have w:i<l.length:=G;rw[Js s,←J9] at q;rw[Js w,←J9] at r;refine⟨_,ld B Q,G,_,Rd.ld R (t:=9) B (j:=((k:Int)).toNat*1) (i:=k) (by show k*1=k;omega) (Dl s),_,ld B K,G,
    _,ld B Q,G,_,Rd.ld R (t:=9) B (j:=((i:Int)).toNat*1) (i:=i) (by show i*1=i;omega) (Dl w),_,ld B K,G,Ad (λn=>?_) (λn=>?_)⟩
   .have n:=Ayq (Fp n)
    have s:k<l.length:=G;have w:i<l.length:=G;have q:=m k G G;have r:=m i G G;rw[Js s] at q;rw[Js w] at r;have e6:(gS l k)[e]?=(gS l i)[e]?:=by
     rw[Js s,Js w];have n:l[k].data.toList.getD e 0=l[i].data.toList.getD e 0:=n;rw[Ak,Ak,Ab q,Ab r] at n;rw[Ab q,Ab r];exact Cs I n
    refine⟨Pq,_,_,Sq,G,B,k+1,B,G,G,B,λj h1 c=>?_⟩;rcases A8 j k with h|h
    .exact V j h1 h
    .rw[show j=k by omega];exact e6
   all_goals
    refine⟨_,ld B K,Pq,_,X i k J H ab ad T (m i (Ae _) G) ⟨G,G,λj h1 c=>⟨m j h1 G,?_⟩⟩ d G,?_⟩
    .rw[List.take_add_one,List.take_add_one,V j h1 c,(z j G G).2,(z i G G).2]
    rintro _ c ⟨rfl,ae⟩;refine⟨_,_,B,?_⟩;exact⟨_,_,Sq,G,k,B,G,T,B,λj h1 c=>m j G c,ae⟩
end
structure Ct where
 am:Nat->Prop
 holds:Y->Prop
 aH:∀{W:Nat->Prop} {h J:Y},B0 W h J->(∀i,am i->¬W i)->holds h->holds J
 lt:∀{h:Y},holds h->∀i,am i->i<h.nx
 bk:∀{h J:Y},holds J->holds (h.aa J)
def aO (b:Nat) (e:Ai) (xs:AH):Ct:={
 am:=λi=>i=b
 holds:=λh=>Own h b e xs
 aH:=λc a o=>o.ae c (a b B)
 lt:=λo i U=>by rw[U];exact o.1
 bk:=λo=>o.aa}
def aS (N:Nat) (e:Ai) (k:Nat) (v:Aa) (n:Nat) (xs:AH):Ct:={
 am:=BY v
 holds:=λh=>AS h N e k v n xs
 aH:=λc a o=>o.ae c a
 lt:=λo i U=>o.aw i U
 bk:=λo=>o.aa}
def aB (b:Nat) (x:HB):Ct:={
 am:=λi=>i=b
 holds:=λh=>b<h.nx/\h.t.get b=I x
 aH:=λc a o=>⟨AC o.1 c.nx,(c.t b o.1 (a b B)).trans o.2⟩
 lt:=λo i U=>by rw[U];exact o.1
 bk:=λo=>by rw[CL,DF];exact o}
def Sep (h0 h:Y) (l:List Ct):Prop:=AA h0 h/\(∀(i:Nat) (a:Ct),l[i]?=I a->a.holds h/\∀x,a.am x->h0.nx<=x)/\
 ∀(i j:Nat) (a b:Ct),i≠j->l[i]?=I a->l[j]?=I b->∀x,a.am x->¬b.am x
def Sep.nil (h:Y):Sep h h []:=⟨AA.refl h,λi a e=>by simp at e,λi j a b _ e=>by simp at e⟩
section
variable{h0 h:Y} {l:List Ct}
def Sep.e (s:Sep h0 h l):AA h0 h:=s.1
def Sep.dD (s:Sep h0 h l) {i b e:Nat} {xs:AH} (U:l[i]?=I (aO b e xs)):Own h b e xs:=(s.2.1 i _ U).1
def Sep.sl (s:Sep h0 h l) {i N e k n:Nat} {v:Aa} {xs:AH} (U:l[i]?=I (aS N e k v n xs)):AS h N e k v n xs:=(s.2.1 i _ U).1
def Sep.a7 (s:Sep h0 h l) {i b:Nat} {x:HB} (U:l[i]?=I (aB b x)):h.t.get b=I x:=(s.2.1 i _ U).1.2
def Sep.ge (s:Sep h0 h l) {i:Nat} {a:Ct} (U:l[i]?=I a):∀x,a.am x->h0.nx<=x:=(s.2.1 i _ U).2
def Sep.ext (s:Sep h0 h l) {J:Y} (x:AA h J):Sep h0 J l:=
 ⟨s.1.trans x,λi a U=>⟨a.aH (x.ae λ_=>False) (λ_ _ h=>h) (s.2.1 i a U).1,(s.2.1 i a U).2⟩,s.2.2⟩
def Sep.ah (s:Sep h0 h l) {i:Nat} {a a':Ct} {J:Y} (U:l[i]?=I a) (c:B0 a.am h J) (t:a'.holds J) (u:∀x,a'.am x->a.am x\/h.nx<=x):Sep h0 J (l.set i a'):=by
 obtain⟨v,g,n⟩:=s;have y:i<l.length:=(List.getElem?_eq_some_iff.1 U).1;refine⟨v.then c (g i a U).2,λj b d=>?_,λj k b o w d m x f p=>?_⟩
 .rw[Iu] at d
  split at d
  .rename_i e
   subst e;cases d;refine⟨t,λx f=>?_⟩;rcases u x f with h|h
   .exact(g i a U).2 x h
   .exact Ao v.nx h
  .rename_i e
   exact⟨b.aH c (λx f=>λt=>n i j a b e U d x t f) (g j b d).1,(g j b d).2⟩
 .rw[Iu] at d m
  split at d<;>split at m
  .rename_i q r;exact w (q.symm.trans r)
  .rename_i q r
   cases d;rcases u x f with h|h
   .exact n i k a o r U m x h p
   .have:=o.lt (g k o m).1 x p;omega
  .rename_i q r
   cases m;rcases u x p with h|h
   .exact n j i b a (λh=>q h.symm) d U x f h
   .have:=b.lt (g j b d).1 x f;omega
  .exact n j k b o w d m x f p
def Sep.add (s:Sep h0 h l) {a:Ct} {J:Y} (x:AA h J) (m:a.holds J) (d:∀i,a.am i->h.nx<=i):Sep h0 J (a::l):=by
 have k:=s.ext x;refine⟨k.1,λi b U=>?_,λi j b e n U f y c g=>?_⟩
 .cases i with
  |zero=>cases U;exact⟨m,λy c=>Ao s.1.nx (d y c)⟩
  |succ i=>exact k.2.1 i b (by simpa using U)
 .cases i with
  |
   zero=>
   cases U;cases j with
   |zero=>exact n B
   |
    succ j=>
    have:=e.lt (s.2.1 j e (by simpa using f)).1 y g;have:=d y c;omega
  |
   succ i=>
   cases j with
   |
    zero=>
    cases f;have:=b.lt (s.2.1 i b (by simpa using U)).1 y c;have:=d y g;omega
   |succ j=>exact s.2.2 i j b e (G) (by simpa using U) (by simpa using f) y c g
def Sep.aZ (s:Sep h0 h l) {i:Nat} {a a':Ct} {J:Y} (U:l[i]?=I a) (c:B0 a.am h.ad J) (b:a'.holds J) (d:∀x,a'.am x->a.am x\/h.nx<=x):Sep h0 (h.aa J) (l.set i a'):=
 s.ah U c.aa (a'.bk b) d
def Sep.bz (s:Sep h0 h l) {J:Y} (x:AA h.ad J):Sep h0 (h.aa J) l:=s.ext x.aa
def Sep.cf (s:Sep h0 h l) {a:Ct} {J:Y} (x:AA h.ad J) (b:a.holds J) (c:∀i,a.am i->h.nx<=i):Sep h0 (h.aa J) (a::l):=s.add x.aa (a.bk b) c
def Sep.st {t:Ai} (a:Gv Ax t=Ag) (s:Sep h0 h l) {i b e:Nat} {xs:AH} (U:l[i]?=I (aO b e xs)) {j:Nat} (c:j<xs.length) {v:Aa} (d:one v=Ag):
 ∃J,BA Ax t h b j v=I J/\Sep h0 J (l.set i (aO b e (xs.set j v))):=by
 obtain⟨J,a1,f,g⟩:=Own.st a (s.dD U) c d;exact⟨J,a1,s.ah U g.ae f λx k=>.inl k⟩
def Sep.stM {t:Ai} (a:Gv Ax t=Ag) (s:Sep h0 h l) {i b e:Nat} {xs:AH} (U:l[i]?=I (aO b e xs)) {j:Nat} (c:j<xs.length) {v:Aa} (d:one v=Ag):
 ∃J,BA Ax t h.ad b j v=I J/\Sep h0 (h.aa J) (l.set i (aO b e (xs.set j v))):=by
 obtain⟨J,a1,f,g⟩:=Own.st (h:=h.ad) a (s.dD U) c d;exact⟨J,a1,s.aZ U g.ae f λx k=>.inl k⟩
def Sep.cC {τ:Bb} {t:Ai} (c:Gv τ t=Ag) (s:Sep h0 h l) {i b e:Nat} {xs:AH} (U:l[i]?=I (aO b e xs)) {j:Nat} (d:j<xs.length) {v:Aa} (f:one v=Ag):
 ∃J,BA τ t h.ad b j v=I J/\Sep h0 (h.aa J) (l.set i (aO b e (xs.set j v)))/\Er b h (h.aa J):=by
 obtain⟨J,a1,g,a⟩:=Own.st (h:=h.ad) c (s.dD U) d f;exact⟨J,a1,s.aZ U a.ae g (λx k=>.inl k),a.aa⟩
def Sep.ba {st t2 e k:Nat} (b:G1 Ax st t2 e k=Ag) (s:Sep h0 h l) {i N n:Nat} {v:Aa} {xs ys:AH} (U:l[i]?=I (aS N e k v n xs)) (c:ys.length=k) (d:ys.all one=Ag) (f:N<=h.nx) (hb:n+1<=1000000000) {n':Nat} {xs':AH} (g:n'=n+1) (j:xs'=xs++ys):
 ∃a J,Bx Ax .append [st,t2] [v,.slice (I ⟨h.nx,0,Z⟩) 1 1] (BN h e ys)=I (a,J)/\Sep h0 J (l.set i (aS N e k a n' xs')):=by
 subst g j;obtain⟨a,J,t1,t2,t3,t4⟩:=Go.Ev.Tz b (s.sl U) c d f hb;exact⟨a,J,t1,s.ah U t3 t2 t4⟩
def Sep.perm (s:Sep h0 h l) {l':List Ct} (p:l.Perm l'):Sep h0 h l':=by
 obtain⟨m,n,o⟩:=s;have q:∀a∈l,a.holds h/\∀x,a.am x->h0.nx<=x:=λa r=>by
  obtain⟨i,U⟩:=Iz r;exact n i a U
 have t:l.Pairwise λa b=>∀x,a.am x->¬b.am x:=by
  rw[F8];intro i j U c v;exact o i j _ _ (G) (Ab U) (Ab c)
 have d:=(p.pairwise_iff (λ{a b} u x e f=>u x f e)).1 t;rw[F8] at d;refine⟨m,λi a U=>q a (p.symm.subset (AZ U)),λi j a b w U c=>?_⟩;obtain⟨g,rfl⟩:=List.getElem?_eq_some_iff.1 U;obtain⟨k,rfl⟩:=List.getElem?_eq_some_iff.1 c;rcases A8 i j with h|h
 .exact d i j g k h
 .exact λx e f=>d j i k g (G) x f e
def Sep.drop (s:Sep h0 h l) (n:Nat):Sep h0 h (l.drop n):=
 ⟨s.1,λi a U=>s.2.1 (n+i) a (by rw[Eg] at U;exact U),λi j a b d U c=>s.2.2 (n+i) (n+j) a b (G) (by rw[Eg] at U;exact U) (by rw[Eg] at c;exact c)⟩
def Oc (D:Bo):List Ct:=D.map λd=>aB d (.aq Ah)
def Sep.aq {D:Bo} (s:Sep h0 h (l++Oc D)):D.Nodup/\(∀d∈D,h.t.get d=I (.aq Ah))/\(∀d∈D,h0.nx<=d)/\∀J,B0 (·∈D) h J->Sep h0 J l:=by
 obtain⟨r,p,m⟩:=s;have k:∀(i:Nat) d,D[i]?=I d->(l++Oc D)[l.length+i]?=I (aB d (.aq Ah)):=λi d f=>by
  rw[Bq (G),Ds];unfold Oc;rw[AX,f];rfl
 have n:∀d∈D,h.t.get d=I (.aq Ah)/\h0.nx<=d:=λd f=>by
  obtain⟨i,U⟩:=Iz f;have:=p _ _ (k i d U);exact⟨this.1.2,this.2 d B⟩
 refine⟨?_,λd f=>(n d f).1,λd f=>(n d f).2,λJ c=>⟨r.then c λi U=>(n i U).2,λi a U=>?_,λi j a b u U g=>?_⟩⟩
 .rw[List.nodup_iff_pairwise_ne,F8]
  intro i j U g z e;exact m _ _ _ _ (G) (k i _ (Ab U)) (k j _ (Ab g)) D[i] B (show D[i]=D[j] from e)
 .have o:i<l.length:=(List.getElem?_eq_some_iff.1 U).1
  have q:(l++Oc D)[i]?=I a:=by rw[AB o];exact U
  have:=p i a q;refine⟨a.aH c (λx v w=>?_) this.1,this.2⟩;obtain⟨j,g⟩:=Iz w;exact m i _ a _ (G) q (k j x g) x v B
 .have o:i<l.length:=(List.getElem?_eq_some_iff.1 U).1
  have y:j<l.length:=(List.getElem?_eq_some_iff.1 g).1;exact m i j a b u (by rw[AB o];exact U) (by rw[AB y];exact g)
def Ro {s:WS} {N x:Nat} (h:s.ag N=Ag) (c:x<N):s.hasB x=false:=by
 cases s with
 |no=>rfl
 |one b=>have:=Ac (show Ar N b=Ag from h);exact Bool.eq_false_iff.2 λe=>by have:=Af e;omega
 |rest lo=>have:=Ac (show Ar N lo=Ag from h);exact Bool.eq_false_iff.2 λe=>by have:=Ac e;omega
 |
  pair b lo=>
  have a:(Ar N b&&Ar N lo)=true:=h;rw[An] at a;have d:=Ac a.1;have f:=Ac a.2;show(Am x b||Ar lo x)=Ah;rw[Iy];exact⟨Bool.eq_false_iff.2 λe=>by have:=Af e;omega,Bool.eq_false_iff.2 λe=>by have:=Ac e;omega⟩
def B0.hasB {h J:Y} {W:Nat->Prop} {b0 x:Nat} (c:B0 W h.ad J) (a:∀i,W i->i=b0) (b:x<h.nx) (d:x≠b0):J.lo.hasB x=false:=by
 rcases A8 b0 h.nx with hb|hb
 .rcases c.g h.nx b0 (by rw[BF];exact Ae _) hb (λi U=>.inl (a i U)) (by rw[DZ];exact .inl B) with e|e|⟨lo,f,e⟩
  .exact Ro e b
  .rw[e];exact Bool.eq_false_iff.2 λe=>d (Af e)
  .rw[e]
   show(Am x b0||Ar lo x)=Ah;rw[Iy];exact⟨Bool.eq_false_iff.2 λe=>d (Af e),Bool.eq_false_iff.2 λe=>by have:=Ac e;omega⟩
 .exact Ro (c.lo h.nx (by rw[BF];exact Ae _) (λi U=>by rw[a i U];exact hb) (by rw[DZ];rfl)) b
def B0.cQ {h J:Y} {N e k n x:Nat} {v:Aa} {xs:AH} (c:B0 (BY v) h.ad J) (o:AS h N e k v n xs) (a:x<h.nx) (d:¬BY v x):J.lo.hasB x=false:=by
 obtain⟨_,⟨rfl,_⟩|⟨b,f,sp,rfl,_⟩⟩:=o
 .exact c.hasB (b0:=x+1) (λi U=>U.elim) a (G)
 .exact c.hasB (b0:=b) (λi U=>U) a d
def Sep.bo {st t2 e k:Nat} (d:G1 Ax st t2 e k=Ag) (s:Sep h0 h l) {i N n:Nat} {v:Aa} {xs ys:AH} (U:l[i]?=I (aS N e k v n xs)) (c:ys.length=k) (f:ys.all one=Ag) (g:N<=h.nx) (hb:n+1<=1000000000) {n':Nat} {xs':AH} (j:n'=n+1) (m:xs'=xs++ys):
 ∃a,BN h.ad e ys=a/\∃b J,Bx Ax .append [st,t2] [v,.slice (I ⟨h.nx,0,Z⟩) 1 1] (h.aa a).ad=I (b,J)/\Sep h0 ((h.aa a).aa J) (l.set i (aS N e k b n' xs'))/\∀x,x<h.nx->¬Go.Ev.BY v x->J.lo.hasB x=false:=by
 subst j m;obtain⟨a,o,x,b,J,t1,t2,t3,t4⟩:=Go.Ev.Aef d (s.sl U) c f g hb;exact⟨a,o,b,J,t1,(s.ext x).aZ U t3 t2 t4,λy c p=>t3.cQ ((s.ext x).sl U) (AC c x.nx) p⟩
def Sep.box (τ:Bb) (t:Ai) (v:Aa) (s:Sep h0 h l):∃g,K7 τ t v h=I (AG h.nx 0,g)/\Sep h0 g (aO h.nx t (AJ v)::l):=
 ⟨_,B,s.add (AA.row _ _ _) (Own.row _ _ _) λi U=>A2 U.symm⟩
def JB:∀(vs pre xs:AH),vs.length=xs.length->I2 (pre++xs) pre.length vs=pre++vs
 |[],pre,xs,h=>by cases xs with|nil=>rfl|cons _ _=>cases h
 |
  v::vs,pre,xs,h=>by
  cases xs with
  |nil=>cases h
  |
   cons x xs=>
   rw[I2];have a:(pre++x::xs).set pre.length v=(pre++[v])++xs:=by simp
   rw[a,show pre.length+1=(pre++[v]).length by simp,JB vs (pre++[v]) xs (by simpa using h)];simp
def Sep.var {t:Ai} {z:Aa} (g:CP Ax t=I z) (s:Sep h0 h l) {v:Aa} (b:(match Ax.aj.get t with|some i=>Am (AJ v).length i.size|none=>Ah)=Ag) (j:(AJ v).length=(AJ z).length) (k:(AJ v).all one=Ag):
 ∃c,(∀A,D9 Ax A h (.alloc t)=I (AG h.nx 0,c))/\∃d,BA Ax t c h.nx 0 v=I d/\Sep h0 d (aO h.nx t (AJ v)::l):=by
 refine⟨BN h t (AJ z),λA=>by show(match CP Ax t with|some z=>K7 Ax t z h|none=>Z)=_;rw[g];rfl,?_⟩
 have e:=s.add (a:=aO h.nx t (AJ z)) (AA.row h t (AJ z)) (Own.row _ _ _) λi U=>A2 U.symm;obtain⟨J,m,f,n⟩:=(e.dD (i:=0) B).bb (i:=0) (vs:=AJ v) (G) k;refine⟨J,?_,?_⟩
 .unfold BA
  split at b
  .rename_i i U
   simp only[U,b,D1,m]
  .cases b
 .have:=JB (AJ v) [] (AJ z) j
  simp only[IW,Acd] at this;rw[this] at f;exact e.ah (i:=0) B n.ae f λx o=>.inl o
def AS.lit {N e k n:Nat} {v:Aa} {xs:AH} (o:AS h N e k v n xs) (a:0<n):∃b c,v=.slice (I ⟨b,0,Z⟩) n c:=by
 obtain⟨_,⟨_,h⟩|⟨b,c,sp,h,_⟩⟩:=o
 .omega
 .exact⟨b,c,h⟩
end
section
variable {h J h0 h1 H:Y} {v fv nv pv cv ev lv u v':Aa} {xs args vs ys:AH} {n b N i k e r j x m c q d a p t2 st sb mo ck lp rm b0 sz off:Nat} {t:Ai} {f:Au} {fn:BC} {s:Bd} {bs:Bl} {ws:Bo} {W:Nat->Prop} {Q:Aa->Y->Prop} {A:Option BD} {z df day:Int} {ss:BZ} {τ:Bb}
variable{S:A9} {L:Nat}
def Zd (a:Base S L) {h:Y} (b:Ax.fn.get f=I fn) (c:Nf.contains f=Ah)
 (H:∀n,d<=n->MT Ah Ax (B8 Ax S L n) L fn args h Q):Bk S L (d+1) f args h Q:=by
 intro n i;obtain⟨m,rfl⟩:∃m,n=m+1:=⟨n-1,G⟩;obtain⟨h1,e,g⟩:=a.plain f c;exact Afo (m:=Ah) b g h1 e (H m G)
abbrev Sp:=Nat×Nat×Nat
def Hw (x:Sp):AH:=[.int .i64 x.1,.int .i64 x.2.1,.int .i64 x.2.2]
def J4 (l:List Sp):AH:=l.flatMap Hw
def CW (l:List Bool):AH:=l.map CU
def Akj (l:Bo):AH:=l.map λx:Nat=>AL .u64 x
def Azd (ps:List Sp) {p:Sp} (U:ps[i]?=I p):((J4 ps).drop (i*3)).take 3=Hw p:=by
 induction ps generalizing i with
 |nil=>cases U
 |
  cons q ps a=>
  cases i with
  |zero=>cases U;rfl
  |
   succ i=>
   have:=a (by simpa using U);rw[show(i+1)*3=i*3+3 by omega];exact this
def XZ (a:List Sp) (x:Sp):J4 (a++[x])=J4 a++Hw x:=by simp[J4]
def ZH (all:List Sp) (j:Nat):Nat:=(all.getD j (0,0,0)).2.2
def BP (l:BZ) (q:Nat) (bits:List Bool) (all:List Sp):Prop:=
 bits.count Ag=all.length/\bits.count Ah=q+1/\bits[0]?=I Ag/\bits[1]?=I Ah/\(∀(j:Nat) (x:Sp),all[j]?=I x->Lq l x.1 x.2.1 x.2.2/\x.2.2<=256)/\
  ∀c z,1<=c->(bits.take z).count Ag<=c->c<(bits.take (z+1)).count Ag->∃p,(bits.take z).count Ah=p+1/\p<all.length/\ZH all p+1=ZH all c
def BP.start (l:BZ):BP l 0 [Ag,Ah] [(0,l.length,0)]:=by
 refine⟨B,B,B,B,λj x a=>?_,λc z h1 b d=>?_⟩
 .cases j with
  |zero=>simp at a;subst a;exact⟨⟨Al _,Ae _,λi _ _=>⟨Al _,by simp⟩⟩,Al 256⟩
  |succ j=>simp at a
 .have:=XB [Ag,Ah] Ag (z+1)
  have e:[Ag,Ah].count Ag=1:=rfl;omega
def IM {c:Type} (a b:List c) {z:Nat} (d:z<=a.length):(a++b).take z=a.take z:=UR d
def BP.child {l:BZ} {bits:List Bool} {all:List Sp} (p:BP l q bits all) {x y:Sp} (g:all[q]?=I x) (r:Lq l y.1 y.2.1 y.2.2) (s:y.2.2=x.2.2+1) (t:y.2.2<=256):BP l q (bits++[Ag]) (all++[y]):=by
 obtain⟨i,m,u,n,v,w⟩:=p;have A:q<all.length:=(List.getElem?_eq_some_iff.1 g).1;have E:2<=bits.length:=by
  have:=(List.getElem?_eq_some_iff.1 n).1;omega
 have e:∀j,j<all.length->ZH (all++[y]) j=ZH all j:=λj a=>by
  unfold ZH;rw[Ak,Ak,AB a]
 have C:ZH (all++[y]) all.length=y.2.2:=by
  unfold ZH;rw[Ak,Bq (Ae _)];simp
 refine⟨by simp[i],by simp[m],by rw[AB G];exact u,by rw[AB G];exact n,λj z a=>?_,λc z h1 b d=>?_⟩
 .rcases A8 j all.length with h|h
  .rw[AB h] at a;exact v j z a
  .rw[Bq h] at a
   cases o:j-all.length with
   |zero=>rw[o] at a;simp at a;subst a;exact⟨r,t⟩
   |succ k=>rw[o] at a;simp at a
 .rcases FD z bits.length with h|h|h
  .rw[IM _ _ G] at b d
   obtain⟨p,f1,f2,f3⟩:=w c z h1 b d;refine⟨p,by rw[IM _ _ G];exact f1,by simp;omega,?_⟩;rw[e p f2,e c (by have:=XB bits Ag (z+1);omega:c<all.length)];exact f3
  .subst h
   have f:(bits++[Ag]).take bits.length=bits:=by simp
   have D:(bits++[Ag]).take (bits.length+1)=bits++[Ag]:=Bj (by simp);rw[f] at b⊢;rw[D] at d;simp[K0,List.count_singleton_self,i] at b d;obtain rfl:c=all.length:=G;exact⟨q,m,by simp;omega,by rw[e q A,C,(by unfold ZH;rw[Ak,g];rfl:ZH all q=x.2.2),s]⟩
  .have f:(bits++[Ag]).take z=bits++[Ag]:=Bj (by simp;omega)
   rw[f] at b;rw[(Bj (by simp;omega):(bits++[Ag]).take (z+1)=bits++[Ag])] at d;omega
def BP.close {l:BZ} {bits:List Bool} {all:List Sp} (p:BP l q bits all):BP l (q+1) (bits++[Ah]) all:=by
 obtain⟨f,g,i,e,j,k⟩:=p;have n:2<=bits.length:=by
  have:=(List.getElem?_eq_some_iff.1 e).1;omega
 refine⟨by simp[f],by simp[g],by rw[AB G];exact i,by rw[AB G];exact e,j,λc z h1 b a=>?_⟩;rcases FD z bits.length with h|h|h
 .rw[IM _ _ G] at b a
  rw[IM _ _ G];exact k c z h1 b a
 .subst h
  have d:(bits++[Ah]).take bits.length=bits:=by simp
  have m:(bits++[Ah]).take (bits.length+1)=bits++[Ah]:=Bj (by simp);rw[d] at b;rw[m] at a;simp at a;omega
 .have d:(bits++[Ah]).take z=bits++[Ah]:=Bj (by simp;omega)
  rw[d] at b;rw[(Bj (by simp;omega):(bits++[Ah]).take (z+1)=bits++[Ah])] at a;omega
def Akk (h:x<2^k) (a:x≠0):Nat.log2 x<k:=(Nat.log2_lt a).2 h
def Abi (h:x<32768):bitLen x<=15:=by
 have Cw:∀y k,y<2^k->bl y<=k:=λy k a=>by
  unfold bl;split
  .omega
  .have:=Akk a ‹_›;omega
 unfold bitLen;rw[Bm G];unfold bl2;rw[Bm G];unfold bl1;split
 .have:=Cw (x/2^8) 7 G;omega
 .have:=Cw x 8 G;omega
def Ps {l:Bo} (h:∀x∈l,x<32768):∀k,Hz l k<32768
 |0=>by show 0<32768;decide
 |
  k+1=>by
  have b:=Ps h k;have c:l.getD k 0<32768:=by
   rcases A8 k l.length with a|a
   .rw[Ak,Ab a];exact h _ (Bu _)
   .rw[Ak,CD a];decide
  show W4 _ _<_;have e:JP .u64 (Hz l k:Nat) (l.getD k 0:Nat)=IntKind.wrap .u64 ((BitVec.ofInt 64 (Hz l k:Nat)|||BitVec.ofInt 64 (l.getD k 0:Nat)).toNat:Int):=rfl;have d:(BitVec.ofInt 64 ((Hz l k:Nat):Int)|||BitVec.ofInt 64 ((l.getD k 0:Nat):Int)).toNat=Hz l k|||l.getD k 0:=by
   rw[BitVec.toNat_or,BitVec.toNat_ofInt,BitVec.toNat_ofInt];congr 1<;>omega
  have f:Hz l k|||l.getD k 0<2^15:=Zz b c;unfold W4;rw[e,d,G8];omega
section
variable{h J:Y} {D:Bo}
def Cell.aq {o:Nat} (c:Cell h b o v) (x:B0 (·∈D) h J) (a:∀d∈D,h.t.get d=I (.aq Ah)):Cell J b o v:=
 c.ae x λhb=>by
  obtain⟨_,f,n,e,lo,U,y,h1,_⟩:=c;rw[a b hb] at h1;cases h1
def Rd.aq (r:Rd h v k n xs) (x:B0 (·∈D) h J) (b:∀d∈D,h.t.get d=I (.aq Ah)):Rd J v k n xs:=
 r.ae x λi U hb=>by
  obtain⟨_,A,c,rfl,_,_,f⟩:=r;cases A with
  |none=>exact U
  |
   some a=>
   obtain⟨_,g,n,e,lo,j,y,h1,_⟩:=f a B;rw[←(U:i=a.block),b i hb] at h1;cases h1
def Du.aq {l:List Bool} (v:Du h b l) (x:B0 (·∈D) h J) (a:∀d∈D,h.t.get d=I (.aq Ah)):Du J b l:=by
 obtain⟨h1,c,⟨e,ws,f,g,i⟩,j,k,m⟩:=v;exact⟨h1.aq x a,c,⟨e,ws,f.aq x a,g.aq x a,i⟩,j,k.aq x a,m.aq x a⟩
def BX.aq {w:Nat} (p:BX h b n w ws) (x:B0 (·∈D) h J) (a:∀d∈D,h.t.get d=I (.aq Ah)):BX J b n w ws:=by
 obtain⟨c,e,f,g,⟨i,j,k⟩,l⟩:=p;exact⟨c.aq x a,e.aq x a,f,g,⟨i,j.aq x a,k.aq x a⟩,l⟩
def DE.aq {t:En} (T:DE h b t) (x:B0 (·∈D) h J) (a:∀d∈D,h.t.get d=I (.aq Ah)):DE J b t:=by
 obtain⟨c,⟨e,a0,b0⟩,⟨f,a1,b1⟩,⟨g,i,j⟩,⟨k,l,m⟩,n,o,p⟩:=T;exact⟨c,⟨e,a0.aq x a,b0.aq x a⟩,⟨f,a1.aq x a,b1.aq x a⟩,⟨g,i.aq x a,j.aq x a⟩,⟨k,l.aq x a,m.aq x a⟩,n,o.aq x a,p.aq x a⟩
end
def Aeg (d bl:Nat) (v:Aa) (a b e:Nat):Ct:={
 am:=λi=>i=d\/i=bl
 holds:=λh=>Cell h d 0 (.int .i64 a)/\Cell h d 1 (.int .i64 b)/\Cell h d 2 (.int .i64 e)/\Cell h bl 0 v
 aH:=λc f o=>⟨o.1.ae c (f _ (.inl B)),o.2.1.ae c (f _ (.inl B)),o.2.2.1.ae c (f _ (.inl B)),o.2.2.2.ae c (f _ (.inr B))⟩
 lt:=λo i U=>by rcases U with rfl|rfl;exact o.1.1;exact o.2.2.2.1
 bk:=λo=>⟨o.1.aa,o.2.1.aa,o.2.2.1.aa,o.2.2.2.aa⟩}
def Cell.rev {h J:Y} {o:Nat} (hb:b<h.nx) (c:B0 W h J) (a:¬W b) (x:Cell J b o v):Cell h b o v:=by
 obtain⟨_,y⟩:=x;rw[c.t b hb a] at y;exact⟨hb,y⟩
def VN (h:Y) (N b:Nat) (l:List Bool):Prop:=Du h b l/\ID h N b
def VN.fr {h J:Y} {l:List Bool} (v:VN h N b l) (c:B0 W h J) (a:∀i,W i->i<N):VN J N b l:=by
 have hb:¬W b:=λd=>by have:=a b d;have:=v.2.1;omega
 exact⟨v.1.fr v.2 c a,v.2.1,λu x=>v.2.2.1 u (x.rev v.1.c0.1 c hb),λu x=>v.2.2.2 u (x.rev v.1.c0.1 c hb)⟩
def VN.ext {h J:Y} {l:List Bool} (v:VN h N b l) (x:AA h J):VN J N b l:=v.fr (x.ae λ_=>False) λ_ h=>h.elim
def Own.cR {h:Y} (o:Own h b e xs) (a:xs.length=n):Rd h (sL b n n) 1 n xs:=
 AS.rd ⟨G,.inr ⟨b,n,[],B,Ae _,Ae _,by simp;omega,by simpa using o⟩⟩
def ID.mono {h:Y} {M:Nat} (g:ID h N b) (a:M<=N):ID h M b:=
 ⟨Ao a g.1,λv c i U=>Ao a (g.2.1 v c i U),λv c i U=>Ao a (g.2.2 v c i U)⟩
def Fl.mono {h:Y} {M:Nat} (g:Fl h N b) (a:M<=N):Fl h M b:=
 ⟨Ao a g.1,λv c i U=>Ao a (g.2 v c i U)⟩
def Afp (h:Y) (N b:Nat):Prop:=N<=b/\(∀p,Cell h b 0 (AG p 0)->ID h N p)/\(∀p,Cell h b 1 (AG p 0)->ID h N p)/\(∀v,Cell h b 2 v->∀i,BY v i->N<=i)/\(∀p,Cell h b 3 (AG p 0)->Fl h N p)/\∀v,Cell h b 4 v->∀i,BY v i->N<=i
def Ge (h:Y) (N b:Nat) (t:En):Prop:=DE h b t/\Afp h N b
def Ge.mono {h:Y} {M:Nat} {t:En} (T:Ge h N b t) (a:M<=N):Ge h M b t:=by
 obtain⟨T,d,e,f,g,j,k⟩:=T;exact⟨T,Ao a d,λp c=>(e p c).mono a,λp c=>(f p c).mono a,λv c i U=>Ao a (g v c i U),λp c=>(j p c).mono a,λv c i U=>Ao a (k v c i U)⟩
def Ge.of {h J:Y} {t:En} (T:Ge h N b t) (l:DE J b t) (c:B0 W h J) (d:∀i o v,Cell h i o v->N<=i->¬W i):Ge J N b t:=by
 obtain⟨⟨A,⟨C,a0,b0⟩,⟨D,a1,b1⟩,⟨E,F,H⟩,⟨K,m,e⟩,L,M,O⟩,f,n,r,s,w,z⟩:=T;have hb:=d b _ _ a0 f;have j:∀{q:Nat},Du h q t.bits\/Du h q t.is->ID h N q->ID J N q:=λ{q} V g=>by
  have a:∃v,Cell h q 0 v:=by
   rcases V with V|V
   .exact⟨_,V.c0⟩
   .exact⟨_,V.c0⟩
  obtain⟨v,a⟩:=a;have k:=d q _ _ a g.1;exact⟨g.1,λu x=>g.2.1 u (x.rev a.1 c k),λu x=>g.2.2 u (x.rev a.1 c k)⟩
 refine⟨l,f,λp x=>?_,λp x=>?_,λv x=>s v (x.rev a0.1 c hb),λp x=>?_,λv x=>z v (x.rev a0.1 c hb)⟩
 .have x:=x.rev a0.1 c hb
  have:=x.inj a0;cases this;exact j (.inl b0) (n _ x)
 .have x:=x.rev a0.1 c hb
  have:=x.inj a1;cases this;exact j (.inr b1) (r _ x)
 .have x:=x.rev a0.1 c hb
  have:=x.inj m;cases this;have g:=w _ x;exact⟨g.1,λu y=>g.2 u (y.rev e.1.1 c (d _ _ _ e.1 g.1))⟩
def Ge.fr {h J:Y} {t:En} (T:Ge h N b t) (c:B0 W h J) (a:∀i,W i->i<N):Ge J N b t:=by
 refine T.of ?_ c λi o v _ C l=>by have:=a i l;omega
 obtain⟨⟨m,⟨n,a0,b0⟩,⟨p,a1,b1⟩,⟨e,f,q⟩,⟨r,g,s⟩,j,k,u⟩,D,w,x,y,z,A⟩:=T;have hb:¬W b:=λd=>by have:=a b d;omega
 exact⟨m,⟨n,a0.ae c hb,b0.fr (w _ a0) c a⟩,⟨p,a1.ae c hb,b1.fr (x _ a1) c a⟩,⟨e,f.ae c hb,q.ae c λi U d=>by have:=a i d;have:=y e f i U;omega⟩,⟨r,g.ae c hb,s.fr (z _ g) c a⟩,j,k.ae c hb,u.ae c λi U d=>by have:=a i d;have:=A j k i U;omega⟩
def Ge.ext {h J:Y} {t:En} (T:Ge h N b t) (x:AA h J):Ge J N b t:=T.fr (x.ae λ_=>False) λ_ h=>h.elim
def Ge.aq {h J:Y} {D:Bo} {t:En} (T:Ge h N b t) (x:B0 (·∈D) h J) (a:∀d∈D,h.t.get d=I (.aq Ah)):Ge J N b t:=
 T.of (T.1.aq x a) x λi o v c _ f=>by
  obtain⟨_,g,n,e,lo,U,y,h1,_⟩:=c;rw[a i f] at h1;cases h1
abbrev BL (N:Nat) (dv h lv a b v:Aa) (i j k c d b1:Nat) (n:Nat) (e:Bo) (f:List Bool) (g:Bl) (all:List Sp) (bits:List Bool) (l:Bo):List Ct:=
 [aS N 213 1 dv e.length (Akj e),aS N 4 1 h f.length (CW f),aS N 5 1 lv g.length (Ay g),aO i 277 [a],aS N 276 3 a all.length (J4 all),aO j 273 [b],aS N 4 1 b bits.length (CW bits),
  aO k 124 [AG c 0],aO c 272 [.pointer Z,.pointer Z,lv,.pointer Z,.slice (I ⟨d,0,Z⟩) n n],aO d 3 (Bn l),aO b1 55 [v]]
def PB (l:BZ) (i:Nat) (a:Bo) (c:List Bool) (d:Bl) (all:List Sp) (b:Bo):Prop:=
 all.length=d.length+1/\i<=all.length/\all.length<=524287/\c.length=i/\a.length<=i/\(∀x∈a,x<20000)/\b.length=l.length/\∀x∈b,x<all.length
def Aiq {b:Aa} {all:List Sp} (o:AS h N 276 3 b all.length (J4 all)) {x:Sp} (U:all[i]?=I x):∃a c,b=.slice (I a) all.length c/\BK h a.block (a.off+i*3) (Hw x):=by
 obtain⟨a,c,e,_,q⟩:=o.rd.el (List.getElem?_eq_some_iff.1 U).1;rw[Azd all U] at q;exact⟨a,c,e,q⟩
def c87 (ah:Base S L) {l:BZ} (r:Rd h v 1 l.length (AR l)):
 Bk S L 5 87 [v] h λw J=>AA h J/\((∃e:Int,1<=e/\w=.tuple #[.pointer Z,Vi e])\/∃b t,w=.tuple #[AG b 0,Vi 0]/\DE J b t/\t.nd.length=l.length/\Afp J h.nx b):=
 Zd (fn:=f87) ah Kq B λd dj=>by
  have hL:=ah.aI;obtain⟨hr,R,V,rfl,b3,b4,hA⟩:=r;have rr:Rd h (.slice R l.length V) 1 l.length (AR l):=⟨hr,R,V,B,b3,b4,hA⟩;obtain⟨g1,y1,s1⟩:=(Sep.nil h).box Ax 55 (.slice R l.length V);refine⟨Dc B,_,_,y1,_,ld B ((s1.dD (i:=0) B).cell B),_,ABk ah (rr.ext s1.e) d G,?_⟩;rintro _ g1 ⟨rfl,⟨rfl,a7⟩|rfl|rfl⟩
  case inr.inl=>exact⟨s1.e,.inl ⟨1,by decide,B⟩⟩
  case inr.inr=>exact⟨s1.e,.inl ⟨2,by decide,B⟩⟩
  have hn:=a7.1;obtain⟨g2,y2,x2,o2,n2⟩:=MA (τ:=Ax) (t:=48) (z:=Vi 0) Kq Kq B l.length G .i64 .i64 g1;have e2:AE l.length (Vi 0)=Bn (AE l.length 0):=by simp[Bn]
  rw[e2] at o2;have s2:=s1.add (a:=aO g1.nx 3 (Bn (AE l.length 0))) x2 o2 λi U=>A2 U.symm;obtain⟨g3,y3,s3⟩:=s2.box Ax 272 (.agg #[.pointer Z,.pointer Z,sN,.pointer Z,sL g1.nx l.length l.length]);obtain⟨g4,y4,aa,b7,s4⟩:=s3.var (t:=124) (z:=.pointer Z) Kq (v:=AG g2.nx 0) B B B;have s5:=s4.add (a:=aS h.nx 4 1 (sL aa.nx 2 2) 2 (CW [Ag,Ah])) (AA.row aa 4 [.bool Ag,.bool Ah]) ⟨B,.inr ⟨aa.nx,2,[],B,s4.e.nx,Ae _,B,Own.row _ _ _⟩⟩ λi U=>A2 U.symm;obtain⟨g6,y6,ai,b8,s6⟩:=s5.var (t:=273) (z:=sN) Kq (v:=sL aa.nx 2 2) B B B;refine⟨_,ld B ((s1.dD (i:=0) B).cell B),_,_,y2,_,_,y3,_,_,y4 _,_,b7,_,_,(rfl:Bs Ax 273 2 [(0,.bool Ag),(1,.bool Ah)] aa=I (sL aa.nx 2 2,BN aa 4 [.bool Ag,.bool Ah])),_,_,y6 _,_,b8,_,ld B ((s6.dD (i:=5) B).cell B),?_⟩;have s7:=s6.add (a:=aS h.nx 276 3 (sL ai.nx 1 1) 1 (J4 [(0,l.length,0)])) (AA.row ai 276 (Hw (0,l.length,0))) ⟨B,.inr ⟨ai.nx,1,[],B,s6.e.nx,Ae _,B,Own.row _ _ _⟩⟩ λi U=>A2 U.symm;obtain⟨g8,y8,ca,cc,s8⟩:=s7.var (t:=277) (z:=sN) Kq (v:=sL ai.nx 1 1) B B B;refine⟨_,_,Iv (τ:=Ax) (t:=277) (e:=276) (k:=3) Kq (.agg #[Vi 0,Vi l.length,Vi 0]) B B Jq ai,_,_,y8 _,_,cc,?_⟩;have s9:Sep h ca (BL h.nx (sN) (sN) (sN) (sL ai.nx 1 1) (sL aa.nx 2 2) (.slice R l.length V) (BN ai 276 (Hw (0,l.length,0))).nx (BN aa 4 [.bool Ag,.bool Ah]).nx g3.nx g2.nx g1.nx h.nx l.length
   [] [] [] [(0,l.length,0)] [Ag,Ah] (AE l.length 0)):=
   ((s8.add (a:=aS h.nx 5 1 (sN) 0 []) (AA.refl _) (AS.nil _ _ _ _) λi U=>U.elim).add (a:=aS h.nx 4 1 (sN) 0 []) (AA.refl _) (AS.nil _ _ _ _) λi U=>U.elim).add (a:=aS h.nx 213 1 (sN) 0 []) (AA.refl _) (AS.nil _ _ _ _) λi U=>U.elim
  generalize(BN ai 276 (Hw (0,l.length,0))).nx=b9 at s9⊢;generalize(BN aa 4 [.bool Ag,.bool Ah]).nx=b6 at s9⊢;generalize g3.nx=b5 at s9⊢;generalize g2.nx=W at s9⊢;generalize g1.nx=bn at s9⊢;refine⟨λμ A D C=>∃(i:Nat) (dv iv lv av sv:Aa) (o:Bo) (M:List Bool) (F:Bl) (all:List Sp) (bits:List Bool) (O:Bo),
   A=[(1,AG h.nx 0),(5,AG b5 0),(6,AG b6 0),(7,iv),(8,dv),(9,AG b9 0),(10,Vi i)]/\μ=524288-i/\Sep h C (BL h.nx dv iv lv av sv (.slice R l.length V) b9 b6 b5 W bn h.nx l.length o M F all bits O++Oc D)/\BP l i bits all/\PB l i o M F all O,
   ⟨_,_,Sq,?_,0,_,_,_,_,_,[],[],[],_,_,_,B,B,s9,BP.start l,B,Al _,(by simp),B,Ae _,(λx q=>by cases q),by simp,λx q=>?_⟩,?_⟩
  .omega
  .rw[CH q];exact Nat.one_pos
  rintro μ A D C ⟨i,dv,iv,lv,av,sv,o,M,F,all,bits,O,rfl,rfl,s,bp,pb⟩ dk;obtain⟨p1,p2,p3,p4,p5,p6,p7,p8⟩:=pb;obtain⟨a8,ac,rfl⟩:=(s.sl (i:=4) B).lit G;refine⟨_,ld B ((s.dD (i:=3) B).cell B),Bz (λe=>?_) (λe=>?_)⟩
  .have cd:i<all.length:=G
   obtain⟨⟨a,b,g⟩,q⟩:∃x,all[i]?=I x:=⟨_,Ab cd⟩;have ap:Lq l a b g/\g<=256:=bp.2.2.2.2.1 i _ q;obtain⟨a1,c1,e9,q1⟩:=Aiq (s.sl (i:=4) B) q;cases e9;obtain⟨dl,ce,dm,cf,ay⟩:=s.var (t:=276) (z:=.agg #[Vi 0,Vi 0,Vi 0]) Kq (v:=.agg ⟨Hw (a,b,g)⟩) B B B;refine⟨_,ld B ((s.dD (i:=3) B).cell B),G,_,EQ (k:=3) Kq (show BK C a8 (0+(i:Int).toNat*3) (Hw (a,b,g)) from q1) B,_,_,ce _,_,cf,_,EQ (k:=3) Kq (ay.dD (i:=0) B).cells B,_,ld B ((ay.dD (i:=11) B).cell B),_,AGb ah (rr.ext ay.e) d G,?_⟩;rintro _ Q ⟨cg,bx,bl,dn,dp,rfl,w1,w2,w3,w4,w5⟩;have ch:=ay.add (a:=Aeg bx bl (.slice R l.length V) a b g) cg ⟨w1,w2,w3,w4⟩ (λi U=>by rcases U with rfl|rfl<;>assumption);refine⟨XI (τ:=Ax) (f:=238) (fn:=f238) Kq B,T3 λab ci=>?_⟩
   have cj:=ch.add (a:=aB Q.nx (.aq Ah)) (AA.new Q (.aq Ah)) ⟨by rw[Ck];omega,by rw[CK,Bi B]⟩ (λi U=>A2 U.symm);have ck:=cj.add (a:=aB (A3 Q.nx) (ab .ready Z)) (AA.new _ (ab .ready Z)) ⟨by rw[Ck,Ck];omega,by rw[CK,Ck,Bi B]⟩ (λi U=>by rw[Ck];exact A2 U.symm)
   let az:Nat->Y->Prop:=λk H=>∃(lv av sv:Aa) (F:Bl) (K:List Sp) (bits:List Bool),
    Sep h H (([aB (A3 Q.nx) (ab .ready Z),aB Q.nx (.aq Ah),Aeg bx bl (.slice R l.length V) a b g,aO C.nx 276 (Hw (a,b,g))]++BL h.nx dv iv lv av sv (.slice R l.length V) b9 b6 b5 W bn h.nx l.length o M F K bits O)++Oc D)/\
    BP l i bits K/\K[i]?=I (a,b,g)/\K.length=F.length+1/\all.length<=K.length/\K.length<=524287+k
   have hJ:∀k H,az k H->XE H bx bl (.slice R l.length V) l a b g:=λk H ⟨_,_,_,_,_,_,s,_⟩=>by
    obtain⟨w1,w2,w3,w4⟩:=(s.2.1 2 _ B).1;exact⟨w1,w2,w3,w4,rr.ext s.e⟩
   have hy:∀E k aq,az E aq->a<=E->E<k->k<=b->g<(gS l E).length->Lq l E k (g+1)->ZP S L 1 (.yield (A3 Q.nx)) [.agg #[Vi E,Vi k,Vi ((g:Int)+1)]] aq λu J=>u=.bool Ag/\az k J:=by
    intro E k aq hj h1 H X h4 cm n hn;obtain⟨m,rfl⟩:∃m,n=m+1:=⟨n-1,G⟩;obtain⟨lv,av,sv,F,K,bits,s,al,a0,q2,q3,q4⟩:=hj;have bh:=Oi bits;have bi:=al.1;have bj:=al.2.1;have a2:E<l.length:=by have:=ap.1.2.1;omega
    rw[(G:(g:Int)+1=((g+1:Nat):Int))];obtain⟨cn,y2,e9,_,qr⟩:=rr.at_ G;obtain⟨dq,cp,cq,cr,ar⟩:=s.var (t:=276) (z:=.agg #[Vi 0,Vi 0,Vi 0]) Kq (v:=.agg ⟨Hw (E,k,g+1)⟩) B B B;refine ci m [(1,AG h.nx 0),(5,AG b5 0),(6,AG b6 0),(9,AG b9 0),(11,AG C.nx 0)] _ aq _ (Sq) (s.a7 (i:=0) B) ?_;have ad:=ar.ah (i:=1) (a':=aB (A3 Q.nx) (ab .busy Z)) B (Er.put cq (A3 Q.nx) (ab .busy Z)).ae ⟨by rw[Cc];exact(ar.2.1 1 _ B).1.1,by rw[BQ,Bi B]⟩ (λx q=>.inl q);obtain⟨aj,cs,t18,au⟩:=ad.ba (st:=273) (t2:=273) (e:=4) (k:=1) Kq (i:=11) B (ys:=[.bool Ag]) B B ad.e.nx (by have:=ap.1.2.1;omega) (n':=(bits++[Ag]).length) (xs':=CW (bits++[Ag])) (by simp) (by simp[CW]);obtain⟨ak,t19,N⟩:=au.st (t:=273) B (i:=10) B (j:=0) (v:=aj) (by show 0<1;decide) (D5 (au.sl (i:=11) B));refine⟨_,_,cp _,_,cr,ar.a7 (i:=1) B,_,ld B ((ad.dD (i:=10) B).cell B),_,_,Iv (τ:=Ax) (t:=273) (e:=4) (k:=1) Kq (.bool Ag) B B (by decide) _,_,_,t18,_,t19,?_⟩;obtain⟨gx,e1,an,a3,t20,ae,hB⟩:=N.bo (st:=62) (t2:=62) (e:=5) (k:=1) Kq (i:=7) B (ys:=Ay [Cv l[E] g]) B B N.e.nx (by have:=ap.1.2.1;omega) (n':=(F++[Cv l[E] g]).length) (xs':=Ay (F++[Cv l[E] g])) (by simp) (Ee _ _);obtain⟨a9,t21,af⟩:=ae.stM (t:=62) B (i:=13) B (j:=2) (v:=an) (by show 2<5;decide) (D5 (ae.sl (i:=7) B));have c5:=(N.dD (i:=12) B).cell (i:=0) B;have cb:=(N.dD (i:=13) B).cell (i:=2) B;have c1:=(N.dD (i:=15) B).cell (i:=0) B;cases e9;have ba:=λi u hu=>(qr i u hu).ext N.e;rw[Js a2,←J9] at h4;subst e1;refine⟨[.x 14 0],Kq,_,ld B c5,_,ld B c5,_,ld B cb,_,ld B c1,_,ld B ((N.dD (i:=0) B).cell (i:=0) B:Cell ak aq.nx 0 (Vi E)),G,_,Rd.ld ba (t:=9) B (j:=((E:Int)).toNat*1) (i:=E) (by show E*1=E;omega) (Dl a2),_,ld B ((N.dD (i:=4) B).cell (i:=2) B:Cell ak C.nx 2 (Vi g)),G,
     _,_,Iv (τ:=Ax) (t:=62) (e:=5) (k:=1) Kq (.int .u8 ((Cv l[E] g).toNat:Int)) B B (by decide) _,_,_,t20,hB b5 (N.dD (i:=12) B).1 (N.2.2 12 7 _ _ (by decide) B B b5 B),_,t21,?_⟩
    obtain⟨a4,ct,t22,a5⟩:=af.ba (st:=277) (t2:=277) (e:=276) (k:=3) Kq (i:=9) B (ys:=Hw (E,k,g+1)) B B af.e.nx G (n':=(K++[(E,k,g+1)]).length) (xs':=J4 (K++[(E,k,g+1)])) (by simp) (XZ _ _);obtain⟨cu,t23,bb⟩:=a5.st (t:=277) B (i:=8) B (j:=0) (v:=a4) (by show 0<1;decide) (D5 (a5.sl (i:=9) B));have cv:=bb.ah (i:=1) (a':=aB (A3 Q.nx) (ab .ready Z)) B (Er.put cu (A3 Q.nx) (ab .ready Z)).ae ⟨by rw[Cc];exact(bb.2.1 1 _ B).1.1,by rw[BQ,Bi B]⟩ (λx q=>.inl q);have cw:i<K.length:=(List.getElem?_eq_some_iff.1 a0).1;exact⟨_,ld B ((af.dD (i:=8) B).cell B),_,EQ (k:=3) Kq (af.dD (i:=0) B).cells B,_,_,Iv (τ:=Ax) (t:=277) (e:=276) (k:=3) Kq (.agg ⟨Hw (E,k,g+1)⟩) B B (by decide) _,_,_,t22,_,t23,.busy,Z,bb.a7 (i:=1) B,B,_,a4,aj,F++[Cv l[E] g],K++[(E,k,g+1)],bits++[Ag],cv.drop 1,al.child a0 cm B (by
     have:=(a7.2.1 E a2).2;rw[Js a2,←J9] at this;show g+1<=256;omega),by rw[AB cw];exact a0,by simp;omega,by simp;omega,by simp;omega⟩
   refine cl (ADl ah (dy:=1) a7 ap.1 az hJ (λk hk=>⟨lv,_,sv,F,all,bits,ck,bp,q,p1,Ae _,G⟩) hy) ?_;rintro u bk ⟨k,hk,ao,bm,bo,am,K,ag,bc,al,a0,q2,q3,q4⟩;refine⟨.ready,Z,bc.a7 (i:=0) B,(by intro h;cases h),?_⟩;have ar:=bc.ah (i:=0) (a':=aB (A3 Q.nx) (ab .exhausted Z)) B (Er.put bk (A3 Q.nx) (ab .exhausted Z)).ae ⟨by rw[Cc];exact(bc.2.1 0 _ B).1.1,by rw[BQ,Bi B]⟩ (λx q=>.inl q);have ad:Sep h (bk.put (A3 Q.nx) (ab .exhausted Z)) ((aO C.nx 276 (Hw (a,b,g))::BL h.nx dv iv ao bm bo (.slice R l.length V) b9 b6 b5 W bn h.nx l.length o M am K ag O)++Oc (Q.nx::D)):=
    ((ar.drop 1).perm (l':=(Aeg bx bl (.slice R l.length V) a b g::aO C.nx 276 (Hw (a,b,g))::BL h.nx dv iv ao bm bo (.slice R l.length V) b9 b6 b5 W bn h.nx l.length o M am K ag O)++Oc (Q.nx::D)) List.perm_middle.symm).drop 1
   obtain⟨cx,cy,rfl⟩:=(ad.sl (i:=5) B).lit G;refine⟨_,ld B ((ad.dD (i:=4) B).cell B),Bz (λe2=>?_) (λe2=>?_)⟩
   .obtain⟨n1,n2,n3,n4⟩:=ad.aq
    exact JM _ n1 n2 λJ _ hc=>⟨(n4 J hc).e,.inl ⟨2,by decide,B⟩⟩
   have bh:=Oi ag;have bi:=al.1;have bj:=al.2.1;obtain⟨aj,cs,t18,au⟩:=ad.ba (st:=273) (t2:=273) (e:=4) (k:=1) Kq (i:=7) B (ys:=[.bool Ah]) B B ad.e.nx G (n':=(ag++[Ah]).length) (xs':=CW (ag++[Ah])) (by simp) (by simp[CW]);obtain⟨ak,t19,N⟩:=au.st (t:=273) B (i:=6) B (j:=0) (v:=aj) (by show 0<1;decide) (D5 (au.sl (i:=7) B));have bd:=al.close;have a6:Cell ak C.nx 0 (Vi a):=(N.dD (i:=0) B).cell (i:=0) B;have c1:=(N.dD (i:=11) B).cell (i:=0) B;have bq:∀hb:Bool,∃v' J,Bx Ax .append [273,273] [iv,sL ak.nx 1 1] (BN ak 4 [.bool hb])=I (v',J)/\Sep h J ((aO C.nx 276 (Hw (a,b,g))::BL h.nx dv v' ao (sL cx K.length cy) aj (.slice R l.length V) b9 b6 b5 W bn h.nx l.length o (M++[hb]) am K (ag++[Ah]) O)++Oc (Q.nx::D)):=λhb=>by
    exact N.ba (st:=273) (t2:=273) (e:=4) (k:=1) Kq (i:=2) B (ys:=[.bool hb]) B B N.e.nx G (n':=(M++[hb]).length) (xs':=CW (M++[hb])) (by simp) (by simp[CW])
   have br:∀hb:Bool,PB l (i+1) o (M++[hb]) am K O:=λhb=>⟨G,G,G,by simp;omega,G,p6,p7,λx q=>by have:=p8 x q;omega⟩;refine⟨_,ld B ((ad.dD (i:=6) B).cell B),_,_,Iv (τ:=Ax) (t:=273) (e:=4) (k:=1) Kq (.bool Ah) B B (by decide) _,_,_,t18,_,t19,[],Kq,_,ld B a6,_,ld B ((N.dD (i:=0) B).cell (i:=1) B:Cell ak C.nx 1 (Vi b)),Bz (λe3=>?_) (λe3=>?_)⟩;rotate_left
   .obtain⟨an,a3,t20,ae⟩:=bq Ah
    exact⟨_,_,Iv (τ:=Ax) (t:=273) (e:=4) (k:=1) Kq (.bool Ah) B B (by decide) _,_,_,t20,Pq,_,_,Sq,G,i+1,dv,an,ao,_,aj,o,M++[Ah],am,K,ag++[Ah],O,B,B,ae.drop 1,bd,br Ah⟩
   have cz:a<l.length:=by have:=ap.1.2.1;omega
   obtain⟨cn,y2,e9,_,qr⟩:=rr.at_ G;cases e9;have ba:=λi u hu=>(qr i u hu).ext N.e;obtain⟨an,a3,t20,ae⟩:=bq (decide ((l[a].size:Int)=(g:Int)));refine⟨_,ld B c1,_,ld B a6,G,_,Rd.ld ba (t:=9) B (j:=((a:Int)).toNat*1) (i:=a) (by show a*1=a;omega) (Dl cz),_,ld B ((N.dD (i:=0) B).cell (i:=2) B:Cell ak C.nx 2 (Vi g)),
    _,_,Iv (τ:=Ax) (t:=273) (e:=4) (k:=1) Kq (.bool (decide ((l[a].size:Int)=(g:Int)))) B B (by decide) _,_,_,t20,Ad (λe4=>?_) (λe4=>?_)⟩
   rotate_left
   .exact⟨Pq,_,_,Sq,G,i+1,dv,an,ao,_,aj,o,M++[_],am,K,ag++[Ah],O,B,B,ae.drop 1,bd,br _⟩
   obtain⟨a9,t21,af⟩:=ae.stM (t:=3) B (i:=10) B (j:=a) (v:=Vi i) (by rw[HO];omega) B;have i1:0+((a:Int)).toNat*t3.size=a:=by show 0+a*1=a;omega
   have c5:=(ae.dD (i:=8) B).cell (i:=0) B;have cb:=(ae.dD (i:=9) B).cell (i:=4) B;have a6:Cell a3 C.nx 0 (Vi a):=(ae.dD (i:=0) B).cell (i:=0) B;rw[show(Bn O).set a (Vi i)=Bn (O.set a i) by simp[Bn,Cp]] at af;have c0:Cell (a3.aa a9) C.nx 0 (Vi a):=(af.dD (i:=0) B).cell (i:=0) B;obtain⟨a4,ct,t22,a5⟩:=af.ba (st:=274) (t2:=274) (e:=213) (k:=1) Kq (i:=1) B (ys:=[.int .u64 a]) B B af.e.nx G (n':=(o++[a]).length) (xs':=Akj (o++[a])) (by simp) (by simp[Akj]);refine⟨[],Kq,_,ld B c5,_,ld B cb,_,ld B a6,G,a9,(by rw[i1];exact t21),_,ld B c0,_,.inl Pq,_,_,Iv (τ:=Ax) (t:=274) (e:=213) (k:=1) Kq (.int .u64 a) B B (by decide) _,_,_,t22,Pq,?_⟩;refine⟨_,_,Sq,G,i+1,a4,an,ao,_,aj,o++[a],M++[_],am,K,ag++[Ah],O.set a i,B,B,a5.drop 1,bd,G,G,G,by simp;omega,by simp;omega,λx q=>?_,by simp;omega,λx q=>?_⟩
   .rcases List.mem_append.1 q with q|q
    .exact p6 x q
    .rw[List.mem_singleton.1 q];omega
   .rcases BT q with q|rfl
    .have:=p8 x q;omega
    .omega
  .obtain rfl:i=all.length:=G
   have bh:=Oi bits;have bi:=bp.1;have bj:=bp.2.1;have be:=(s.dD (i:=8) B).1;have c5:=(s.dD (i:=7) B).cell (i:=0) B;have c6:=(s.dD (i:=5) B).cell (i:=0) B;refine⟨[],Kq,_,ld B c5,_,ld B c6,_,Awr (h:=C.ad) ah (l:=bits) (s.sl (i:=6) B).rd G d G,?_⟩;rintro o1 h1 ⟨x1,⟨hb,_⟩|⟨_,q0,dr,rfl,c2,bs⟩⟩
   .omega
   have c3:=s.bz x1;obtain⟨H,t2,aw,u2⟩:=c3.cC (τ:=Ax) (t:=270) B (i:=8) B (j:=0) (v:=AG q0 0) (by show 0<5;decide) B;rw[BF] at bs;have bt:=(show VN (C.aa h1) C.nx q0 bits from⟨c2.aa,bs.aa⟩).fr u2.ae (λi U=>by rw[U];exact be);have c5:=(aw.dD (i:=7) B).cell (i:=0) B;refine⟨x1.ag,_,t2,[],Kq,_,ld B c5,_,Awr (h:=((C.aa h1).aa H).ad) ah (l:=M) (aw.sl (i:=1) B).rd G d G,?_⟩;rintro o3 X ⟨x3,⟨hb,_⟩|⟨_,q1,ds,rfl,c4,bu⟩⟩
   .omega
   have c7:=aw.bz x3;have bv:=bt.ext x3.aa;obtain⟨h4,t4,ax,u4⟩:=c7.cC (τ:=Ax) (t:=270) B (i:=8) B (j:=1) (v:=AG q1 0) (by show 1<5;decide) B;rw[BF] at bu;have bw:=(aw.dD (i:=8) B).1;have c8:=(show VN (((C.aa h1).aa H).aa X) ((C.aa h1).aa H).nx q1 M from⟨c4.aa,bu.aa⟩).fr u4.ae (λi U=>by rw[U];exact bw);have c9:=bv.fr u4.ae (λi U=>by rw[U];exact be);refine⟨x3.ag,_,t4,?_⟩;clear bt bv u2 u4;have c5:=(ax.dD (i:=7) B).cell (i:=0) B;refine⟨[],Kq,_,ld B c5,_,Aqg (h:=((((C.aa h1).aa H).aa X).aa h4).ad) ah (l:=o) (ax.sl (i:=0) B).rd (λx q=>by have:=p6 x q;omega) G d G,?_⟩;rintro o5 h5 ⟨x5,⟨hb,_⟩|⟨_,q2,dt,rfl,bz,bf⟩⟩
   .omega
   have da:=ax.bz x5;obtain⟨h6,t6,P,u6⟩:=da.cC (τ:=Ax) (t:=125) B (i:=8) B (j:=3) (v:=AG q2 0) (by show 3<5;decide) B;rw[BF] at bf;have db:=(ax.dD (i:=8) B).1;have dc:=bz.aa.fr (bf.aa (h:=((((C.aa h1).aa H).aa X).aa h4))) u6.ae (λi U=>by rw[U];exact db);have b0:=((c9.ext x5.aa).fr u6.ae (λi U=>by rw[U];exact be));have b1:=((c8.ext x5.aa).fr u6.ae (λi U=>by rw[U];exact bw));have dd:=b0.1;have de:=b1.1;have df:=Abi (Ps (l:=o) (λx q=>by have:=p6 x q;omega) o.length);have T:DE ((((((C.aa h1).aa H).aa X).aa h4).aa h5).aa h6) W ⟨bits,M,F,o.length,bitLen (Hz o o.length),H2 o (bitLen (Hz o o.length)) o.length,O⟩:=by
    refine⟨⟨?_,?_,bp.2.2.1,bp.2.2.2.1,df,?_,?_,ZH all,λc z h1 H X=>?_,λx q=>?_⟩,⟨q0,(P.dD (i:=8) B).cell B,dd⟩,⟨q1,(P.dD (i:=8) B).cell B,de⟩,⟨lv,(P.dD (i:=8) B).cell B,(P.sl (i:=2) B).rd⟩,⟨q2,(P.dD (i:=8) B).cell B,dc⟩,
     _,(P.dD (i:=8) B).cell (i:=4) B,?_⟩
    .show bits.length=2*(F.length+1)+1;omega
    .show bits.count Ag=F.length+1;omega
    .show F.length+1<=524287;omega
    .show O.length<=20000;omega
    .obtain⟨p,f1,f2,f3⟩:=bp.2.2.2.2.2 c z h1 H X
     show(bits.take z).count Ah-1<F.length+1/\ZH all ((bits.take z).count Ah-1)+1=ZH all c;rw[f1,show p+1-1=p by omega];exact⟨G,f3⟩
    .have b2:=p8 x q
     refine⟨by show x<F.length+1;omega,?_⟩;have:=(bp.2.2.2.2.1 x _ (Ab b2)).2;unfold ZH;rw[Ak,Ab b2];exact this
    .have:=(P.dD (i:=9) B).cR (n:=l.length) (by rw[HO];exact p7)
     rw[←p7] at this⊢;exact this
   have dg:Ge ((((((C.aa h1).aa H).aa X).aa h4).aa h5).aa h6) h.nx W ⟨bits,M,F,o.length,bitLen (Hz o o.length),H2 o (bitLen (Hz o o.length)) o.length,O⟩:=by
    refine⟨T,P.ge (i:=8) B W B,λp x=>?_,λp x=>?_,λv x=>?_,λp x=>?_,λv x=>?_⟩
    .have e:=x.inj ((P.dD (i:=8) B).cell (i:=0) (v:=AG q0 0) B)
     cases e;exact b0.2.mono s.e.nx
    .have e:=x.inj ((P.dD (i:=8) B).cell (i:=1) (v:=AG q1 0) B)
     cases e;exact b1.2.mono aw.e.nx
    .have e:=x.inj ((P.dD (i:=8) B).cell (i:=2) (v:=lv) B)
     subst e;exact P.ge (i:=2) B
    .have e:=x.inj ((P.dD (i:=8) B).cell (i:=3) (v:=AG q2 0) B)
     cases e;have bg:=bf.aa (h:=((((C.aa h1).aa H).aa X).aa h4));have dh:¬q2=W:=λe=>by have:=bg.1;rw[e] at this;omega
     have di:Fl ((((((C.aa h1).aa H).aa X).aa h4).aa h5).aa h6) ((((C.aa h1).aa H).aa X).aa h4).nx q2:=⟨bg.1,λv y=>bg.2 v (y.rev (BX.aa (h:=((((C.aa h1).aa H).aa X).aa h4)) bz).1.1 u6.ae dh)⟩;exact di.mono ax.e.nx
    .have e:=x.inj ((P.dD (i:=8) B).cell (i:=4) (v:=sL bn l.length l.length) B)
     subst e;exact P.ge (i:=9) B
   obtain⟨n1,n2,n3,n4⟩:=Sep.aq (l:=[aS h.nx 213 1 dv o.length (Akj o),aS h.nx 4 1 iv M.length (CW M),aS h.nx 5 1 lv F.length (Ay F),aO b9 277 [sL a8 all.length ac],aS h.nx 276 3 (sL a8 all.length ac) all.length (J4 all),aO b6 273 [sv],aS h.nx 4 1 sv bits.length (CW bits),aO b5 124 [AG W 0],aO W 272 [AG q0 0,AG q1 0,lv,AG q2 0,sL bn l.length l.length],aO bn 3 (Bn O),aO h.nx 55 [.slice R l.length V]]) (D:=D) P;refine⟨x5.ag,_,t6,_,ld B ((P.dD (i:=7) B).cell (i:=0) B),?_⟩;exact JM _ n1 n2 λJ _ hc=>⟨(n4 J hc).e,.inr ⟨W,_,B,T.aq hc n2,p7,(dg.aq hc n2).2⟩⟩
def T6 (h:Y) (n:Nat) (xs:AH):Prop:=xs.length=4/\∀x∈xs,∃m cs,m<=n/\Rd h x 1 m (Ay cs)
def ABl (ad:Base S L) (r:Rd h v 1 n (Ay bs)) (hn:n<=100000000):
 Bk S L 1 196 [v] h λw J=>AA h J/\∃(xs:AH) (j:Bool),w=.tuple #[.agg ⟨xs⟩,.bool j]/\T6 J n xs:=
 Cn f196 ad λd aj hL=>by
  obtain⟨h1,F,x1,y,n1⟩:=Aew (z:=.agg ⟨AE 4 (.slice Z 0 0)⟩) Kq h;have y:Own h1 h.nx 312 (AE 4 (.slice Z 0 0)):=y;refine⟨_,_,F _,λK A c=>∃(k m:Nat) (v:Aa) (cs:Bl) (xs:AH),A=[(0,v),(2,AG h.nx 0),(6,Vi k)]/\k<=4/\K=4-k/\m<=n/\Rd h v 1 m (Ay cs)/\T6 h n xs/\Own c h.nx 312 xs/\AA h c,
   ⟨_,_,Sq,?_,0,n,_,bs,_,B,Al _,B,Ae _,r,⟨by simp,λx b=>⟨0,[],Al _,?_⟩⟩,y,x1⟩,?_⟩
  .omega
  .rw[CH b];exact(AS.nil h 0 5 1).rd
  rintro K A c ⟨k,m,v,cs,xs,rfl,hk,rfl,hm,r,⟨p,C⟩,o,g⟩ ak;have ae:xs.all one=true:=by
   rw[Jf];intro x b;obtain⟨_,_,_,a⟩:=C x b;exact a.one
  have M:∀H,AA h H->Own H h.nx 312 xs->∃a,Bw Ax 312 H h.nx 0=I (.agg ⟨xs⟩)/\BA Ax 312 H h.nx 0 (.agg ⟨xs⟩)=I a/\Bw Ax 312 a h.nx 0=I (.agg ⟨xs⟩)/\
   ∀j:Bool,AA h a/\∃(xs':AH) (af:Bool),C4 #[.agg ⟨xs⟩,.bool j]=.tuple #[.agg ⟨xs'⟩,.bool af]/\T6 a n xs':=λH g o=>by
   obtain⟨a,s,N,s3⟩:=o.bD Kq (i:=0) p G ae;have ag:I2 xs 0 xs=xs:=by
    have:=JB xs [] xs B;simpa using this
   rw[ag] at N;have O:=g.ah s3 Jq;exact⟨a,EQ Kq o.cells p,s,EQ Kq N.cells p,λj=>⟨O,xs,j,B,p,λx b=>by
    obtain⟨m,cs,h1,a⟩:=C x b;exact⟨m,cs,h1,a.ext O⟩⟩⟩
  obtain⟨a,P,s,Q,R⟩:=M c g o;have D:=r;obtain⟨hr,A0,T,rfl,al,am,hA⟩:=r;have an:cs.length=m:=by rw[A7] at hr;omega
  apply Bz<;>intro e;rotate_left
  .exact⟨_,P,_,s,_,Q,R _⟩
  apply Bz<;>intro e1
  .exact⟨_,P,_,s,_,Q,R Ah⟩
  obtain⟨a1,F,e9,_,u⟩:=(D.ext g).at_ G;cases e9;have hb:=λk=>Pd (cs.getD k 0);obtain⟨z1,l1⟩:=LY (z:=8) (n:=8) B G (hb 1);obtain⟨z2,l2⟩:=LY (z:=16) (n:=16) B G (hb 2);obtain⟨z3,l3⟩:=LY (z:=24) (n:=24) B G (hb 3);obtain⟨t1,m1⟩:=Oj (by have:=hb 0;omega:(cs.getD 0 0).toNat<4294967296) l1;obtain⟨t2,m2⟩:=Oj m1 l2;obtain⟨t3,m3⟩:=Oj m2 l3;obtain⟨q,V⟩:∃q,q=(cs.getD 0 0).toNat|||(cs.getD 1 0).toNat*2^8|||(cs.getD 2 0).toNat*2^16|||(cs.getD 3 0).toNat*2^24:=⟨_,B⟩;have f:JP .i64 (JP .i64 (JP .i64 ((cs.getD 0 0).toNat:Int) (Es .i64 ((cs.getD 1 0).toNat:Int) 8)) (Es .i64 ((cs.getD 2 0).toNat:Int) 16)) (Es .i64 ((cs.getD 3 0).toNat:Int) 24)=(q:Int):=by
   rw[z1,t1,z2,t2,z3,t3,V]
  rw[←V] at m3;refine⟨[],Kq,G,_,Rd.ld u B (i:=0) (by rfl) (CY G),_,.inl ⟨⟨G,G2 _⟩,B⟩,
   G,_,Rd.ld u B (i:=1) (by rfl) (CY G),_,.inl ⟨⟨G,G2 _⟩,B⟩,G,
   G,_,Rd.ld u B (i:=2) (by rfl) (CY G),_,.inl ⟨⟨G,G2 _⟩,B⟩,G,
   G,_,Rd.ld u B (i:=3) (by rfl) (CY G),_,.inl ⟨⟨G,G2 _⟩,B⟩,G,?_⟩
  have W:AA c (nb (nb (nb (nb c)))):=AT (AT (AT (AT (AA.refl c))));have X:=g.trans W;have oX:=o.ext W;obtain⟨h3,k12,k1,ah,ai⟩:=M _ X oX;refine⟨Pq,Bz (λe2=>?_) (λe2=>?_)⟩
  .exact⟨_,k12,_,k1,_,ah,ai Ah⟩
  rw[f] at e2;obtain⟨E,f1,f2,_⟩:=D.slice Kq (lo:=I (Vi 4)) (U:=I (Vi (4+q:Nat))) (l:=4) B B G G;obtain⟨w2,f3,f4,_⟩:=D.slice (τ:=Ax) (t:=62) Kq (lo:=I (Vi (4+q:Nat))) (U:=Z) (l:=4+q) (m:=m) B B G G;rw[BJ,BJ,EA,Ez] at f2 f4;have aa:∀H,CN H (C7 Ax 62 (.slice (I a1) m T) (I (Vi 4)) (I (Vi (4+q:Nat))) Z)=I (E,H):=λH=>by rw[f1];rfl
  have ab:∀H,CN H (C7 Ax 62 (.slice (I a1) m T) (I (Vi (4+q:Nat))) Z Z)=I (w2,H):=λH=>by rw[f3];rfl
  obtain⟨h5,u5,u6,u7⟩:=Own.st (h:=(nb (nb (nb (nb c)))).ad) (τ:=Ax) (t:=62) B (i:=k) (v:=E) oX G f2.one;rw[(G:((4+q:Nat):Int)=(4:Int)+q),←f] at aa ab;refine⟨[],Kq,⟨by rw[f];omega,by rw[f];omega⟩,_,_,aa _,⟨by rw[f];omega,by rw[f];omega⟩,_,_,ab _,G,h5,(by rw[(by show 0+k*1=k;omega:0+((k:Int)).toNat*t62.size=k)];exact u5),Pq,_,_,Sq,G,k+1,m-(4+q),w2,_,xs.set k E,B,G,B,G,f4,⟨by simp;exact p,λx b=>?_⟩,u6.aa,X.ah u7.aa (Ae _)⟩;rcases BT b with b|rfl
  .exact C x b
  .exact⟨_,_,G,f2⟩
def Sep.dk {e:Ai} {z:Aa} (f:G1 τ t t e 1=Ag) (j:CP τ e=I z) (h1:one z=Ag) {a:List Ct} (s:Sep h0 h a) (l m:Nat) (b:l<=m) (k:m<=16777216) (c d:Cq):
 ∃v g,Dk τ t (.int c (l:Int)) (.int d (m:Int)) h=I (v,g)/\Sep h0 g (aS h0.nx e 1 v l (AE l z)::a):=by
 obtain⟨g,a1,n,o,p⟩:=Vs f j h1 l m b k c d h;refine⟨_,g,a1,s.add n ⟨by simp,.inr ⟨h.nx,m,AE (m-l) z,B,s.e.nx,b,by simp;omega,?_⟩⟩ λi U=>A2 U.symm⟩;rw[Qi,show l+(m-l)=m by omega];exact o
def Sep.cU {e:Ai} {z:Aa} (j:G1 τ t t e 1=Ag) (k:CP τ e=I z) (h1:one z=Ag) {a:List Ct} (s:Sep h0 h a) (l m:Nat) (b:l<=m) (n:m<=16777216) (c d:Cq):
 ∃v g,Dk τ t (.int c (l:Int)) (.int d (m:Int)) h.ad=I (v,g)/\Sep h0 (h.aa g) (aS h0.nx e 1 v l (AE l z)::a):=by
 obtain⟨g,a1,o,f,p⟩:=Vs j k h1 l m b n c d h.ad;rw[BF] at f;refine⟨_,g,a1,s.cf o ⟨by simp,.inr ⟨h.nx,m,AE (m-l) z,?_,s.e.nx,b,by simp;omega,?_⟩⟩ λi U=>A2 U.symm⟩
 .rfl
 rw[Qi,show l+(m-l)=m by omega];exact f
def Fam (b a:Bo):Prop:=b.length=a.length/\a[0]?=I 0/\∀j,0<j->j<a.length->b.getD j 0<j/\a.getD j 0=a.getD (b.getD j 0) 0+1
def Fam.add {b a:Bo} (f:Fam b a) (U:i<a.length):Fam (b++[i]) (a++[a.getD i 0+1]):=by
 obtain⟨f1,f2,f3⟩:=f;have old:∀(l:Bo) x j,j<l.length->(l++[x]).getD j 0=l.getD j 0:=λl x j c=>by
  rw[Ak,Ak,AB c]
 have d:∀(l:Bo) x,(l++[x]).getD l.length 0=x:=λl x=>by
  rw[Ak,Bq (Ae _)];simp
 refine⟨by simp[f1],by rw[AB G];exact f2,λj c e=>?_⟩;simp[Aj,Br] at e;rcases A8 j a.length with h|h
 .obtain⟨g,k⟩:=f3 j c h
  rw[old b i j G,old a _ j h,old a _ (b.getD j 0) G];exact⟨g,k⟩
 .obtain rfl:j=a.length:=G
  rw[d a];rw[(by rw[←f1];exact d b i:(b++[i]).getD a.length 0=i),old a _ i U];exact⟨U,B⟩
def Fam.le {b a:Bo} (f:Fam b a):∀j,j<a.length->a.getD j 0<=j:=by
 intro j
 induction j using Nat.strongRecOn with
 |
  _ j c=>
  intro d;rcases KQ j with rfl|h
  .rw[Ak,f.2.1];exact Ae _
  .obtain⟨e,g⟩:=f.2.2 j h d
   have:=c _ e G;omega
def AS.bW (o:AS h N e k (sL b n c) n xs) (U:xs[i]?=I u):Cell h b i u:=by
 obtain⟨a,d,e,_,q⟩:=o.cell U;cases e;exact q
def Z5 {l:List Bool} (h:l.getD i Ah=Ag):i<l.length:=by
 rcases A8 i l.length with h1|h1
 .exact h1
 .rw[Ak,CD h1] at h;cases h
def SL (l:BZ) (i:Nat) (s:Bd):(AR l).set i (Sg s)=AR (l.set i s):=by simp[AR,Cp]
def Yb (l:Bl) (i:Nat) (s:UInt8):(Ay l).set i (.int .u8 (s.toNat:Int))=Ay (l.set i s):=by simp[Ay,Cp]
def ADg (p:Base S L) {b1 O m w3:Nat} {P y:List Bool} {H:Nat} {lb:Bl} {ab:Bo} (Q:Du h b0 P) (W:Du h b1 y) (r:Rd h lv 1 H (Ay lb)) (X:BX h O m w3 ab) (al:H<=100000000):
 Bk S L 3 198 [AG b0 0,AG b1 0,lv,AG O 0] h λw J=>AA h J/\∃(v:Aa) (R:Bool),w=.tuple #[v,.bool R]/\(R=Ag->∃l:BZ,Rd J v 1 l.length (AR l)):=
 Cn f198 p λd am hL=>by
  have r0:=r;obtain⟨hr,A0,c0,rfl,an,ao,hA⟩:=r;have ap:lb.length=H:=by rw[A7] at hr;omega
  have aq:=Q.len;have ar:=W.len;have K:AA h h/\∃(v:Aa) (R:Bool),C4 #[sN,.bool Ah]=.tuple #[v,.bool R]/\(R=Ag->∃l:BZ,Rd h v 1 l.length (AR l)):=⟨AA.refl h,_,Ah,B,λh=>by cases h⟩;refine GZ (Acy p W.c0 d G) ?_;apply Bz<;>intro e1
  .exact K
  refine GZ (Acy p Q.c0 d G) ?_;refine⟨Pq,Pq,Ad (λe2=>?_) (λe2=>?_)⟩
  .exact K
  refine⟨Pq,Ad (λe3=>?_) (λe3=>?_)⟩
  .exact K
  refine GZ (ZW p W Ag y.length G d G) ?_;refine GZ (K3 p X.1 d G) ?_;apply Ad<;>intro e4
  .exact K
  refine GZ (K3 p X.1 d G) ?_;apply Ad<;>intro e5
  .exact K
  refine GZ (Acw p Q d G) ?_;refine⟨_,_,B,Ad (λe6=>?_) (λe6=>?_)⟩
  .exact K
  refine GZ (Acw p Q d G) ?_;apply Ad<;>intro e7
  .exact K
  have e3:(H:Int)=y.length-1:=by simpa using e3
  have e5:=KK e5;obtain⟨D,g1,y1,s1⟩:=(Sep.nil h).cU (τ:=Ax) (t:=48) (z:=Vi 0) Kq Kq B 1 y.length G G .i64 .i64;obtain⟨C,g2,y2,s2⟩:=s1.cU (τ:=Ax) (t:=48) (z:=Vi 0) Kq Kq B 1 y.length G G .i64 .i64;refine⟨[],Kq,_,_,y1,_,_,y2,GZ (K3 p (X.ext s2.e).1 d G) ?_⟩;obtain⟨g3,y3,x3,o3,au⟩:=Vs (τ:=Ax) (t:=55) (z:=.string ⟨#[]⟩) Kq Kq B m m (Ae _) G .i64 .i64 ((h.aa g1).aa g2);rw[show AE m (Sg ⟨#[]⟩)=AR (AE m ⟨#[]⟩) by simp[AR]] at o3;have s3:=s2.add (a:=aO ((h.aa g1).aa g2).nx 9 (AR (AE m ⟨#[]⟩))) x3 o3 λi U=>A2 U.symm;refine⟨_,_,y3,?_⟩;generalize((h.aa g1).aa g2).nx=bl at s3 y3⊢;refine⟨λM A hh=>∃(i f k:Nat) (D C:Aa) (c b:Bo) (E:BZ),A=[(0,AG b0 0),(1,AG b1 0),(2,.slice A0 H c0),(3,AG O 0),(11,D),(12,C),(13,Vi f),(14,Vi k),(15,sL bl m m),(69,Vi y.length),(70,Vi i)]/\
   i<=y.length/\M=y.length-i/\f<=P.length+2+i/\k<=i/\Fam c b/\b.length<=f/\E.length=m/\Sep h hh [aO bl 9 (AR E),aS h.nx 3 1 C b.length (Bn b),aS h.nx 3 1 D c.length (Bn c)],
   ⟨_,_,Sq,?_,0,2,0,D,C,[0],[0],_,B,Al _,B,G,Ae _,⟨B,B,λj h1 h2=>by simp at h2;omega⟩,by simp,by simp,s3⟩,?_⟩
  .omega
  rintro M A hh ⟨i,f,k,D,C,c,b,E,rfl,U,rfl,ad,hk,u,ae,aa,s⟩ av;apply Bz<;>intro f1;rotate_left
  .refine⟨s.e,_,Ag,B,λ_=>⟨E,?_⟩⟩
   have:=(s.dD (i:=0) B).cR (CM E);rw[aa] at this⊢;exact this
  have ag:=u.1;have ah:0<b.length:=(List.getElem?_eq_some_iff.1 u.2.1).1;obtain⟨bp,cp,rfl⟩:=(s.sl (i:=2) B).lit G;apply Bz<;>intro f2
  .exact⟨s.e,_,Ah,B,λh=>by cases h⟩
  refine⟨λM A o=>∃(f:Nat) (D C:Aa) (c b:Bo),A=[(0,AG b0 0),(1,AG b1 0),(2,.slice A0 H c0),(3,AG O 0),(11,D),(12,C),(13,Vi f),(14,Vi k),(15,sL bl m m),(16,Vi i),(69,Vi y.length),(70,Vi i)]/\
   M=P.length-f/\f<=P.length+2+i/\Fam c b/\i<b.length/\b.length<=f/\Sep h o [aO bl 9 (AR E),aS h.nx 3 1 C b.length (Bn b),aS h.nx 3 1 D c.length (Bn c)],
   ⟨_,_,Sq,?_,f,_,C,c,b,B,B,ad,u,G,ae,s⟩,?_⟩
  .omega
  clear s u ae ag ah f2 ad;rintro M A o ⟨f,D,C,c,b,rfl,rfl,ad,u,N,ae,s⟩ aw;have ag:=u.1;obtain⟨bp,cp,rfl⟩:=(s.sl (i:=2) B).lit G;obtain⟨F,cd,rfl⟩:=(s.sl (i:=1) B).lit G;have ax:=u.le i N;refine GZ (Acw p (Q.ext s.e) d G) ?_;apply Ad<;>intro f3
  .have f3:f<P.length:=by
    rw[An] at f3;exact Z5 f3.2
   obtain⟨gx,T,v5,h5,t5,s5,hB⟩:=s.bo (st:=48) (t2:=48) (e:=3) (k:=1) Kq (i:=2) B (ys:=[Vi i]) B B s.e.nx G (n':=(c++[i]).length) (xs':=Bn (c++[i])) (by simp) (by simp[Bn]);subst T;obtain⟨gy,T,v6,V,t6,s6,_⟩:=s5.bo (st:=48) (t2:=48) (e:=3) (k:=1) Kq (i:=1) B (ys:=[Vi (b.getD i 0+1:Nat)]) B B s5.e.nx G (n':=(b++[b.getD i 0+1]).length) (xs':=Bn (b++[b.getD i 0+1])) (by simp) (by simp[Bn]);subst T;have ai:=(s5.sl (i:=1) B).bW (GH N);have l5:Bw Ax 3 ((o.aa (BN o.ad 3 [Vi i])).aa h5).ad F (0+((i:Int)).toNat*t3.size)=I (Vi (b.getD i 0:Nat)):=by
    rw[show 0+((i:Int)).toNat*t3.size=i by show 0+i*1=i;omega];exact ld B ai
   have aj:=Iv (τ:=Ax) (t:=48) (e:=3) (k:=1) Kq (Vi (((b.getD i 0:Nat):Int)+1)) B B (by decide) ((o.aa (BN o.ad 3 [Vi i])).aa h5).ad;rw[(G:((b.getD i 0+1:Nat):Int)=((b.getD i 0:Nat):Int)+1)] at t6 s6;refine⟨[.x 8 3],Kq,_,_,Iv (τ:=Ax) (t:=48) (e:=3) (k:=1) Kq (Vi i) B B (by decide) _,_,_,t5,G,_,l5,hB F (by have:=(s.sl (i:=1) B).aw F B;exact this) (s.2.2 1 2 _ _ (by decide) B B F B),
    Pq,_,_,aj,_,_,t6,Pq,?_⟩
   refine⟨_,_,Sq,G,f+1,v5,v6,_,_,B,B,G,u.add N,by simp;omega,by simp;omega,s6⟩
  refine⟨Pq,GZ (Acw p (W.ext s.e) (i:=i) d G) ?_⟩;refine⟨_,_,B,Ad (λf4=>?_) (λf4=>?_)⟩
  .exact⟨Pq,_,_,Sq,G,i+1,f+1,k,_,_,c,b,E,B,G,B,G,G,u,G,aa,s⟩
  refine GZ (ZZ p (X.ext s.e) (i:=k) d G) ?_;obtain⟨q,hq,ay,az⟩:∃q:Int,(if(0:Int)<=(k:Int)/\(k:Int)<m then E1 ab w3 (k:Int).toNat else 0)=q/\0<=q/\q<18446744073709551616:=by
   refine⟨_,B,?_,?_⟩<;>(have:=FM ab w3 (k:Int).toNat;split<;>omega)
  rw[hq];have lD:∀x,x<b.length->Bw Ax 3 o F (0+((x:Int)).toNat*t3.size)=I (Vi (b.getD x 0:Nat)):=λx hx=>by
   rw[show 0+((x:Int)).toNat*t3.size=x by show 0+x*1=x;omega];exact ld B ((s.sl (i:=1) B).bW (GH hx))
  refine⟨Pq,_,.inl Pq,Bz (λf5=>?_) (λf5=>?_)⟩
  .exact⟨s.e,_,Ah,B,λh=>by cases h⟩
  refine⟨G,_,lD i N,Bz (λf6=>?_) (λf6=>?_)⟩
  .exact⟨s.e,_,Ah,B,λh=>by cases h⟩
  obtain⟨g,ak⟩:∃g,g=b.getD i 0:=⟨_,B⟩;obtain⟨g7,y7,x7,o7,n7⟩:=Vs (τ:=Ax) (t:=62) (e:=5) (z:=.int .u8 0) Kq Kq B g g (Ae _) G .i64 .i64 o;rw[show AE g (AL .u8 0)=Ay (AE g 0) by simp[Ay]] at o7;have s7:=s.add (a:=aO o.nx 5 (Ay (AE g 0))) x7 o7 λi U=>A2 U.symm;refine⟨G,_,lD i N,_,_,(by rw[←ak];exact y7:Dk Ax 62 (Vi (b.getD i 0:Nat)) (Vi (b.getD i 0:Nat)) o=I (sL o.nx g g,g7)),λM A V=>∃(x:Nat) (bs:Bl),A=[(0,AG b0 0),(1,AG b1 0),(2,.slice A0 H c0),(3,AG O 0),(11,sL bp c.length cp),(12,sL F b.length cd),(13,Vi (f+1:Nat)),(14,Vi (k+1:Nat)),(15,sL bl m m),(17,.int .u64 q),(19,sL o.nx g g),(20,Vi x),(69,Vi y.length),(70,Vi i)]/\
   M=x/\x<b.length/\b.getD x 0<=g/\bs.length=g/\Sep h V [aO o.nx 5 (Ay bs),aO bl 9 (AR E),aS h.nx 3 1 (sL F b.length cd) b.length (Bn b),aS h.nx 3 1 (sL bp c.length cp) c.length (Bn c)],
   ⟨_,_,Sq,?_,i,_,B,B,N,G,by simp,s7⟩,?_⟩
  .omega
  rintro x A V ⟨_,bs,rfl,rfl,hx,a0,af,t⟩ a2;have lx:Bw Ax 3 V.ad F (0+((x:Int)).toNat*t3.size)=I (Vi (b.getD x 0:Nat)):=by
   rw[show 0+((x:Int)).toNat*t3.size=x by show 0+x*1=x;omega];exact ld B ((t.sl (i:=2) B).bW (GH hx))
  apply Bz<;>intro f7
  .apply Bz<;>intro f8
   .obtain⟨a1,y1,T,_,q1⟩:=(r0.ext t.e).at_ G
    cases T;obtain⟨m1,m2⟩:=u.2.2 x G hx;obtain⟨h7,u7,t7⟩:=t.stM (t:=5) B (i:=0) B (j:=b.getD x 0-1) (v:=.int .u8 ((lb.getD (x-1) 0).toNat:Int)) (by rw[A7];omega) B;rw[Yb] at t7;have lp:Bw Ax 3 (V.aa h7) bp (0+((x:Int)).toNat*t3.size)=I (Vi (c.getD x 0:Nat)):=by
     rw[show 0+((x:Int)).toNat*t3.size=x by show 0+x*1=x;omega];exact ld B ((t7.sl (i:=3) B).bW (GH G))
    exact⟨[],Kq,G,_,lx,Pq,Pq,G,_,Rd.ld q1 B (i:=x-1) (by show((x:Int)-1).toNat*1=_;omega) (CY G),G,h7,(by rw[(by show 0+_*1=_;omega:0+(((b.getD x 0:Nat):Int)-1).toNat*t5.size=b.getD x 0-1)];exact u7),G,_,lp,_,_,Sq,m1,c.getD x 0,_,B,B,G,G,by simp;exact af,t7⟩
   .obtain⟨h8,u8,t8⟩:=t.st (t:=9) B (i:=1) B (j:=q.toNat) (v:=.string ⟨⟨bs⟩⟩) (by rw[CM];omega) B
    rw[SL] at t8;have i8:0+q.toNat*t9.size=q.toNat:=by show 0+q.toNat*1=_;omega
    exact⟨_,FB (τ:=Ax) (s:=62) (d:=9) Kq ((t.dD (i:=0) B).cR (n:=g) (by rw[A7];exact af)),G,h8,(by rw[i8];exact u8),Pq,_,_,Sq,G,i+1,f+1,k+1,_,_,c,b,_,B,G,B,G,G,u,G,by simp;exact aa,t8.drop 1⟩
  .obtain⟨h8,u8,t8⟩:=t.st (t:=9) B (i:=1) B (j:=q.toNat) (v:=.string ⟨⟨bs⟩⟩) (by rw[CM];omega) B
   rw[SL] at t8;exact⟨_,FB (τ:=Ax) (s:=62) (d:=9) Kq ((t.dD (i:=0) B).cR (n:=g) (by rw[A7];exact af)),G,h8,(by rw[(by show 0+q.toNat*1=_;omega:0+q.toNat*t9.size=q.toNat)];exact u8),Pq,_,_,Sq,G,i+1,f+1,k+1,_,_,c,b,_,B,G,B,G,G,u,G,by simp;exact aa,t8.drop 1⟩
def ACo (a:Base S L) (r:Rd h v 1 n (Ay bs)) (hn:n<=100000000):
 Bk S L 6 118 [v] h λw J=>AA h J/\(w=.tuple #[.pointer Z,Vi 5]\/∃b t,w=.tuple #[AG b 0,Vi 0]/\Ge J h.nx b t):=
 Cn f118 a λd ai _=>by
  refine⟨_,ABl a r hn d G,?_⟩;rintro _ h1 ⟨x1,xs,ok,rfl,f,px⟩;have F:(AJ (.agg ⟨xs⟩)).all one=true:=by
   rw[Jf];intro x f;obtain⟨_,_,_,h2⟩:=px x f;exact h2.one
  obtain⟨g2,H,ab,j,k⟩:=((Sep.nil h).ext x1).var (t:=312) (z:=.agg ⟨AE 4 (.slice Z 0 0)⟩) Kq (v:=.agg ⟨xs⟩) (by show Am xs.length 4=Ag;rw[f];rfl) Jq F;have u:AA h1 ab:=by
   obtain⟨K,z2,ad,ae,t2⟩:=(Sep.nil h1).var (t:=312) (z:=.agg ⟨AE 4 (.slice Z 0 0)⟩) Kq (v:=.agg ⟨xs⟩) (by show Am xs.length 4=Ag;rw[f];rfl) (by show xs.length=_;rw[f];rfl) F;have M:=H [];rw[z2 []] at M;cases M;rw[ae] at j;cases j;exact t2.e
  refine⟨_,_,H _,_,j,_,_,B,Ad (λe=>?_) (λe=>?_)⟩
  .exact⟨k.e,.inl B⟩
  match xs,f,px,k,j with
  |[a0,a1,a2,a3],_,px,k,j=>
  have N:=k.dD (i:=0) B;obtain⟨m0,c0,l0,r0⟩:=px a0 (by simp);obtain⟨m1,c1,l1,r1⟩:=px a1 (by simp);obtain⟨m2,O,l2,r2⟩:=px a2 (by simp);obtain⟨m3,c3,l3,r3⟩:=px a3 (by simp);refine⟨G,_,ld B (N.cell B),_,Awb a (r0.ext u) G d G,?_⟩;intro w3 h3 ⟨m,p3⟩;obtain⟨q3,e3,rfl,f3⟩:∃(q:Aa) (e:Int),w3=.tuple #[q,Vi e]/\(e=0->∃p l,q=AG p 0/\Du h3 p l):=Gq;have P:=N.ext m;refine⟨G,_,ld B (P.cell B),_,Awb a (r2.ext (u.trans m)) G d G,?_⟩;intro w4 h4 ⟨o,p4⟩;obtain⟨q4,e4,rfl,f4⟩:∃(q:Aa) (e:Int),w4=.tuple #[q,Vi e]/\(e=0->∃p l,q=AG p 0/\Du h4 p l):=Gq;have Q:=P.ext o;refine⟨G,_,ld B (Q.cell B),_,Awa a (r3.ext ((u.trans m).trans o)) G d G,?_⟩;intro w5 h5 ⟨s,p5⟩;obtain⟨q5,e5,rfl,f5⟩:∃(q:Aa) (e:Int),w5=.tuple #[q,Vi e]/\(e=0->∃p n wd ws,q=AG p 0/\BX h5 p n wd ws):=Gq;have y:=((k.e.trans m).trans o).trans s;refine Ad (λk1=>?_) (λk1=>?_)
  .exact⟨y,.inl B⟩
  refine Ad (λK=>?_) (λK=>?_)
  .exact⟨y,.inl B⟩
  refine Ad (λk3=>?_) (λk3=>?_)
  .exact⟨y,.inl B⟩
  obtain⟨p6,b6,rfl,v6⟩:=f3 Jq;obtain⟨p7,b7,rfl,v7⟩:=f4 Jq;obtain⟨p8,n8,aj,ak,rfl,v8⟩:=f5 Jq;refine⟨G,_,ld B ((Q.ext s).cell B),_,ADg a ((v6.ext o).ext s) (v7.ext s) (r1.ext (((u.trans m).trans o).trans s)) v8 G d G,?_⟩;rintro _ h9 ⟨x9,v9,al,rfl,f9⟩;have A:=y.trans x9;refine⟨_,_,B,Ad (λk4=>?_) (λk4=>?_)⟩
  .exact⟨A,.inl B⟩
  obtain⟨l9,r9⟩:=f9 Jq;refine⟨_,c87 a r9 d G,?_⟩;rintro _ c ⟨R,⟨e,he,rfl⟩|⟨b,t,rfl,T,_,af⟩⟩
  .refine⟨[],Kq,Ad (λV=>?_) (λV=>?_)⟩
   .exact⟨A.trans R,.inl B⟩
   .have:e=0:=by simpa using V
    omega
  .have ag:=A.trans R
   refine⟨[],Kq,_,Aqp (h:=c.ad) a T d G,?_⟩;rintro W g ⟨C,D,am,ah⟩;have E:=ag.trans C.aa;have X:Rd (c.aa g) W 1 D.length (Ay D):=(ah.rd).aa;have aa:Rd (nb (c.aa g)) v 1 n (Ay bs):=r.ext (AT E);have c1:Ea Ax 62 9 W (c.aa g).ad=I (.string ⟨⟨D⟩⟩,(c.aa g).ad):=FB Kq X;have O:Ea Ax 62 9 v (nb (c.aa g)).ad=I (.string ⟨⟨bs⟩⟩,(nb (c.aa g)).ad):=FB Kq aa;obtain⟨_,A1,an,rfl,_⟩:=X;obtain⟨_,ao,ad,rfl,_⟩:=aa;refine⟨C.ag,_,c1,_,O,_,B,Ad (λk6=>?_) (λk6=>?_)⟩
   .exact⟨AT (AT E),.inl B⟩
   .exact⟨AT (AT E),.inr ⟨b,t,B,((show Ge c h9.nx b t from⟨T,af⟩).mono A.nx|>.ext C.aa).ext (AT (AT (AA.refl _)))⟩⟩
def PV:Bl->Int->Nat->Nat->Option (Int×Nat)
 |[],_,_,_=>Z
 |
  c::l,v,a,i=>
  if(a=63/\1<c.toNat)\/(0<a/\c.toNat=0) then Z else
  let v:=JP .u64 v (Es .u64 (D8 .u8 (c.toNat:Int) 127) (a:Int))
  if c.toNat<128 then I (v,i+1) else PV l v (a+7) (i+1)
def Amo (a b:Int):0<=JP .u64 a b/\JP .u64 a b<18446744073709551616:=by
 obtain⟨y,h1,c⟩:=NR a b;rw[c];omega
def JF:∀(l:Bl) (v:Int) (a i:Nat) (w:Int) (j:Nat),PV l v a i=I (w,j)->(0<=w/\w<18446744073709551616)/\i<j/\j<=i+l.length
 |[],v,a,i,w,j,h=>by cases h
 |
  c::l,v,a,i,w,j,h=>by
  rw[PV] at h;split at h
  .cases h
  .simp only[] at h
   split at h
   .cases h;exact⟨Amo _ _,G,by simp⟩
   .obtain⟨h1,b,d⟩:=JF l _ _ _ w j h
    exact⟨h1,G,by simp;omega⟩
def Akz {h:Y} {v:Aa} {n m:Nat} {bs a:Bl} (r:Rd h v 1 n (Ay bs)) (b:Rd h v 1 m (Ay a)):bs=a:=by
 have e:=r.src;have d:=b.src;obtain⟨_,A,c,rfl,_⟩:=r;obtain⟨_,i,j,g,_⟩:=b;cases g;rw[e] at d;have f:=EM bs;rw[Option.some.inj d,EM] at f;exact(Option.some.inj f).symm
open Classical in
def IK (h:Y) (v:Aa):Option Bl:=if e:∃(bs:Bl) (n:Nat),Rd h v 1 n (Ay bs)/\n<=4611686018427387904 then I (Classical.choose e) else Z
def QB (_:Be) (args:AH) (h:Y):Jl:=match args with
 |
  [v,.int .i64 i]=>(match IK h v with
  |
   some bs=>(match(if 0<=i then PV (bs.drop i.toNat) 0 0 i.toNat else Z) with
   |some (w,j)=>I (.tuple #[.int .u64 w,.int .i64 (j:Int),.bool Ag],h)
   |none=>I (.tuple #[.int .u64 0,.int .i64 0,.bool Ah],h))
  |none=>Z)
 |_=>Z
def Ph (_:Be) (args:AH) (h:Y):Jl:=match args with
 |
  [v,.int .i64 i]=>(match IK h v with
  |
   some bs=>(match(if 0<=i then PV (bs.drop i.toNat) 0 0 i.toNat else Z) with
   |some (w,j)=>if w<=(bs.length:Int)-j then I (.tuple #[.string ⟨⟨(bs.drop j).take w.toNat⟩⟩,.int .i64 ((j:Int)+w),.bool Ag],h) else I (.tuple #[.string ⟨#[]⟩,.int .i64 0,.bool Ah],h)
   |none=>I (.tuple #[.string ⟨#[]⟩,.int .i64 0,.bool Ah],h))
  |none=>Z)
 |_=>Z
structure Base2 (S:A9) (L:Nat):Prop extends Base S L where
 uint:S.ov 113=I QB
 text:S.ov 114=I Ph
def Lm {f:Au} {g:Be->AH->Y->Jl} {args:AH} {h J:Y} {v:Aa} {Q:Aa->Y->Prop} (a:S.ov f=I g) (b:∀c,g c args h=I (v,J)) (d:Q v J):Bk S L 1 f args h Q:=by
 intro n e;obtain⟨m,rfl⟩:∃m,n=m+1:=⟨n-1,G⟩;exact⟨v,J,d,YV a (b _)⟩
def Rf {h:Y} {v:Aa} {n:Nat} {bs:Bl} (r:Rd h v 1 n (Ay bs)) (a:n<=4611686018427387904):IK h v=I bs:=by
 have e:∃(bs:Bl) (n:Nat),Rd h v 1 n (Ay bs)/\n<=4611686018427387904:=⟨bs,n,r,a⟩;unfold IK;rw[dif_pos e];obtain⟨_,b,_⟩:=Classical.choose_spec e;exact Cs I (Akz b r)
def RC {h:Y} {v:Aa} {bs:Bl} (e:IK h v=I bs):∃n,Rd h v 1 n (Ay bs)/\n<=4611686018427387904:=by
 unfold IK at e;split at e
 .rename_i x
  cases e;exact Classical.choose_spec x
 .cases e
def Aki (b:Base2 S L) {h:Y} {v:Aa} {n:Nat} {bs:Bl} (r:Rd h v 1 n (Ay bs)) (c:n<=4611686018427387904) {i:Int}:
 Bk S L 1 113 [v,Vi i] h λw J=>J=h/\∃(x:Int) (j:Nat) (d:Bool),w=.tuple #[.int .u64 x,Vi j,.bool d]/\0<=x/\x<18446744073709551616/\j<=n:=by
 have hb:=Rf r c;have g:bs.length=n:=by have:=r.1;rw[A7] at this;omega
 cases a:(if 0<=i then PV (bs.drop i.toNat) 0 0 i.toNat else Z) with
 |none=>exact Lm b.uint (v:=.tuple #[.int .u64 0,Vi 0,.bool Ah]) (λe=>by simp only[QB,hb,a]) ⟨B,0,0,Ah,B,G,G,G⟩
 |
  some p=>
  obtain⟨x,j⟩:=p;refine Lm b.uint (λe=>by simp only[QB,hb,a]) ⟨B,x,j,Ag,B,?_⟩;split at a
  .obtain⟨h1,k,f⟩:=JF _ _ _ _ _ _ a
   rw[AV] at f;refine⟨h1.1,h1.2,?_⟩;omega
  .cases a
def Auo (b:Base2 S L) {h:Y} {v:Aa} {n:Nat} {bs:Bl} (r:Rd h v 1 n (Ay bs)) (g:n<=4611686018427387904) {i:Int}:
 Bk S L 1 114 [v,Vi i] h λw J=>J=h/\∃(s:Bd) (j:Nat) (c:Bool),w=.tuple #[Sg s,Vi j,.bool c]/\s.size<=n/\j<=n:=by
 have hb:=Rf r g;have l:bs.length=n:=by have:=r.1;rw[A7] at this;omega
 have d:∃(s:Bd) (j:Nat) (c:Bool),C4 #[Sg ⟨#[]⟩,Vi 0,.bool Ah]=.tuple #[Sg s,Vi j,.bool c]/\s.size<=n/\j<=n:=⟨_,0,Ah,B,Al _,G⟩;cases a:(if 0<=i then PV (bs.drop i.toNat) 0 0 i.toNat else Z) with
 |none=>exact Lm b.text (λe=>by simp only[Ph,hb,a]) ⟨B,d⟩
 |
  some p=>
  obtain⟨x,j⟩:=p;split at a
  .obtain⟨h1,m,k⟩:=JF _ _ _ _ _ _ a
   rw[AV] at k;by_cases f:x<=(bs.length:Int)-j
   .refine Lm b.text (v:=.tuple #[Sg ⟨⟨(bs.drop j).take x.toNat⟩⟩,Vi ((j:Int)+x),.bool Ag]) (λe=>by simp only[Ph,hb,a,Bi f,Bi ‹0<=i›]) ⟨B,⟨⟨(bs.drop j).take x.toNat⟩⟩,(j+x.toNat),Ag,?_,?_,G⟩
    .rw[show(((j+x.toNat:Nat)):Int)=(j:Int)+x by omega]
    .rw[J9];show((bs.drop j).take x.toNat).length<=n;simp;omega
   .exact Lm b.text (λe=>by simp only[Ph,hb,a,Bm f,Bi ‹0<=i›]) ⟨B,d⟩
  .cases a
def Ni {a:Type} {P:a->Prop} {c:Bool} {x y:a} (b:P x) (d:P y):P (bif c then x else y):=by cases c<;>assumption
def TU (a b c d:Nat):1<=(ZN a b c d).2:=
 Ni (P:=λx:Nat×Nat=>1<=x.2) (Ae 1) (Ni (P:=λx:Nat×Nat=>1<=x.2) (Ni (P:=λx:Nat×Nat=>1<=x.2) (by show 1<=2;decide) (Ae 1))
  (Ni (P:=λx:Nat×Nat=>1<=x.2) (Ni (P:=λx:Nat×Nat=>1<=x.2) (by show 1<=3;decide) (Ae 1)) (Ni (P:=λx:Nat×Nat=>1<=x.2) (Ni (P:=λx:Nat×Nat=>1<=x.2) (by show 1<=4;decide) (Ae 1)) (Ae 1))))
def NE {h:Y} {r:Nat} {s:Bd} {p:Nat} (b:h.t.get r=I (.str s p)):(p<s.size/\∃w z,(1<=w/\w=(FF (s.data.toList.drop p)).2/\z=(FF (s.data.toList.drop p)).1)/\FT (AG r 0) Ag h=I [(.tuple #[.bool Ag,Vi p,.int .i32 z],h.put r (.str s (p+w)))])\/
 (s.size<=p/\FT (AG r 0) Ag h=I [(.tuple #[.bool Ah],h)]):=by
 rcases A8 p s.size with a|a
 .refine .inl ⟨a,(FF (s.data.toList.drop p)).2,(FF (s.data.toList.drop p)).1,⟨TU _ _ _ _,B,B⟩,?_⟩
  show(match h.t.get r,Ag with|some (.str s c),Ag=>_|some (.ay Z _ _ _),Ah=>_|some (.ay (I m) d seen e),Ah=>_|_,_=>_)=_
  rw[b];simp only[show AD p s.size=Ag by rw[AK];exact a,D1];rfl
 .refine .inr ⟨a,?_⟩
  show(match h.t.get r,Ag with|some (.str s c),Ag=>_|some (.ay Z _ _ _),Ah=>_|some (.ay (I m) d seen e),Ah=>_|_,_=>_)=_
  rw[b];simp only[show AD p s.size=Ah by rw[MK,ne_eq,AK];omega,I0]
def Adp (S:A9) (L d:Nat) (fv:Aa) (h:Y):Prop:=∃g first cap,fv=.func (.func g) first cap/\∀z J,AA h J->Bk S L d g (first.toList++[.int .i32 z]++cap.toList) J λv a=>a=J/\∃b,v=.bool b
def AAy (n:Base S L) {h:Y} {s:Bd} (y:s.size<=100000000) {fv:Aa} {e:Nat} (o:Adp S L e fv h) {t:Bool}:
 Bk S L (e+1) 349 [Sg s,fv,.bool t] h λw J=>AA h J/\∃z:Int,w=Vi z:=
 Cn f349 n λd C D=>by
  obtain⟨g,first,cap,rfl,q⟩:=o
  have c:=(Sep.nil h).add (a:=aB h.nx (.str s 0)) (AA.new h (.str s 0)) ⟨by rw[Ck];omega,by rw[CK,Bi B]⟩ λi U=>A2 U.symm;have r:Gh Ax 9 (Sg s) h=I (AG h.nx 0,h.new (.str s 0)):=rfl;refine⟨_,_,r,?_⟩;refine⟨λm A f=>∃p:Nat,A=[(1,.func (.func g) first cap),(2,.bool t),(10,AG h.nx 0)]/\m=s.size-p/\Sep h f [aB h.nx (.str s p)],
   ⟨_,_,Sq,?_,0,B,B,c⟩,?_⟩
  .omega
  rintro m A f ⟨p,rfl,rfl,c⟩ E;rcases NE (c.a7 (i:=0) B) with⟨u,w,z,F,j⟩|⟨u,j⟩
  .refine⟨_,_,j,?_⟩
   have l:=c.ah (i:=0) (a':=aB h.nx (.str s (p+w))) B (Er.put f h.nx (.str s (p+w))).ae ⟨by rw[Cc];exact(c.2.1 0 _ B).1.1,by rw[BQ,Bi B]⟩ (λx v=>.inl v);refine⟨_,q z _ l.e d G,?_⟩;rintro _ H ⟨rfl,b,rfl⟩;refine⟨_,B,Ad (λk=>?_) (λk=>?_)⟩
   .exact⟨l.e,_,B⟩
   .exact⟨_,_,Sq,G,p+w,B,B,l⟩
  .exact⟨_,_,j,c.e,_,B⟩
def ACl (a:Base S L) {h:Y} {s:Bd} (b:s.size<=100000000) {fv:Aa} {e:Nat} (c:Adp S L e fv h):
 Bk S L (e+2) 319 [Sg s,fv] h λw J=>AA h J/\∃z:Int,w=Vi z:=
 Cn f319 a λd g _=>by
  refine cl (AAy a b c) ?_;rintro _ h1 ⟨f,z,rfl⟩;exact⟨f,z,B⟩
def Ajq (a:Base S L) {h:Y} {s:Bd} (c:s.size<=100000000) {fv:Aa} {e:Nat} (f:Adp S L e fv h):
 Bk S L (e+3) 261 [Sg s,fv] h λw J=>AA h J/\∃b:Bool,w=.bool b:=
 Cn f261 a λd i _=>by
  refine cl (ACl a c f) ?_;rintro _ h1 ⟨g,z,rfl⟩;exact⟨g,_,B⟩
def AAt (a:Base S L) {h:Y} {s:Bd}:Bk S L 5 251 [Sg s] h λw J=>AA h J/\∃b:Bool,w=.bool b/\(b=Ag->s.size<=16):=
 Cn f251 a λd g _=>by
  apply Ad<;>intro i
  .apply Bz<;>intro j
   .refine cl (Ajq a G (e:=1) ⟨315,#[],#[],B,λz J _=>(ADt a).mono λv k c=>⟨c.2,_,c.1⟩⟩) ?_
    rintro _ h1 ⟨f,b,rfl⟩;exact⟨_,_,B,f,_,B,λ_=>G⟩
   .exact⟨AA.refl h,Ah,B,λh=>by cases h⟩
  .exact⟨AA.refl h,Ah,B,λh=>by cases h⟩
def Lx {b:Type} {l:List b} {a:b} (h:l[i]?=I a):l.set i a=l:=by
 apply List.ext_getElem?;intro j;rw[Iu];split
 .rename_i e;subst e
  rw[Bi (List.getElem?_eq_some_iff.1 h).1,h]
 .rfl
def Sep.a5 (c:Gv τ t=Ag) {l:List Ct} (s:Sep h0 h l) (U:l[i]?=I (aO b e xs)) (d:j<xs.length) (h1:one v=Ag):
 ∃J,BA τ t h b j v=I J/\Sep h0 J (l.set i (aO b e (xs.set j v)))/\Er b h J:=by
 obtain⟨J,a1,f,a⟩:=Own.st c (s.dD U) d h1;exact⟨J,a1,s.ah U a.ae f (λx g=>.inl g),a⟩
def Avw (p:Base2 S L) {l:List Ct} (s:Sep h0 h l) {b1 b c:Nat} (u:i≠k) (c1:Cell h b1 0 v) (H:b1≠b) (r:Rd h v 1 n (Ay bs)) (K:n<=100000000) {j:Int} {e:Bool} (U:l[i]?=I (aO b 3 [Vi j])) (f:l[k]?=I (aO c 4 [.bool e])) {most:Nat} (M:most<=100000000):
 Bk S L 2 188 [Vi most,AG b1 0,AG b 0,AG c 0] h λw J=>∃(x:Nat) (a:Int) (g:Bool),w=Vi x/\x<=most/\(a=j\/0<=a/\a<=n)/\Sep h0 J ((l.set i (aO b 3 [Vi a])).set k (aO c 4 [.bool g])):=
 Cn f188 p.toBase λd N _=>by
  have c4:=(s.dD U).cell (i:=0) B;have z:=(s.dD f).cell (i:=0) B;refine⟨_,ld B c1,_,ld B c4,_,Aki p r G d G,?_⟩;rintro _ h ⟨rfl,x,q,O,rfl,P,Q,R⟩;obtain⟨x,rfl⟩:∃y:Nat,x=y:=⟨x.toNat,G⟩;obtain⟨A,m,C⟩:=s.st (t:=4) B f (v:=.bool Ah) (by show 0<1;decide) B;have o:∃(x:Nat) (a:Int) (g:Bool),Vi 0=Vi x/\x<=most/\(a=j\/0<=a/\a<=n)/\Sep h0 A ((l.set i (aO b 3 [Vi a])).set k (aO c 4 [.bool g])):=
   ⟨0,j,Ah,B,Al _,.inl B,by rw[Lx U];exact C⟩
  obtain⟨T,t1,t2⟩:=s.st (t:=3) B U (v:=Vi q) (by show 0<1;decide) B;refine⟨_,ld B z,_,_,B,Ad (λD=>?_) (λD=>?_)⟩
  .exact⟨_,m,o⟩
  refine⟨_,_,B,Ad (λE=>?_) (λE=>?_)⟩
  .exact⟨_,m,o⟩
  refine⟨_,.inl Pq,Bz (λF=>?_) (λF=>?_)⟩
  .exact⟨_,m,o⟩
  refine⟨_,t1,_,.inl Pq,x,q,e,B,G,.inr G,?_⟩;rw[Lx (by rw[Amv u];exact f:(l.set i (aO b 3 [Vi q]))[k]?=I (aO c 4 [.bool e]))];exact t2
def Sep.al {z:Aa} (b:CP Ax t=I z) {l:List Ct} (s:Sep h0 h l):∃a,(∀A,D9 Ax A h (.alloc t)=I (AG h.nx 0,a))/\Sep h0 a (aO h.nx t (AJ z)::l):=
 ⟨BN h t (AJ z),λA=>by show(match CP Ax t with|some z=>K7 Ax t z h|none=>Z)=_;rw[b];rfl,s.add (AA.row h t (AJ z)) (Own.row _ _ _) λi U=>A2 U.symm⟩
def Adv:DQ:=⟨⟨#[]⟩,.slice Z 0 0,[]⟩
def H3 (ps:List DQ):AH:=ps.flatMap Fj
def OS (ps:List DQ):(H3 ps).length=ps.length*2:=by
 induction ps with
 |nil=>rfl
 |cons p ps a=>simp[H3,Dg,Aj,AO] at a⊢;rw[a];simp[Fj];omega
def Aay (m:Nat):Dy [Sg ⟨#[]⟩,sN] m=H3 (AE m Adv):=by
 induction m with
 |zero=>rfl
 |succ m a=>rw[Dy,a];rfl
def XM (ps:List DQ) {p:DQ} (U:ps[i]?=I p) (s:Bd):(H3 ps).set (i*2) (Sg s)=H3 (ps.set i {p with nm:=s}):=by
 induction ps generalizing i with
 |nil=>cases U
 |
  cons q ps a=>
  cases i with
  |zero=>cases U;rfl
  |
   succ i=>
   have:=a (by simpa using U);rw[show(i+1)*2=i*2+1+1 by omega];show Fj q++(H3 ps).set (i*2) (Sg s)=Fj q++H3 (ps.set i {p with nm:=s});rw[this]
def Yh (ps:List DQ) {p:DQ} (U:ps[i]?=I p) (v:Aa) (b:Bl):(H3 ps).set (i*2+1) v=H3 (ps.set i {p with dv:=v,db:=b}):=by
 induction ps generalizing i with
 |nil=>cases U
 |
  cons q ps a=>
  cases i with
  |zero=>cases U;rfl
  |
   succ i=>
   have:=a (by simpa using U);rw[show(i+1)*2+1=i*2+1+1+1 by omega];show Fj q++(H3 ps).set (i*2+1) v=Fj q++H3 (ps.set i {p with dv:=v,db:=b});rw[this]
def TE (h:Y) (M:Nat) (ps:List DQ):Prop:=∀p∈ps,p.nm.size<=100000000/\p.db.length<=16777216/\Rd h p.dv 1 p.db.length (Ay p.db)/\∀i,BY p.dv i->M<=i
def TE.ae {M:Nat} {ps:List DQ} (p:TE h M ps) (c:B0 W h J) (b:∀i,W i->i<M):TE J M ps:=λq d=>by
 obtain⟨h1,e,f,a⟩:=p q d;exact⟨h1,e,f.ae c λi U g=>by have:=a i U;have:=b i g;omega,a⟩
def TE.set {M:Nat} {ps:List DQ} (p:TE h M ps) (i:Nat) {q:DQ} (b:q.nm.size<=100000000/\q.db.length<=16777216/\Rd h q.dv 1 q.db.length (Ay q.db)/\∀i,BY q.dv i->M<=i):TE h M (ps.set i q):=λx a=>by
 rcases BT a with a|rfl
 .exact p x a
 .exact b
def Jp (u:BA τ t h b j v=I J) (a:x=j):BA τ t h b x v=I J:=by rw[a];exact u
def Dz (u:Bw τ t h b j=I v) (a:x=j):Bw τ t h b x=I v:=by rw[a];exact u
def Own.dB (o:Own h b e xs) (a:xs.length=n*k):Rd h (sL b n n) k n xs:=
 AS.rd ⟨a,.inr ⟨b,n,[],B,Ae _,Ae _,by simp;omega,by simpa using o⟩⟩
def AGc (V:Base2 S L) (r:Rd h v 1 n (Ay bs)) (hn:n<=100000000):
 Bk S L 3 112 [v] h λw J=>AA h J/\∃(o:Aa) (c:Bool),w=.tuple #[o,.bool c]/\(c=Ag->∃ps,ps.length<=64/\EC J o ps):=
 Cn f112 V.toBase λd a2 hL=>by
  obtain⟨hr,N,O,rfl,ai,aj,hA⟩:=r;have rr:Rd h (.slice N n O) 1 n (Ay bs):=⟨hr,N,O,B,ai,aj,hA⟩;obtain⟨g1,y1,s1⟩:=(Sep.nil h).box Ax 62 (.slice N n O);obtain⟨g2,y2,W⟩:=s1.al (z:=Vi 0) Kq;obtain⟨g3,y3,C⟩:=W.al (z:=.bool Ah) Kq;obtain⟨g4,y4,D⟩:=C.st (t:=3) B (i:=1) B (v:=Vi 4) (by show 0<1;decide) B;obtain⟨g5,y5,f⟩:=D.st (t:=4) B (i:=0) B (v:=.bool Ag) (by show 0<1;decide) B;refine⟨_,_,y1,_,_,y2 _,_,_,y3 _,_,y4,_,y5,?_⟩;generalize ab:g1.nx=g at f;generalize ad:g2.nx=P at f;have aa:h.nx≠g:=λe=>f.2.2 2 1 _ _ (by decide) B B h.nx B e;subst ab ad;refine cl (Avw V f (i:=1) (k:=0) (by decide) ((f.dD (i:=2) B).cell B) aa (rr.ext f.e) hn B B (most:=64) G) ?_;rintro _ h6 ⟨m,Q,ak,rfl,hm,al,s6⟩;have al:0<=Q/\Q<=n+4:=G;obtain⟨g7,y7,x7,o7,_⟩:=YH (τ:=Ax) (t:=118) (e:=203) (k:=2) (z:=.agg #[Sg ⟨#[]⟩,sN]) Kq Kq m m (Ae _) G .i64 .i64 h6;have o7:Own g7 h6.nx 203 (H3 (AE m Adv)):=by rw[←Aay];exact o7
  have s7:=s6.add (a:=aO h6.nx 203 (H3 (AE m Adv))) x7 o7 λi U=>A2 U.symm;obtain⟨g8,y8,x8,o8,n8⟩:=MA (τ:=Ax) (t:=48) (e:=3) (z:=Vi 0) Kq Kq B m G .i64 .i64 g7;rw[show AE m (Vi 0)=Bn (AE m 0) by simp[Bn]] at o8;have R:=s7.add (a:=aO g7.nx 3 (Bn (AE m 0))) x8 o8 λi U=>A2 U.symm;refine⟨_,_,y7,_,_,y8,?_⟩;have am:=R.2.1 0 _ B;generalize an:g7.nx=X at R;generalize ao:h6.nx=T at R;generalize ab:g1.nx=g at R;generalize ad:g2.nx=P at R;obtain⟨Q,rfl⟩:∃y:Nat,Q=y:=⟨Q.toNat,G⟩;refine⟨λμ A E=>∃(i j:Nat) (c:Bool) (ps:List DQ) (sz:Bo),A=[(1,AG h.nx 0),(4,AG g 0),(5,AG P 0),(6,.func (.func 188) #[] #[AG h.nx 0,AG g 0,AG P 0]),(7,sL T m m),(8,sL X m m),(9,Vi i)]/\
   i<=m/\μ=m-i/\j<=n+4/\ps.length=m/\sz.length=m/\(∀x∈sz,x<=16777216)/\(∀p∈ps,p.nm.size<=100000000/\p.dv=sN/\p.db=[])/\Sep h E [aO X 3 (Bn sz),aO T 203 (H3 ps),aO P 4 [.bool c],aO g 3 [Vi j],aO h.nx 62 [.slice N n O]],
   ⟨_,_,Sq,?_,0,Q,ak,_,_,B,Al _,B,G,by simp,by simp,?_,?_,R⟩,?_⟩
  .omega
  .intro x hx;rw[CH hx];omega
  .intro p u;rw[CH u];exact⟨Al _,rfl,rfl⟩
  clear am an ao ab ad s7 s6 f D C W s1 aa;rintro μ A E ⟨i,j,c,ps,sz,rfl,U,rfl,ae,K,ap,ag,M,s⟩ aq;have aa:h.nx≠g:=λe=>s.2.2 4 3 _ _ (by decide) B B h.nx B e;have c1:=(s.dD (i:=4) B).cell (i:=0) B;have c4:=(s.dD (i:=3) B).cell (i:=0) B;have c5:=(s.dD (i:=2) B).cell (i:=0) B;apply Bz<;>intro e1;refine⟨_,ld B c5,Ad (λe2=>?_) (λe2=>?_)⟩
  .refine⟨_,ld B c1,_,ld B c4,_,Auo V (rr.ext s.e) G d G,?_⟩
   rintro _ E ⟨rfl,nm,q,is,rfl,a3,hq⟩;refine⟨_,_,B,Ad (λe3=>?_) (λe3=>?_)⟩
   .exact⟨s.e,_,Ah,B,λh=>by cases h⟩
   have af:ps[i]?=I ps[i]:=Ab G;obtain⟨F,u2,W⟩:=s.st (t:=9) B (i:=1) B (j:=i*2) (v:=.string nm) (by rw[OS];omega) B;rw[XM ps af] at W;obtain⟨h3,u3,C⟩:=W.st (t:=3) B (i:=3) B (j:=0) (v:=Vi q) (by show 0<1;decide) B;refine⟨G,_,Jp u2 (by show 0+i*2+0=i*2;omega),_,u3,_,Avw V C (i:=3) (k:=2) (by decide) ((C.dD (i:=4) B).cell (i:=0) B) aa (rr.ext C.e) hn B B (most:=16777216) G d G,?_⟩;rintro _ h4 ⟨x,j4,ar,rfl,hx,a4,D⟩;obtain⟨j4,rfl⟩:∃y:Nat,j4=y:=⟨j4.toNat,G⟩;obtain⟨h5,u5,f⟩:=D.st (t:=3) B (i:=0) B (j:=i) (v:=Vi x) (by rw[HO];omega) B;rw[show(Bn sz).set i (Vi x)=Bn (sz.set i x) by simp[Bn,Cp]] at f;refine⟨G,_,Jp u5 (by show 0+i*1=i;omega),Pq,_,_,Sq,G,i+1,j4,ar,_,_,B,G,B,G,by simp;exact K,by simp;exact ap,?_,?_,f⟩
   .intro y hy
    rcases BT hy with hy|rfl
    .exact ag y hy
    .exact hx
   .intro p u
    rcases BT u with u|rfl
    .exact M p u
    .exact⟨by show nm.size<=_;omega,(M _ (Bu _)).2⟩
  all_goals
   refine⟨λμ A F=>∃(i j:Nat) (c:Bool) (ps:List DQ),A=[(1,AG h.nx 0),(4,AG g 0),(5,AG P 0),(7,sL T m m),(51,sL X m m),(52,Vi m),(53,Vi i)]/\
    i<=m/\μ=m-i/\j<=n+4/\ps.length=m/\E.nx<=F.nx/\TE F E.nx ps/\Sep h F [aO X 3 (Bn sz),aO T 203 (H3 ps),aO P 4 [.bool c],aO g 3 [Vi j],aO h.nx 62 [.slice N n O]],
    ⟨_,_,Sq,G,0,j,c,ps,B,Al _,B,ae,K,Ae _,λp u=>?_,s⟩,?_⟩
   .obtain⟨f1,f2,f3⟩:=M p u
    rw[f2,f3];exact⟨f1,Al _,(AS.nil E 0 5 1).rd,λi U=>U.elim⟩
   have au:=(s.dD (i:=3) B).1;have av:=(s.dD (i:=1) B).1;clear M c1 c4 c5 K s ae;rintro μ A F ⟨i,j,c,ps,rfl,U,rfl,ae,K,a5,M,s⟩ aq;have c1:=(s.dD (i:=4) B).cell (i:=0) B;have c4:=(s.dD (i:=3) B).cell (i:=0) B;have c5:=(s.dD (i:=2) B).cell (i:=0) B;apply Bz<;>intro e1;rotate_left
   .have Da:∀b:Bool,AA h F/\∃(o:Aa) (c:Bool),C4 #[sL T m m,.bool b]=.tuple #[o,.bool c]/\(c=Ag->∃ps,ps.length<=64/\EC F o ps):=λb=>by
     refine⟨s.e,_,b,B,λ_=>⟨ps,G,?_,λp u=>?_⟩⟩
     .have:=(s.dD (i:=1) B).dB (n:=m) (k:=2) (by rw[OS,K])
      rw[←K] at this⊢;exact this
     .obtain⟨f1,f2,f3,_⟩:=M p u
      exact⟨f1,f2,f3⟩
    refine⟨[],Kq,_,ld B c5,Ad (λe2=>?_) (λe2=>?_)⟩
    .exact⟨_,ld B c4,_,ld B c1,Da _⟩
    .exact Da Ah
   have aw:sz.getD i 0<=16777216:=by
    rw[Ak,Ab G];exact ag _ (Bu _)
   obtain⟨q,hq⟩:∃q,q=sz.getD i 0:=⟨_,B⟩;have l1:Bw Ax 3 F X (0+((i:Int)).toNat*t3.size)=I (Vi q):=by
    rw[hq];exact Dz (ld B ((s.dD (i:=0) B).cell (GH G))) (by show 0+i*1=i;omega)
   rw[←hq] at aw;refine⟨G,_,l1,_,ld B c5,_,_,B,Ad (λe2=>?_) (λe2=>?_)⟩
   .exact⟨s.e,_,Ah,B,λh=>by cases h⟩
   refine⟨_,ld B c1,_,ld B c4,Pq,Bz (λe3=>?_) (λe3=>?_)⟩
   .exact⟨s.e,_,Ah,B,λh=>by cases h⟩
   obtain⟨w1,f1,f2,_⟩:=rr.slice (τ:=Ax) (t:=62) Kq (lo:=I (Vi (j:Nat))) (U:=I (Vi (j+q:Nat))) (l:=j) (m:=j+q) B B G G;rw[BJ,BJ,EA,Ez,show j+q-j=q by omega] at f2;have ax:∀H,CN H (C7 Ax 62 (.slice N n O) (I (Vi (j:Nat))) (I (Vi ((j:Int)+(q:Int)))) Z)=I (w1,H):=λH=>by
    rw[show(j:Int)+(q:Int)=((j+q:Nat):Int) by omega,f1];rfl
   refine⟨_,ld B c1,_,ld B c4,_,ld B c4,Pq,_,_,ax _,_,Avs V.toBase (f2.ext s.e) G d G,?_⟩;rintro w3 h3 ⟨x3,r3⟩;have C:=s.ext x3;have a6:=x3.nx;have ay:TE h3 E.nx ps:=M.ae (x3.ae λ_=>False) λ_ h=>h.elim;have af:ps[i]?=I ps[i]:=Ab G;obtain⟨h4,u4,D,v4⟩:=C.a5 (τ:=Ax) (t:=62) B (i:=1) B (j:=i*2+1) (v:=w3) (by rw[OS];omega) r3.rd.one;rw[Yh ps af w3 ((bs.drop j).take q)] at D;obtain⟨h5,u5,f,v5⟩:=D.a5 (τ:=Ax) (t:=3) B (i:=3) B (j:=0) (v:=Vi (j+q:Nat)) (by show 0<1;decide) B;have az:((bs.drop j).take q).length=q:=by have:=f2.1;rw[A7] at this;omega
   have ah:TE h4 E.nx ps:=ay.ae v4.ae λi U=>by rw[U];exact av
   have r4:Rd h4 w3 1 q (Ay ((bs.drop j).take q)):=r3.rd.ae v4.ae λi U hb=>by have:=r3.ai i U;have hb:i=T:=hb;omega
   have a0:=(ah.set i (q:={ps[i] with dv:=w3,db:=(bs.drop j).take q}) ⟨(ah _ (Bu _)).1,by show((bs.drop j).take q).length<=_;omega,by show Rd h4 w3 1 ((bs.drop j).take q).length _;rw[az];exact r4,λi U=>by have:=r3.ai i U;omega⟩).ae v5.ae λi U=>by rw[U];exact au
   have ej:((j:Int)+(q:Int))=((j+q:Nat):Int):=G;have a1:BA Ax 3 h4 g 0 (Vi ((j:Int)+(q:Int)))=I h5:=by rw[ej];exact u5
   have a7:=v4.nx;have a8:=v5.nx;exact⟨G,_,Jp u4 (by show 0+i*2+1=i*2+1;omega),_,ld B ((D.dD (i:=3) B).cell (i:=0) B),Pq,_,a1,Pq,_,_,Sq,G,i+1,j+q,c,_,B,G,B,G,by simp;exact K,G,a0,f⟩
def K8 (τ:Bb) (kt:Ai) (K:Aa->Prop):Prop:=∀k,K k->Do τ 5 kt k=Ag/\∀k',K k'->∃b,IZ τ Op.maxDepth kt k k'=I b/\(b=Ag->Cy k' k=Ag)
def Gy (h:Y) (r:Nat) (K V:Aa->Prop):Prop:=r<h.nx/\∃es ck,h.t.get r=I (.map es ck)/\(∀e∈es,K e.key/\V e.val)/\Fc ck 0 es=Ag
def aM (r:Nat) (K V:Aa->Prop):Ct:={
 am:=λi=>i=r
 holds:=λh=>Gy h r K V
 aH:=λc a o=>⟨AC o.1 c.nx,by rw[c.t r o.1 (a r B)];exact o.2⟩
 lt:=λo i U=>by rw[U];exact o.1
 bk:=λo=>by unfold Gy;rw[CL,DF];exact o}
section
variable{τ:Bb} {h:Y} {r:Nat} {K V:Aa->Prop} {t kt et:Ai}
def Yx (a:K8 τ kt K) {k:Aa} (c:K k):∀(es:List Ap) (i:Nat),(∀e∈es,K e.key/\V e.val)->
 CE τ kt k es i=I Z\/∃j e,CE τ kt k es i=I (I (i+j,e))/\es[j]?=I e/\Cy e.key k=Ag
 |[],i,_=>.inl B
 |
  e::es,i,d=>by
  obtain⟨b,h1,f⟩:=(a k c).2 e.key (d e Av).1;rw[CE,h1];cases b with
  |true=>exact .inr ⟨0,e,B,B,f B⟩
  |
   false=>
   rcases Yx a c es (i+1) (λe h=>d e (Az _ h)) with h|⟨j,g,f1,f2,f3⟩
   .exact .inl h
   .exact .inr ⟨j+1,g,by rw[show i+(j+1)=i+1+j by omega];exact f1,by simpa using f2,f3⟩
def SX {f:Ap->Ap} {x:Ap}:∀(es:List Ap) (j:Nat),x∈Cu es j f->x∈es\/∃e,es[j]?=I e/\x=f e
 |[],_,h=>by cases h
 |
  e::es,0,h=>by
  rw[Cu] at h;rcases List.mem_cons.1 h with h|h
  .exact .inr ⟨e,B,h⟩
  .exact .inl (Az _ h)
 |
  e::es,j+1,h=>by
  rw[Cu] at h;rcases List.mem_cons.1 h with h|h
  .exact .inl (by rw[h];exact Av)
  .rcases SX es j h with h|⟨a,h1,b⟩
   .exact .inl (Az _ h)
   .exact .inr ⟨a,by simpa using h1,b⟩
def Afz {c:Aa->Prop} (o:τ.ds.get t=I (.map kt et)) (f:K8 τ kt K) (p:∀k,c k->K k) {z:Aa} (q:CP τ et=I z) (m:Gy h r c V) {k:Aa} (g:K k) (i:Bool):
 ∃v b,BW τ t (.map (I r)) k i h=I (if i then .tuple #[v,.bool b] else v)/\(b=Ag->V v/\∃k',c k'/\Cy k' k=Ag)/\(b=Ah->v=z):=by
 obtain⟨_,es,ck,h1,a,_⟩:=m;unfold BW;rw[o];simp only[(f k g).1,D1,h1];rcases Yx f g es 0 (λe l=>⟨p _ (a e l).1,(a e l).2⟩) with d|⟨j,e,d,n,s⟩
 .simp only[d,q]
  exact⟨z,Ah,B,(λh=>by cases h),λ_=>rfl⟩
 .simp only[d]
  exact⟨e.val,Ag,B,λ_=>⟨(a e (AZ n)).2,_,(a e (AZ n)).1,s⟩,λh=>by cases h⟩
def QH (c:τ.ds.get t=I (.map kt et)) (d:K8 τ kt K) {z:Aa} (f:CP τ et=I z) (m:Gy h r K V) {k:Aa} (g:K k) (a:Bool):
 ∃v b,BW τ t (.map (I r)) k a h=I (if a then .tuple #[v,.bool b] else v)/\(b=Ag->V v)/\(b=Ah->v=z):=
 (Afz c d (λ_ h=>h) f m g a).imp λ_ h=>h.imp λ_ q=>⟨q.1,λe=>(q.2.1 e).1,q.2.2⟩
def Aju (o:τ.ds.get t=I (.map kt et)) (g:K8 τ kt K) (m:Gy h r K V) {k:Aa} (b:K k) (i:V v):∃J,BH τ t (.map (I r)) k v h=I J/\Gy J r K V/\Er r h J:=by
 obtain⟨l,es,ck,h1,c,n⟩:=m;unfold BH;rw[o];simp[(g k b).1,D1,h1];rcases Yx g b es 0 c with d|⟨j,e,d,q,p⟩
 .simp only[d]
  refine⟨_,B,⟨by rw[Cc];exact l,_,_,by rw[BQ,Bi B],λx a=>?_,Kd _ _ es ck 0 n (Al _)⟩,Er.put _ _ _⟩;rcases List.mem_append.1 a with a|a
  .exact c x a
  .rw[List.mem_singleton.1 a];exact⟨b,i⟩
 .simp only[d,p,D1]
  refine⟨_,B,⟨by rw[Cc];exact l,_,_,by rw[BQ,Bi B],λx a=>?_,Kc (f:=λe=>{e with key:=k,val:=v}) (λ_=>rfl) es _ ck 0 n⟩,Er.put _ _ _⟩
  rcases SX _ _ a with a|⟨s,_,rfl⟩
  .exact c x a
  .exact⟨b,i⟩
def SG (f:Ap->Ap):∀(es:List Ap) (j:Nat),(Cu es j f).length=es.length
 |[],_=>rfl
 |_::_,0=>rfl
 |e::es,j+1=>by rw[Cu,AO,AO,SG f es j]
def Zj {k:Aa} {es:List Ap} (a:BH τ t (.map (I r)) k v h=I J) (f:h.t.get r=I (.map es ck)):∃b g,J.t.get r=I (.map b g)/\b.length<=es.length+1:=by
 unfold BH at a;split at a
 .rename_i l _ j
  cases j;cases c:Do τ 5 _ k with
  |false=>rw[c] at a;cases a
  |
   true=>
   rw[c] at a;simp[D1,f] at a;split at a
   .rename_i i e _
    cases d:Cy e.key k with
    |false=>rw[d] at a;cases a
    |true=>rw[d] at a;cases a;exact⟨_,_,by rw[BQ,Bi B],by rw[SG];omega⟩
   .cases a;exact⟨_,_,by rw[BQ,Bi B],by rw[Aj];exact Ae _⟩
   .cases a
 .cases a
def Avm (h:Y) (r:Nat) (K V:Aa->Prop) (n:Nat):Prop:=Gy h r K V/\∃es ck,h.t.get r=I (.map es ck)/\es.length<=n
def PW (r:Nat) (K V:Aa->Prop) (n:Nat):Ct:={
 am:=λi=>i=r
 holds:=λh=>Avm h r K V n
 aH:=λc a o=>⟨(aM r K V).aH c a o.1,by rw[c.t r o.1.1 (a r B)];exact o.2⟩
 lt:=λo i U=>by rw[U];exact o.1.1
 bk:=λo=>⟨(aM r K V).bk o.1,by rw[DF];exact o.2⟩}
def Sep.cz {l:List Ct} (s:Sep h0 h l) (U:l[i]?=I (PW r K V n)):Gy h r K V:=(s.2.1 i _ U).1.1
def Gy.new (h:Y) (K V:Aa->Prop):Gy (h.new (.map [] 0)) h.nx K V:=⟨by rw[Ck];omega,[],0,by rw[CK,Bi B],(λe a=>by cases a),B⟩
def Sep.mk {l:List Ct} (s:Sep h0 h l) (K V:Aa->Prop):Sep h0 (h.new (.map [] 0)) (aM h.nx K V::l):=s.add (AA.new _ _) (Gy.new h K V) λi U=>A2 U.symm
def Sep.mw {l:List Ct} (s:Sep h0 h l) (U:l[i]?=I (aM r K V)):Gy h r K V:=(s.2.1 i _ U).1
def Sep.up {l:List Ct} (s:Sep h0 h l) (U:l[i]?=I (aM r K V)) (a:τ.ds.get t=I (.map kt et)) (b:K8 τ kt K) {k:Aa} (c:K k) (d:V v):∃J,BH τ t (.map (I r)) k v h=I J/\Sep h0 J l:=by
 obtain⟨J,a1,e,f⟩:=Aju a b (s.mw U) c d;have:=s.ah U f.ae e λx g=>.inl g;rw[Lx U] at this;exact⟨J,a1,this⟩
end
def Fh (v:Aa):Prop:=∃s,v=.string s
def MV:K8 Ax 9 Fh:=by
 rintro _ ⟨s,rfl⟩;refine⟨B,?_⟩;rintro _ ⟨a,rfl⟩;refine⟨Gp s.data.toList a.data.toList,B,λh=>?_⟩;obtain rfl:=CJ.1 h;exact h
def KU (ps:List DQ):Nat:=(ps.map λp=>p.db.length).sum
def SH {ps:List DQ} (a:k<ps.length):KU (ps.take (k+1))=KU (ps.take k)+ps[k].db.length:=by
 unfold KU;rw[A5 a,BS,PC];simp
def T8 (ps:List DQ) (k:Nat):KU (ps.take k)<=KU ps:=by
 have e:KU ps=KU (ps.take k)+KU (ps.drop k):=by
  unfold KU;rw[←PC,←BS,FO]
 omega
def X1 {ps:List DQ} (h:∀p∈ps,p.db.length<=16777216):KU ps<=ps.length*16777216:=by
 induction ps with
 |nil=>exact Ae _
 |
  cons p ps a=>
  have:=a λq b=>h q (Az _ b);have h1:=h p Av;simp[KU,Bp,Amw,AO] at this⊢;omega
def isTrue (v:Aa):Prop:=v=.bool Ag
def ACn (P:Base S L) {ps:List DQ} (p:EC h v ps) (hn:ps.length<=64):
 Bk S L 6 181 [v] h λw J=>AA h J/\∃z:Int,w=Vi z/\(z=0->KU ps<=16777216/\∀p∈ps,p.nm.size<=16):=
 Cn f181 P λd ai hL=>by
  obtain⟨r,y⟩:=p;have Q:=r;obtain⟨hr,C,D,rfl,aj,ak,hA⟩:=r;have hb:=X1 (λp a=>(y p a).2.1);refine⟨λn A f=>∃k:Nat,A=[(0,.slice C ps.length D),(3,Vi (KU (ps.take k))),(4,.map (I h.nx)),(5,Vi 0),(11,.slice C ps.length D),(12,Vi ps.length),(13,Vi k)]/\k<=ps.length/\n=ps.length-k/\Sep h f [aM h.nx Fh isTrue],
   ⟨_,_,Sq,?_,0,B,Al _,B,(Sep.nil h).mk Fh isTrue⟩,?_⟩
  .omega
  rintro n A f ⟨k,rfl,hk,rfl,s⟩ ab;have ad:=T8 ps k;apply Bz<;>intro e
  .have l:k<ps.length:=G
   have m:=Ab l;have E:=SH l;obtain⟨q,t⟩:∃q,q=ps[k]:=⟨_,B⟩;rw[←t] at m E;obtain⟨m1,F,x⟩:=y q Jq;obtain⟨g,dv,j⟩:=q;have E:KU (ps.take (k+1))=KU (ps.take k)+j.length:=E;have F:=F;obtain⟨a1,y1,K,_,o⟩:=(Q.ext s.e).el l;cases K;rw[Vo ps m] at o;obtain⟨h1,t2,t3,t4,h2,t5,t6,t7⟩:=U9 f ⟨g,dv,j⟩ x.one;have ae:Rd h dv 1 j.length (Ay j):=x;obtain⟨_,af,c3,rfl,_⟩:=ae;refine⟨G,_,EQ Kq (show BK f a1.block (a1.off+(k:Int).toNat*2) (Fj ⟨g,.slice af j.length c3,j⟩) by rw[show(k:Int).toNat=k from B];exact o) B,_,_,t2,_,t5,_,ld B (t7.cell B),Pq,Pq,_,_,Sq,G,k+1,B,G,B,s.ext t6⟩
  obtain rfl:k=ps.length:=G;rw[CS] at ad⊢;refine Ad (λe1=>?_) (λe1=>?_)
  .exact⟨s.e,2,B,λh=>by cases h⟩
  apply Bz<;>intro e2
  .exact⟨s.e,2,B,λh=>by cases h⟩
  refine⟨λn A f=>∃(k:Nat) (z:Int),A=[(4,.map (I h.nx)),(5,Vi z),(30,.slice C ps.length D),(31,Vi ps.length),(32,Vi k)]/\k<=ps.length/\n=ps.length-k/\(∀p∈ps.take k,p.nm.size<=16)/\Sep h f [aM h.nx Fh isTrue],
   ⟨_,_,Sq,?_,0,0,B,Al _,B,(λp a=>by simp at a),s⟩,?_⟩
  .omega
  rintro n A f ⟨k,z,rfl,hk,rfl,M,s⟩ ab;apply Bz<;>intro e;rotate_left
  .obtain rfl:k=ps.length:=G
   rw[CS] at M;exact⟨s.e,z,B,λ_=>⟨G,M⟩⟩
  have l:k<ps.length:=G;have m:ps[k]?=I ps[k]:=Ab l;obtain⟨q,t⟩:∃q,q=ps[k]:=⟨_,B⟩;rw[←t] at m;obtain⟨m1,F,x⟩:=y q (AZ m);obtain⟨g,dv,j⟩:=q;obtain⟨a1,y1,K,_,o⟩:=(Q.ext s.e).el l;cases K;rw[Vo ps m] at o;obtain⟨h1,t2,t3,t4,h2,t5,t6,t7⟩:=U9 f ⟨g,dv,j⟩ x.one;refine⟨G,_,EQ Kq (show BK f a1.block (a1.off+(k:Int).toNat*2) (Fj ⟨g,dv,j⟩) by rw[show(k:Int).toNat=k from B];exact o) B,_,_,t2,_,t5,_,ld B (t7.cell B),_,AAt P d G,?_⟩;rintro _ R ⟨T,b,rfl,ag⟩;have N:=(s.ext t6).ext T;refine⟨_,_,B,Ad (λV=>?_) (λV=>?_)⟩
  .exact⟨N.e,1,B,λh=>by cases h⟩
  have O:=(t7.cell (i:=0) B).ext T;obtain⟨u,b4,l1,l2,l3⟩:=QH (et:=4) Kq MV Kq (N.mw (i:=0) B) ⟨g,B⟩ Ah;obtain⟨c,rfl⟩:∃c,u=.bool c:=by
   cases b4 with
   |true=>exact⟨Ag,l2 B⟩
   |false=>exact⟨Ah,l3 B⟩
  have ah:∀H,CN H (BW Ax 72 (.map (I h.nx)) (.string g) Ah R)=I (.bool c,H):=λH=>by rw[l1];rfl
  obtain⟨h5,u5,W⟩:=N.up (et:=4) (i:=0) B Kq MV ⟨g,B⟩ B;have X:Nb (BH Ax 72 (.map (I h.nx)) (.string g) (.bool Ag) R)=I (.tuple #[],h5):=by rw[u5];rfl
  have aa:∀p∈ps.take (k+1),p.nm.size<=16:=λp a=>by
   rw[A5 l] at a;rcases List.mem_append.1 a with a|a
   .exact M p a
   .rw[List.mem_singleton.1 a,←t];exact ag (by cases b<;>first|rfl|cases V)
  refine⟨_,ld B O,_,_,ah _,Ad (λe4=>?_) (λe4=>?_)⟩
  .exact⟨_,ld B O,_,_,X,Pq,_,_,Sq,G,k+1,_,B,G,B,aa,W⟩
  .exact⟨_,ld B O,_,_,X,Pq,_,_,Sq,G,k+1,_,B,G,B,aa,W⟩
def Ahi {h:Y} {b n:Nat} {xs:AH} (o:Own h b 5 xs) (m:xs.length=n) (d:Nat) (f:n<=d):
 ∃e,Ea Ax 62 62 (sL b n d) h=I (sL b n d,e)/\Rd e (sL b n d) 1 n xs/\Er b h e:=by
 obtain⟨hb,c,x,g,j⟩:=o;refine⟨h.put b (.cells c xs.length 5 1 0 x),?_,⟨G,_,_,B,f,(λh=>by cases h),?_⟩,Er.put _ _ _⟩
 .show(match Ax.ds.get 5,h.t.get b with|some (.int .u8),I (.cells c k el 0 0 x)=>I (sL b n d,h.put b (.cells c k el 1 0 x))|_,_=>Z)=_
  rw[g];rfl
 rintro a l;cases l;refine⟨by rw[Cc];exact hb,c,_,_,_,_,_,by rw[BQ,Bi B],λi u U=>?_⟩;rw[Ba];exact j i u U
def Awq (s:Base S L) {h:Y} {v:Aa} {ps:List DQ} (p:EC h v ps) (hn:ps.length<=64) (qq:G3 h):
 Bk S L 7 101 [v] h λw J=>AA h J/\∃(o:Aa) (z:Int),w=.tuple #[o,Vi z]/\(z=0->∃bs:Bl,bs.length<=20000000/\AS J h.nx 5 1 o bs.length (Ay bs)):=
 Cn f101 s λd ai hL=>by
  have p0:=p;obtain⟨r,pp⟩:=p;have r0:=r;obtain⟨hr,M,N,rfl,aj,ak,hA⟩:=r;refine cl (ACn s p0 hn) ?_;rintro _ h1 ⟨O,z,rfl,hz⟩;apply Ad<;>intro e
  .exact⟨O,_,z,B,λb=>by subst b;cases e⟩
  obtain⟨F,ad⟩:=hz (by simpa using e);have x2:=AA.row h1 5 (Ay [72,78,75,49]);obtain⟨H,e2,r2,f⟩:=Ahi (Own.row h1 5 (Ay [72,78,75,49])) (n:=4) B 4 (Ae _);have aa:AA h H:=(O.trans x2).then f.ae (λi U=>by have:=O.nx;omega)
  refine⟨_,_,bs4 72 78 75 49 h1,_,_,e2,_,.inl Pq,_,R5 s (x:=ps.length) r2 G G d G,?_⟩;rintro o3 h3 ⟨x3,m,hm,cs,P⟩;have ae:=aa.trans x3;refine⟨λC A b=>∃(k:Nat) (cv:Aa) (bs:Bl),A=[(0,.slice M ps.length N),(5,cv),(21,.slice M ps.length N),(22,Vi ps.length),(23,Vi k)]/\k<=ps.length/\C=ps.length-k/\AA h b/\bs.length<=64+k*200/\AS b h.nx 5 1 cv bs.length (Ay bs),
   ⟨_,_,Sq,?_,0,_,[72,78,75,49]++cs,B,Al _,B,ae,?_,?_⟩,?_⟩
  .omega
  .have:=P.len;rw[A7] at this;omega
  .have h1:=P.len
   rw[A7] at h1;rw[←h1];exact P.mono aa.nx
  rintro C A b ⟨k,cv,bs,rfl,hk,rfl,g,ab,o⟩ af;apply Bz<;>intro e
  .have t:k<ps.length:=G
   have c:ps[k]?=I ps[k]:=Ab t;obtain⟨q,Q⟩:∃q,q=ps[k]:=⟨_,B⟩;rw[←Q] at c;obtain⟨m1,D,j⟩:=pp q (AZ c);have m4:=ad q (AZ c);obtain⟨u,dv,a⟩:=q;have D:a.length<=16777216:=D;have m4:u.size<=16:=m4;obtain⟨a1,y1,R,_,E⟩:=(r0.ext g).el t;cases R;rw[Vo ps c] at E;obtain⟨h4,t2,t3,t4,h5,t5,t6,t7⟩:=U9 b ⟨u,dv,a⟩ j.one;have ag:Rd h dv 1 a.length (Ay a):=j;obtain⟨_,ah,c3,rfl,_⟩:=ag;refine⟨G,_,EQ (k:=2) Kq (show BK b a1.block (a1.off+(k:Int).toNat*2) (Fj ⟨u,.slice ah a.length c3,a⟩) by rw[show(k:Int).toNat=k from B];exact E) B,_,_,t2,_,t5,_,ld B (t7.cell (i:=0) B),_,Avn s (o.ext t6).rd G G d G,?_⟩;rintro o6 h6 ⟨l,m6,al,am,y⟩;have K:=y.len;rw[A7] at K;refine⟨_,ld B ((t7.ext l).cell (i:=1) B),_,.inl Pq,_,R5 s (x:=a.length) y.rd G G d G,?_⟩;rintro o7 h7 ⟨x7,m7,an,ao,T⟩;have l7:=T.len;rw[A7] at l7;rw[l7] at T;have g7:=((g.trans t6).trans l).trans x7;refine⟨Pq,?_⟩;exact⟨_,_,Sq,G,k+1,_,_,B,G,B,g7,G,T.mono (Ao (Ao g.nx t6.nx) l.nx)⟩
  obtain rfl:k=ps.length:=G;refine⟨λC A H=>∃(k:Nat) (cv:Aa) (bs:Bl),A=[(5,cv),(38,.slice M ps.length N),(39,Vi ps.length),(40,Vi k)]/\k<=ps.length/\C=ps.length-k/\AA h H/\bs.length<=64+64*200+KU (ps.take k)/\AS H h.nx 5 1 cv bs.length (Ay bs),
   ⟨_,_,Sq,?_,0,_,bs,B,Al _,B,g,G,o⟩,?_⟩
  .omega
  clear o ab g;rintro C A b ⟨k,cv,bs,rfl,hk,rfl,g,ab,o⟩ af;have ap:=T8 ps k;apply Bz<;>intro e
  .have t:k<ps.length:=G
   have F:=SH t;have aq:=T8 ps (k+1);have c:ps[k]?=I ps[k]:=Ab t;obtain⟨q,Q⟩:∃q,q=ps[k]:=⟨_,B⟩;rw[←Q] at c F;obtain⟨m1,D,j⟩:=pp q (AZ c);obtain⟨u,dv,a⟩:=q;have D:a.length<=16777216:=D;have j:Rd h dv 1 a.length (Ay a):=j;have F:KU (ps.take (k+1))=KU (ps.take k)+a.length:=F;obtain⟨a1,y1,R,_,E⟩:=(r0.ext g).el t;cases R;rw[Vo ps c] at E;obtain⟨h4,t2,t3,t4,h5,t5,t6,t7⟩:=U9 b ⟨u,dv,a⟩ j.one;have m5:=j.ext (g.trans t6);have V:=(g.trans t6).nx;obtain⟨v6,h6,W,f,X,u4⟩:=UN (τ:=Ax) (st:=62) (t2:=62) (e:=5) (k:=1) Kq (o.ext t6) m5.bu m5.src (by simp[Ay]) (Fa a) V G;rw[←Ee,←Aj] at f;refine⟨G,_,EQ (k:=2) Kq (show BK b a1.block (a1.off+(k:Int).toNat*2) (Fj ⟨u,dv,a⟩) by rw[show(k:Int).toNat=k from B];exact E) B,_,_,t2,_,t5,_,ld B (t7.cell (i:=1) B),_,_,W,Pq,?_⟩;exact⟨_,_,Sq,G,k+1,_,_,B,G,B,(g.trans t6).then X (λi U=>(o.ext t6).ai i U),by rw[Aj];omega,f⟩
  obtain rfl:k=ps.length:=G;refine cl (Auy s (qq.ext g) o.rd G) ?_;rintro o6 h6 ⟨l,cs,y⟩;have K:=y.len;rw[A7] at K;have V:=(g.trans l).nx;obtain⟨v7,h7,W,f,X,u4⟩:=UN (τ:=Ax) (st:=62) (t2:=62) (e:=5) (k:=1) Kq (o.ext l) y.rd.bu y.rd.src (by rw[A7];omega) (Fa cs) V G;rw[←Ee,K,←Aj] at f;exact⟨_,_,W,(g.trans l).then X (λi U=>o.ai i U),v7,0,B,λ_=>⟨bs++cs,by rw[Aj];omega,f⟩⟩
def c48 (a:Base2 S L) {h:Y} {v:Aa} {n:Nat} {bs:Bl} (r:Rd h v 1 n (Ay bs)) (hn:n<=100000000) (u:G3 h):
 Bk S L 8 48 [v] h λw J=>AA h J/\∃(o:Aa) (z:Int),w=.tuple #[o,Vi z]/\(z=0->∃ps,ps.length<=64/\EC J o ps):=
 Cn f48 a.toBase λd aa _=>by
  have c:=r;obtain⟨hr,f,g,rfl,ab,ad,hA⟩:=r;have b:∀{H:Y} (z:Int),z≠0->AA h H->AA h H/\∃(o:Aa) (y:Int),C4 #[sN,Vi z]=.tuple #[o,Vi y]/\(y=0->∃ps,ps.length<=64/\EC H o ps):=λz j x=>⟨x,_,z,B,λh=>Cf h j⟩;apply Bz<;>intro e
  .exact b 5 (by decide) (AA.refl h)
  obtain⟨A,f1,f2,_⟩:=c.slice (τ:=Ax) (t:=62) Kq (lo:=Z) (U:=I (Vi (4:Nat))) (l:=0) (m:=4) B B G G;rw[BJ,BJ,EA,Ez] at f2;have N:∀H,CN H (C7 Ax 62 (.slice f n g) Z (I (Vi 4)) Z)=I (A,H):=λH=>by
   have:C7 Ax 62 (.slice f n g) Z (I (Vi 4)) Z=I A:=f1;rw[this];rfl
  have c1:=FB (τ:=Ax) (s:=62) (d:=9) Kq f2;obtain⟨_,A1,k1,rfl,_⟩:=f2;refine⟨_,_,N _,_,c1,_,B,Ad (λO=>?_) (λO=>?_)⟩
  .exact b 5 (by decide) (AA.refl h)
  have Q:(n:Int)-4=((n-4:Nat):Int):=G;refine⟨Pq,?_⟩;rw[Q];obtain⟨R,f3,f4,_⟩:=c.slice (τ:=Ax) (t:=62) Kq (lo:=I (Vi (n-4:Nat))) (U:=Z) (l:=n-4) (m:=n) B B G G;obtain⟨T,f5,f6,_⟩:=c.slice (τ:=Ax) (t:=62) Kq (lo:=Z) (U:=I (Vi (n-4:Nat))) (l:=0) (m:=n-4) B B G G;rw[BJ,BJ,EA,Ez] at f4 f6;have V:∀H,CN H (C7 Ax 62 (.slice f n g) (I (Vi (n-4:Nat))) Z Z)=I (R,H):=λH=>by rw[f3];rfl
  have C:∀H,CN H (C7 Ax 62 (.slice f n g) Z (I (Vi (n-4:Nat))) Z)=I (T,H):=λH=>by rw[f5];rfl
  refine⟨[],Kq,_,_,V _,_,_,C _,_,Auy (h:=h.ad) a.toBase u f6 G d G,?_⟩;rintro o4 k ⟨D,cs,W⟩;have E:=D.aa;refine⟨D.ag,_,Adk (h:=(h.aa k).ad) a.toBase (show Rd (h.aa k) _ _ _ _ from f4.ext E) (show Rd (h.aa k) _ _ _ _ from W.rd.aa) d G,?_⟩;rintro _ _ ⟨rfl,rfl⟩;have p:=AT E;refine⟨B,_,_,B,Ad (λX=>?_) (λX=>?_)⟩
  .exact b 11 (by decide) p
  refine⟨_,_,C _,_,AGc a (f6.ext p) G d G,?_⟩;rintro _ h6 ⟨x6,o6,ok,rfl,hp⟩;have q:=p.trans x6;refine⟨_,_,B,Ad (λF=>?_) (λF=>?_)⟩
  .exact b 5 (by decide) q
  obtain⟨ps,K,P⟩:=hp (by cases ok<;>first|rfl|cases F)
  refine cl (Awq a.toBase P K (u.ext q)) ?_;rintro _ h7 ⟨M,o7,z,rfl,j⟩;have i:=q.trans M;apply Ad<;>intro e4
  .exact b 5 (by decide) i
  obtain⟨ae,l7,r7⟩:=j (by simpa using e4);refine cl (Adk a.toBase r7.rd (c.ext i)) ?_;rintro _ h7 ⟨rfl,rfl⟩;refine⟨_,_,B,Ad (λe5=>?_) (λe5=>?_)⟩
  .exact b 5 (by decide) i
  .exact⟨i,o6,0,B,λ_=>⟨ps,K,P.ext M⟩⟩
def flatK {b:Type} {f:b->AH} {k:Nat} (c:∀a,(f a).length=k) (l:List b) {i:Nat} {a:b} (U:l[i]?=I a):((l.flatMap f).drop (i*k)).take k=f a:=by
 induction l generalizing i with
 |nil=>cases U
 |
  cons x l d=>
  cases i with
  |
   zero=>
   cases U;rw[Qg,Ajb,Dg];rw[UR Jq,Bj Jq]
  |
   succ i=>
   rw[Dg,show(i+1)*k=(f x).length+i*k by rw[c,Dw,Nat.one_mul,UK],List.drop_append,List.drop_of_length_le G,Ds,IW];exact d Jq
def HV {b:Type} {f:b->AH} {k:Nat} (c:∀a,(f a).length=k) (l:List b):(l.flatMap f).length=l.length*k:=by
 induction l with
 |nil=>simp
 |cons a l d=>rw[Dg,Aj,d,c,AO,Dw];omega
abbrev JT:=Bd×Int
def Mm (p:JT):AH:=[.string p.1,.int .i64 p.2]
def Gt (h:Y) (v:Aa) (ps:List JT):Prop:=Rd h v 2 ps.length (ps.flatMap Mm)
def AGf (a:Base S L) {h:Y} {z:Int}:Bk S L 1 262 [.int .i32 z] h λw J=>J=h/\∃b,w=.bool b:=
 Cn f262 a λd c _=>by
  repeat' first
   |exact⟨rfl,_,rfl⟩
   |apply Ad<;>intro _
def Azv (a:Base S L) {h:Y} {s:Bd}:Bk S L 5 195 [Sg s] h λw J=>AA h J/\∃b:Bool,w=.bool b/\(b=Ag->s.size<=16):=
 Cn f195 a λd f _=>by
  refine⟨_,B,Ad (λc=>?_) (λc=>?_)⟩
  .apply Bz<;>intro g
   .refine cl (Ajq a G ⟨262,#[],#[],B,λz J _=>AGf a⟩) ?_
    rintro _ h1 ⟨e,b,rfl⟩;exact⟨_,_,B,e,_,B,λ_=>G⟩
   .exact⟨AA.refl h,Ah,B,λh=>by cases h⟩
  .exact⟨AA.refl h,Ah,B,λh=>by cases h⟩
def Aee (S:A9) (L d:Nat) (fv:Aa) (h:Y) (P:AH->Prop):Prop:=∃g first cap,fv=.func (.func g) first cap/\∀xs J,P xs->AA h J->Bk S L d g (first.toList++[.agg ⟨xs⟩]++cap.toList) J λv a=>AA J a/\∃b,v=.bool b
def ABg (j:Base S L) {h:Y} {v:Aa} {n:Nat} {xs:AH} (r:Rd h v 2 n xs) (C:n<=100000000) {fv:Aa} {e:Nat} {P:AH->Prop} (l:Aee S L e fv h P) (m:∀i,i<n->P ((xs.drop (i*2)).take 2)):
 Bk S L (e+1) 259 [v,fv] h λw J=>AA h J/\∃z:Int,w=Vi z/\-1<=z/\z<n:=
 Cn f259 j λd D E=>by
  obtain⟨g,first,cap,rfl,o⟩:=l
  have p:=r;obtain⟨F,q,s,rfl,H,K,M⟩:=r;refine⟨λc A a=>∃k:Nat,A=[(0,.slice q n s),(1,.func (.func g) first cap),(7,Vi n),(8,Vi k)]/\k<=n/\c=n-k/\AA h a,
   ⟨_,_,Sq,?_,0,B,Al _,B,AA.refl _⟩,?_⟩
  .omega
  rintro c A a ⟨k,rfl,N,rfl,x⟩ O;apply Bz<;>intro Q
  .obtain⟨a1,R,t,_,u⟩:=(p.ext x).el (show k<n by omega)
   cases t;have y:((xs.drop (k*2)).take 2).length=2:=Gq;refine⟨Pq,_,EQ Kq (show BK a a1.block (a1.off+(k:Int).toNat*2) ((xs.drop (k*2)).take 2) from u) y,_,o _ a (m k G) x d G,?_⟩;rintro _ T ⟨f,b,rfl⟩;apply Ad<;>intro V
   .exact⟨x.trans f,k,B,G,G⟩
   .exact⟨Pq,_,_,Sq,G,k+1,B,G,B,x.trans f⟩
  .exact⟨x,-1,B,G,G⟩
def AAs (f:Base S L) {h:Y} {b:Nat} {s a:Bd} {k:Int} (c:Cell h b 0 (Sg s)):Bk S L 1 260 [.agg #[Sg a,Vi k],AG b 0] h λw J=>AA h J/\∃b,w=.bool b:=
 Cn f260 f λd j _=>by
  obtain⟨h1,b1,e,g,l⟩:=H1 Ax 112 (.agg #[Sg a,Vi k]) h;have i:=g;exact⟨_,_,b1,_,ld B (i.cell B),_,ld B (c.ext e),_,B,e,_,B⟩
def ABy (a:Base S L) {h:Y} {v:Aa} {ps:List JT} (p:Gt h v ps) (e:ps.length<=100000000) {s:Bd}:Bk S L 3 194 [v,Sg s] h λw J=>AA h J/\∃(z:Int) (b:Bool),w=.tuple #[Vi z,.bool b]:=
 Cn f194 a λd l _=>by
  obtain⟨h1,b1,c,g,m⟩:=H1 Ax 9 (Sg s) h;have c1:Cell h1 h.nx 0 (Sg s):=g.cell B;refine⟨_,_,b1,_,ABg a (p.ext c) e (P:=λxs=>∃q:JT,xs=Mm q) ⟨260,#[],#[AG h.nx 0],B,λxs J j x=>by obtain⟨q,rfl⟩:=j;exact AAs a (c1.ext x)⟩ (λi U=>⟨ps[i],flatK (f:=Mm) (λ_=>rfl) ps (Ab U)⟩) d G,?_⟩;rintro _ n ⟨k,z,rfl,_,_⟩;intro y o;exact⟨c.trans k,y,_,B⟩
def Ayr (a b:Bd) (x y:Int):IZ Ax Op.maxDepth 112 (.agg #[Sg a,Vi x]) (.agg #[Sg b,Vi y])=I (Gp a.data.toList b.data.toList&&x==y):=by
 have e:IZ Ax Op.maxDepth 112 (.agg #[Sg a,Vi x]) (.agg #[Sg b,Vi y])=(match I (Gp a.data.toList b.data.toList) with|some Ag=>(match I (x==y) with|some Ag=>I Ag|some Ah=>I Ah|none=>Z)|some Ah=>I Ah|none=>Z):=by rfl
 rw[e];cases Gp a.data.toList b.data.toList<;>cases(x==y)<;>rfl
def Apq (j:Base S L) {h:Y} {v:Aa} {ps:List JT} (p:Gt h v ps) (V:ps.length<=100000000):Bk S L 6 115 [v] h λw J=>AA h J/\∃z:Int,w=Vi z/\(z=0->1<=ps.length/\ps.length<=64/\∀q∈ps,q.1.size<=16/\0<=q.2/\q.2<=2):=
 Cn f115 j λd aa hL=>by
  have l:=p;obtain⟨hr,A0,E,rfl,ab,ad,hA⟩:=p;have a:∀{H:Y},AA h H->AA h H/\∃z:Int,Vi 5=Vi z/\(z=0->1<=ps.length/\ps.length<=64/\∀q∈ps,q.1.size<=16/\0<=q.2/\q.2<=2):=λx=>⟨x,5,B,λh=>by cases h⟩;apply Bz<;>intro e1
  .exact a (AA.refl h)
  apply Bz<;>intro e2
  .exact a (AA.refl h)
  obtain⟨a1,y1,m,_,n⟩:=Rd.el l (i:=0) G;cases m;rw[flatK (f:=Mm) (λ_=>rfl) ps (Ab G)] at n;refine⟨Pq,_,EQ Kq Jq B,?_⟩;have W:∀ox oy,Jo Ax .neq 112 ox oy (.agg ⟨Mm ps[0]⟩) (.agg #[Sg ⟨#[66,79,83]⟩,Vi 0])=I (.bool (!(Gp ps[0].1.data.toList [66,79,83]&&ps[0].2==0))):=λox oy=>by
   show(match IZ Ax Op.maxDepth 112 (.agg #[Sg ps[0].1,Vi ps[0].2]) (.agg #[Sg ⟨#[66,79,83]⟩,Vi 0]) with|some b=>I (CU (!b))|none=>Z)=_
   rw[Ayr]
  refine⟨_,W _ _,Ad (λX=>?_) (λX=>?_)⟩
  .exact a (AA.refl h)
  refine⟨λF A o=>∃k:Nat,A=[(0,.slice (I a1) ps.length E),(22,.slice (I a1) ps.length E),(23,Vi ps.length),(24,Vi k)]/\k<=ps.length/\F=ps.length-k/\(∀q∈ps.take k,q.1.size<=16/\0<=q.2/\q.2<=2)/\AA h o,
   ⟨_,_,Sq,?_,0,B,Al _,B,Jq,AA.refl _⟩,?_⟩
  .omega
  rintro F A o ⟨k,rfl,hk,rfl,r,x⟩ ae;apply Bz<;>intro k1;rotate_left
  .obtain rfl:k=ps.length:=G
   rw[CS] at r;exact⟨x,0,B,λ_=>⟨G,G,r⟩⟩
  have s:k<ps.length:=G;have K:=Ab s;obtain⟨q,M⟩:∃q,q=ps[k]:=⟨_,B⟩;rw[←M] at K;obtain⟨nm,u⟩:=q;obtain⟨a2,y2,m,_,n⟩:=(l.ext x).el s;cases m;rw[flatK (f:=Mm) (λ_=>rfl) ps K] at n;obtain⟨g1,z1,g2,z2,N⟩:=(Sep.nil o).var (t:=112) (z:=.agg #[Sg ⟨#[]⟩,Vi 0]) Kq (v:=.agg ⟨Mm (nm,u)⟩) B B B;have O:=N.dD (i:=0) B;have y:=x.trans N.e;refine⟨Pq,_,EQ Kq Jq B,_,_,z1 _,_,z2,_,ld B (O.cell B),_,ABy j (l.ext y) V d G,?_⟩;rintro _ h3 ⟨C,z,b,rfl⟩;have P:=O.ext C;apply Ad<;>intro k2
  .exact a (y.trans C)
  refine⟨_,ld B (P.cell B),_,Azv j d G,?_⟩;rintro _ h4 ⟨Q,b4,rfl,D⟩;have R:=P.ext Q;have g:=(y.trans C).trans Q;refine⟨_,_,B,Ad (λT=>?_) (λT=>?_)⟩
  .exact a g
  have D:=D (by cases b4<;>first|rfl|cases T)
  refine⟨_,ld B (R.cell B),Bz (λk4=>?_) (λk4=>?_)⟩
  .exact a g
  refine⟨_,ld B (R.cell B),Bz (λk5=>?_) (λk5=>?_)⟩
  .exact a g
  refine⟨Pq,_,_,Sq,G,k+1,B,G,B,λq c=>?_,g⟩;rw[A5 s] at c;rcases List.mem_append.1 c with c|c
  .exact r q c
  .rw[List.mem_singleton.1 c,←M];exact⟨D,by show 0<=u;omega,by show u<=2;omega⟩
def Gt.ext {ps:List JT} (p:Gt h v ps) (x:AA h J):Gt J v ps:=Rd.ext p x
def c93 (a:Base S L) {ps:List JT} (p:Gt h v ps) (X:ps.length<=100000000):Bk S L 7 93 [v] h λw J=>AA h J/\∃(o:Aa) (z:Int) (bs:Bl),w=.tuple #[o,Vi z]/\bs.length<=20000/\AS J h.nx 5 1 o bs.length (Ay bs):=
 Cn f93 a λd af hL=>by
  have D:=p;obtain⟨hr,A0,c0,rfl,ag,ah,hA⟩:=p;refine cl (Apq a D X) ?_;rintro _ h1 ⟨l,z,rfl,hz⟩;apply Ad<;>intro e
  .exact⟨l,_,z,[],B,Al _,AS.nil _ _ _ _⟩
  obtain⟨l1,n,hq⟩:=hz Jq;refine⟨_,.inl Pq,_,R5 a (AS.nil h1 h.nx 5 1).rd (bs:=[]) G G d G,?_⟩;rintro r h2 ⟨b,m,hm,cs,E⟩;have n:=E.len;rw[A7] at n;refine⟨λF A c=>∃(k:Nat) (cv:Aa) (bs:Bl),A=[(5,cv),(17,.slice A0 ps.length c0),(18,Vi ps.length),(19,Vi k)]/\k<=ps.length/\F=ps.length-k/\AA h c/\bs.length<=60+k*200/\AS c h.nx 5 1 cv bs.length (Ay bs),
   ⟨_,_,Sq,?_,0,_,_,B,Al _,B,l.trans b,G,n▸(E.mono l.nx)⟩,?_⟩
  .omega
  rintro F A c ⟨k,cv,bs,rfl,hk,rfl,x,ai,o⟩ aj;apply Bz<;>intro k1;rotate_left
  .exact⟨x,cv,0,bs,B,G,o⟩
  have H:k<ps.length:=G;have K:=Ab H;obtain⟨q,aa⟩:∃q,q=ps[k]:=⟨_,B⟩;rw[←aa] at K;obtain⟨f1,f2,f3⟩:=hq q Jq;obtain⟨M,g⟩:=q;have f1:M.size<=16:=f1;obtain⟨g,rfl⟩:∃y:Nat,g=y:=⟨g.toNat,G⟩;obtain⟨a2,y2,e9,_,q1⟩:=(D.ext x).el H;cases e9;rw[flatK (f:=Mm) (λ_=>rfl) ps K] at q1;obtain⟨g1,z1,j,z2,s⟩:=(Sep.nil c).var (t:=112) (z:=.agg #[Sg ⟨#[]⟩,Vi 0]) Kq (v:=.agg ⟨Mm (M,(g:Int))⟩) B B B;have r:=s.dD (i:=0) B;have b:=x.trans s.e;have Sn:=r.cell (i:=0) B;have ab:=r.cell (i:=1) B;refine⟨G,_,EQ Kq Jq B,_,_,z1 _,_,z2,[],Kq,_,ld B Sn,_,Avn (h:=j.ad) a (o.ext s.e).rd G G d G,?_⟩;rintro o3 u ⟨C,N,ak,O,P⟩;have l3:=P.len;rw[A7] at l3;have Q:=b.trans C.aa;have c31:=ab.ext C.aa;have ad:=((P.mono (by rw[BF];exact b.nx)).aa:AS (j.aa u) h.nx 5 1 o3 (bs.length+N) (Ay (bs++O))).ext (AT (AA.refl _));refine⟨C.ag,_,ld B c31,_,.inl Pq,_,R5 (h:=(nb (j.aa u)).ad) a ad.rd G G d G,?_⟩;rintro o4 h4 ⟨R,m4,al,ae,T⟩;have V:=T.len;rw[A7] at V;have W:AS ((nb (j.aa u)).aa h4) h.nx 5 1 o4 (bs.length+N+m4) (Ay (bs++O++ae)):=(T.mono (by rw[BF];exact(AT Q).nx)).aa;rw[V] at W;exact⟨R.ag,Pq,_,_,Sq,G,k+1,_,_,B,G,B,(AT Q).trans R.aa,G,W⟩
def c49 (c:Base2 S L) (r:Rd h v 1 n (Ay bs)) (V:n<=100000000):
 Bk S L 7 49 [v] h λw J=>AA h J/\∃(o:Aa) (z:Int),w=.tuple #[o,Vi z]/\one o=Ag/\(z=0->∃ps:List JT,AS J h.nx 112 2 o ps.length (ps.flatMap Mm)/\1<=ps.length/\ps.length<=64/\∀q∈ps,q.1.size<=16/\0<=q.2/\q.2<=2):=
 Cn f49 c.toBase λd W X=>by
  have f:=r;obtain⟨hr,D,E,rfl,aa,ab,hA⟩:=r;have a:∀{H:Y},AA h H->AA h H/\∃(o:Aa) (z:Int),C4 #[sN,Vi 5]=.tuple #[o,Vi z]/\one o=Ag/\(z=0->∃ps:List JT,AS H h.nx 112 2 o ps.length (ps.flatMap Mm)/\1<=ps.length/\ps.length<=64/\∀q∈ps,q.1.size<=16/\0<=q.2/\q.2<=2):=λx=>⟨x,_,5,B,B,λh=>by cases h⟩;refine cl (Aki c f G) ?_;rintro _ h ⟨rfl,m,e,ok,rfl,ad,ae,s⟩;refine⟨_,_,B,Ad (λF=>?_) (λF=>?_)⟩
  .exact a (AA.refl _)
  apply Bz<;>intro e2
  .exact a (AA.refl _)
  obtain⟨m,rfl⟩:∃y:Nat,m=y:=⟨m.toNat,G⟩;refine⟨λu A b=>∃(k e:Nat) (cv:Aa) (ps:List JT),A=[(0,.slice D n E),(5,Vi e),(7,cv),(26,.int .u64 m),(27,.int .u64 k)]/\k<=m/\u=m-k/\e<=n/\ps.length=k/\AA h b/\AS b h.nx 112 2 cv ps.length (ps.flatMap Mm),
   ⟨_,_,Sq,?_,0,e,_,[],B,Al _,B,s,B,AA.refl _,AS.nil _ _ _ _⟩,?_⟩
  .omega
  rintro u A b ⟨k,e,cv,ps,rfl,hk,rfl,s,K,x,o⟩ af;apply Bz<;>intro k1
  .refine cl (Auo c (f.ext x) G) ?_
   rintro _ b ⟨rfl,g,q,CN,rfl,ag,hq⟩;refine cl (Aki c (f.ext x) G) ?_;rintro _ b ⟨rfl,j,M,ah,rfl,ai,aj,N⟩;refine⟨_,_,B,Ad (λC=>?_) (λC=>?_)⟩
   .exact a x
   refine⟨_,_,B,Ad (λl=>?_) (λl=>?_)⟩
   .exact a x
   apply Bz<;>intro e5
   .exact a x
   obtain⟨v',J,t1,t2,t3,t4⟩:=Tz Kq o (ys:=[Sg g,Vi j]) B B x.nx G;refine⟨_,.inl Pq,_,_,Iv (τ:=Ax) (t:=22) (k:=2) Kq (.agg #[Sg g,Vi j]) B B Jq b,_,_,t1,Pq,_,_,Sq,G,k+1,M,v',ps++[(g,j)],B,G,B,N,by simp;exact K,x.then t3 λi U=>o.ai i U,?_⟩
   rw[Aj,E0];exact t2
  .apply Ad<;>intro C
   .exact a x
   have P:=o.rd;refine cl (Apq c.toBase P G) ?_;rintro _ h2 ⟨p,z,rfl,O⟩;apply Ad<;>intro l
   .exact a (x.trans p)
   .obtain⟨Q,R,T⟩:=O (by simpa using l)
    exact⟨x.trans p,cv,0,B,Rd.one P,λ_=>⟨ps,o.ext p,Q,R,T⟩⟩
def EJ (n:Nat) (l:GX):Prop:=∀p∈l,(0<=p.1.1/\p.1.1<n)/\(0<=p.1.2/\p.1.2<n)/\0<=p.2/\p.2<=30000
def EJ.ah {n:Nat} {a b c:Int} (e:0<=a/\a<n) (hb:0<=b/\b<n) (f:0<=c/\c<=30000):∀{l:GX},EJ n l->EJ n (ML l a b c)
 |[],_=>λp d=>by rw[List.mem_singleton.1 d];exact⟨e,hb,f⟩
 |
  q::l,m=>λp d=>by
  rw[ML] at d;split at d
  .rcases List.mem_cons.1 d with rfl|d
   .exact⟨e,hb,f⟩
   .exact m p (Az _ d)
  .rcases List.mem_cons.1 d with rfl|d
   .exact m _ Av
   .exact EJ.ah e hb f (λp h=>m p (Az _ h)) p d
def EJ.del {n:Nat} {a b:Int}:∀{l:GX},EJ n l->EJ n (Nh l a b)
 |[],m=>m
 |
  q::l,m=>λp c=>by
  rw[Nh] at c;split at c
  .exact m p (Az _ c)
  .rcases List.mem_cons.1 c with rfl|c
   .exact m _ Av
   .exact EJ.del (λp h=>m p (Az _ h)) p c
def QT (a b c:Int):∀l:GX,(ML l a b c).length<=l.length+1
 |[]=>Ae _
 |
  p::l=>by
  rw[ML];split
  .simp
  .have:=QT a b c l;simp;omega
def QZ (a b:Int):∀l:GX,(Nh l a b).length<=l.length
 |[]=>Ae _
 |
  p::l=>by
  rw[Nh];split
  .simp
  .have:=QZ a b l;simp;omega
def F6.ae {W:Nat->Prop} {h J:Y} {b n:Nat} {df:Int} {r:Nat} {l:GX} (m:F6 h b n df r l) (c:B0 W h J) (hb:¬W b) (a:¬W r):F6 J b n df r l:=
 ⟨m.1,m.2.1.ae c hb,m.2.2.1.ae c hb,m.2.2.2.1.ae c hb,m.2.2.2.2.ae c a⟩
def Cell.lt {h:Y} {b i:Nat} {v:Aa} (c:Cell h b i v):b<h.nx:=c.1
def Xg (b n:Nat) (df:Int) (r:Nat) (l:GX):Ct:={
 am:=λi=>i=b\/i=r
 holds:=λh=>F6 h b n df r l
 aH:=λc a o=>o.ae c (a b (.inl B)) (a r (.inr B))
 lt:=λo i U=>by
  rcases U with rfl|rfl
  .exact o.2.1.1
  .exact o.2.2.2.2.1
 bk:=λo=>⟨o.1,o.2.1.aa,o.2.2.1.aa,o.2.2.2.1.aa,P9 o.2.2.2.2⟩}
def Ada (g:Base2 S L) {h0 h:Y} {l:List Ct} (s:Sep h0 h l) {i k b1 b c:Nat} (u:i≠k) {v:Aa} {n:Nat} {bs:Bl} (c1:Cell h b1 0 v) (E:b1≠b) (r:Rd h v 1 n (Ay bs)) (F:n<=100000000) {j:Int} {e:Bool} (U:l[i]?=I (aO b 3 [Vi j])) (m:l[k]?=I (aO c 4 [.bool e])):
 Bk S L 2 117 [AG b1 0,AG b 0,AG c 0] h λw J=>∃(x:Nat) (a:Int) (f:Bool),w=Vi x/\x<=1048576/\(a=j\/0<=a/\a<=n)/\Sep h0 J ((l.set i (aO b 3 [Vi a])).set k (aO c 4 [.bool f])):=
 Cn f117 g.toBase λd H _=>by
  have c4:=(s.dD U).cell (i:=0) B;refine⟨_,ld B c1,_,ld B c4,_,Aki g r G d G,?_⟩;rintro _ h ⟨rfl,x,q,K,rfl,M,N,O⟩;obtain⟨x,rfl⟩:∃y:Nat,x=y:=⟨x.toNat,G⟩;obtain⟨z,o,A⟩:=s.st (t:=4) B m (j:=0) (v:=.bool Ag) (by show 0<1;decide) B;have p:∃(x:Nat) (a:Int) (f:Bool),Vi 0=Vi x/\x<=1048576/\(a=j\/0<=a/\a<=n)/\Sep h0 z ((l.set i (aO b 3 [Vi a])).set k (aO c 4 [.bool f])):=
   ⟨0,j,Ag,B,Al _,.inl B,by rw[Lx U];exact A⟩
  obtain⟨P,t1,t2⟩:=s.st (t:=3) B U (j:=0) (v:=Vi q) (by show 0<1;decide) B;have C:(l.set i (aO b 3 [Vi q]))[k]?=I (aO c 4 [.bool e]):=by rw[Amv u];exact m
  refine⟨_,_,B,Ad (λD=>?_) (λD=>?_)⟩
  .exact⟨_,o,p⟩
  apply Bz<;>intro Q
  .exact⟨_,o,p⟩
  refine⟨_,t1,_,.inl Pq,x,q,e,B,G,.inr G,?_⟩;rw[Lx C];exact t2
def c51 (C:Base2 S L) {h:Y} {v:Aa} {n:Nat} {bs:Bl} (r:Rd h v 1 n (Ay bs)) (K:n<=100000000):
 Bk S L 4 51 [v] h λw J=>AA h J/\∃(o:Aa) (z:Int),w=.tuple #[o,Vi z]/\one o=Ag/\(z=0->∃(b m r:Nat) (df:Int) (l:GX),h.nx<=b/\h.nx<=r/\o=AG b 0/\F6 J b m df r l/\EJ m l/\l.length<=5000/\(1<=m/\m<=64)/\(0<=df/\df<=30000)):=
 Cn f51 C.toBase λd ar hL=>by
  obtain⟨hr,R,T,rfl,af,ag,hA⟩:=r;have N:Rd h (.slice R n T) 1 n (Ay bs):=⟨hr,R,T,B,af,ag,hA⟩;have q:∀{H:Y},AA h H->AA h H/\∃(o:Aa) (z:Int),C4 #[.pointer Z,Vi 5]=.tuple #[o,Vi z]/\one o=Ag/\(z=0->∃(b m r:Nat) (df:Int) (l:GX),h.nx<=b/\h.nx<=r/\o=AG b 0/\F6 H b m df r l/\EJ m l/\l.length<=5000/\(1<=m/\m<=64)/\(0<=df/\df<=30000)):=λx=>⟨x,_,5,B,B,λh=>by cases h⟩;obtain⟨V,y1,s1⟩:=(Sep.nil h).box Ax 62 (.slice R n T);obtain⟨W,y2,D⟩:=s1.al (t:=3) (z:=Vi 0) Kq;obtain⟨g3,y3,f⟩:=D.al (t:=4) (z:=.bool Ah) Kq;obtain⟨g4,y4,X⟩:=f.st (t:=3) B (i:=1) B (j:=0) (v:=Vi 0) (by show 0<1;decide) B;obtain⟨g5,y5,u⟩:=X.st (t:=4) B (i:=0) B (j:=0) (v:=.bool Ah) (by show 0<1;decide) B;refine⟨_,_,y1,_,_,y2 _,_,_,y3 _,_,y4,_,y5,?_⟩;generalize ah:V.nx=b4 at u;generalize ai:W.nx=b5 at u;have O:h.nx≠b4:=λe=>u.2.2 2 1 _ _ (by decide) B B h.nx B e;have au:h.nx<=b4:=u.ge (i:=1) B b4 B;have av:h.nx<=b5:=u.ge (i:=0) B b5 B;subst ah ai;refine cl (Ada C u (i:=1) (k:=0) (by decide) ((u.dD (i:=2) B).cell (i:=0) B) O (N.ext u.e) K B B) ?_;rintro _ h6 ⟨m,j6,aw,rfl,hm,aj,s6⟩;refine cl (Ada C s6 (i:=1) (k:=0) (by decide) ((s6.dD (i:=2) B).cell (i:=0) B) O (N.ext s6.e) K B B) ?_;rintro _ h7 ⟨df,j7,ax,rfl,ay,ak,s7⟩;refine cl (Ada C s7 (i:=1) (k:=0) (by decide) ((s7.dD (i:=2) B).cell (i:=0) B) O (N.ext s7.e) K B B) ?_;rintro _ h8 ⟨Sm,j8,ad,rfl,az,al,s8⟩;refine cl (Avx C.toBase) ?_;rintro _ h9 ⟨x9,hc⟩;have E:=s8.ext x9;rcases hc with⟨rfl,-⟩|⟨a0,am,b,r,hb,a1,rfl,M⟩
  .have F:=(E.dD (i:=0) B).cell (i:=0) B
   refine⟨_,ld B F,?_⟩;cases ad with
   |true=>exact q E.e
   |false=>exact q E.e
  have aa:=s8.add (a:=Xg b m df r []) x9 M λi U=>by rcases U with rfl|rfl<;>assumption
  have F:=(E.dD (i:=0) B).cell (i:=0) B;refine⟨_,ld B F,Ad (λe1=>?_) (λe1=>?_)⟩
  .exact q E.e
  have an:h.nx<=b:=aa.ge (i:=0) B b (.inl B);have ao:h.nx<=r:=aa.ge (i:=0) B r (.inr B);clear F E s8 s7 s6 u X f D s1 al ak aj;refine⟨λμ A hh=>∃(k:Nat) (c j:Int) (ok:Bool) (g:GX),A=[(1,AG h.nx 0),(4,AG V.nx 0),(5,AG W.nx 0),(6,.func (.func 117) #[] #[AG h.nx 0,AG V.nx 0,AG W.nx 0]),(7,Vi m),(8,Vi df),(10,AG b 0),(12,Vi c),(33,Vi Sm),(34,Vi k)]/\
   k<=Sm/\μ=Sm-k/\(-1<=c/\(k:Int)<=c+1/\g.length<=k)/\c<5000/\EJ m g/\Sep h hh [Xg b m df r g,aO W.nx 4 [.bool ok],aO V.nx 3 [Vi j],aO h.nx 62 [.slice R n T]],
   ⟨_,_,Sq,?_,0,-1,j8,ad,[],B,Al _,B,⟨G,G,Ae _⟩,G,(λp hp=>by cases hp),aa⟩,?_⟩
  .omega
  clear aa e1 M;rintro μ A hh ⟨k,c,j,ok,g,rfl,hk,rfl,a2,a3,mo,s⟩ a4;apply Bz<;>intro k1;rotate_left
  .have l4:=(s.dD (i:=2) B).cell (i:=0) B
   have F:=(s.dD (i:=3) B).cell (i:=0) B;refine⟨_,ld B l4,_,ld B F,Ad (λk2=>?_) (λk2=>?_)⟩
   .exact q s.e
   .exact⟨s.e,_,0,B,B,λ_=>⟨b,m,r,df,g,an,ao,B,(s.2.1 0 _ B).1,mo,G,G,am⟩⟩
  refine cl (Ada C s (i:=2) (k:=1) (by decide) ((s.dD (i:=3) B).cell (i:=0) B) O (N.ext s.e) K B B) ?_;rintro _ h2 ⟨x,j2,a5,rfl,hx,a6,D⟩;refine cl (Ada C D (i:=2) (k:=1) (by decide) ((D.dD (i:=3) B).cell (i:=0) B) O (N.ext D.e) K B B) ?_;rintro _ P ⟨y,j3,ap,rfl,hy,a7,f⟩;have l5:=(f.dD (i:=1) B).cell (i:=0) B;refine⟨Pq,[.w 26],Kq,_,ld B l5,?_⟩;cases ap with
  |true=>exact q f.e
  |false=>
  apply Bz<;>intro k2
  .exact q f.e
  apply Bz<;>intro k3
  .exact q f.e
  have mm:(m:Int)*m=((m*m:Nat):Int):=by rw[Int.natCast_mul]
  have a8:m*m<=64*64:=Cj G G;refine⟨Pq,Bz (λk4=>?_) (λk4=>?_)⟩
  .exact q f.e
  have a9:0<=(c+x)/(m:Int)/\(c+x)/(m:Int)<=c+x:=⟨Int.ediv_nonneg G G,Int.ediv_le_self _ G⟩;refine⟨⟨G,G,G,G⟩,G,_,Avy (h:=P.ad) C.toBase (show F6 P b m df r g from(f.2.1 0 _ B).1) d G,?_⟩;rintro _ h4 ⟨Q,aq⟩;have ae:N5 P h4.lo:=by
   obtain⟨_,es,ck,e4,_⟩:=((f.2.1 0 _ B).1:F6 P b m df r g).2.2.2.2;exact Q.ok (λi U=>U) ⟨_,e4,B⟩
  have Q:B0 (λi=>i=b\/i=r) P.ad h4:=Q.mono λi U=>.inr U;rcases aq with⟨rfl,-,ab⟩|⟨rfl,q1,q2,q3,ab⟩
  .exact⟨ae,q (f.aZ (i:=0) B Q ab (a':=Xg b m df r g) λi U=>.inl U).e⟩
  have X:=f.aZ (i:=0) B Q (a':=Xg b m df r (if(y:Int)=df then Nh g ((c+x)/m) ((c+x)%m) else ML g ((c+x)/m) ((c+x)%m) y)) ab λi U=>.inl U
  refine⟨ae,Pq,?_⟩;refine⟨_,_,Sq,G,k+1,c+x,j3,Ah,_,B,G,B,⟨G,G,?_⟩,G,?_,X⟩
  .have h1:=QT ((c+x)/m) ((c+x)%m) y g
   have h2:=QZ ((c+x)/m) ((c+x)%m) g;split<;>omega
  split
  .exact mo.del
  .exact mo.ah q1 q2 q3
def E4 (p:Int×Int):AH:=[.int .i64 p.1,.int .i64 p.2]
structure Base3 (S:A9) (L:Nat):Prop extends Base2 S L where
 cy:∀{h:Y} {b r:Nat} {l:GX},Cell h b 0 (.map (I r))->HE h r l->l.length<=1000000->Bk S L 11 252 [.func (.func 318) #[] #[AG b 0],.func (.func 254) #[] #[]] h λw J=>AA h J/\∃ks:List (Int×Int),Rd J w 2 ks.length (ks.flatMap E4)/\ks.length=l.length/\∀k∈ks,∃c,(k,c)∈l
def Sx (z:Int):∃x:Nat,x<18446744073709551616/\(x:Int)=IntKind.u64.wrap z:=by
 have e:IntKind.u64.wrap z=z%18446744073709551616:=by
  rfl
 rw[e];exact⟨(z%18446744073709551616).toNat,G,G⟩
def AGm (a:Base S L) {h:Y} {m:Aa} (b:one m=Ag):Bk S L 1 253 [m] h λw J=>AA h J/\w=.func (.func 318) #[] #[AG h.nx 0]/\Cell J h.nx 0 m:=
 Cn f253 a λd f _=>by
  obtain⟨h1,b1,c,e,g⟩:=H1 Ax 294 m h;exact⟨_,_,b1,c,B,e.cell (i:=0) (by cases m<;>first|rfl|cases b)⟩
def ADa (e:Base3 S L) {h:Y} {b n r:Nat} {df:Int} {l:GX} (m:F6 h b n df r l) (g:l.length<=1000000):Bk S L 12 182 [AG b 0] h λw J=>AA h J/\∃a:List (Int×Int),Rd J w 2 a.length (a.flatMap E4)/\a.length=l.length/\∀k∈a,∃c,(k,c)∈l:=
 Cn f182 e.toBase λd t _=>by
  obtain⟨u,v,x,i,j⟩:=m;refine⟨_,ld B i,_,AGm e.toBase (m:=.map (I r)) B d G,?_⟩;rintro _ h1 ⟨f,rfl,c1⟩;refine cl (e.cy c1 (j.ext f) g) ?_;rintro _ y ⟨o,a,p,q,s⟩;exact⟨f.trans o,a,p,q,s⟩
def Axu {h:Y} {r:Nat} {l:GX} (m:HE h r l) (a b:Int):∃z,BW Ax 294 (.map (I r)) (C9 a b) Ah h=I (Vi z):=by
 obtain⟨_,es,ck,d,m6,_⟩:=m;have e:Ax.ds.get 294=I (.map 298 3):=by rfl
 have g:CP Ax 3=I (Vi 0):=by rfl
 have f:Do Ax 5 298 (C9 a b)=true:=by rfl
 unfold BW;rcases Adt a b es l 0 m6 with⟨f1,f2⟩|⟨j,i,c,f1,f2,f3⟩
 .simp only[e,f,D1,d,f1,g];exact⟨0,B⟩
 .simp only[e,f,D1,d,f1,f2];exact⟨c,B⟩
def ADj (C:Base3 S L) {h:Y} {b n r:Nat} {df:Int} {l:GX} (m:F6 h b n df r l) (mo:EJ n l) (hn:n<=64) (hl:l.length<=100000):Bk S L 14 102 [AG b 0] h λw J=>AA h J/\∃bs:Bl,bs.length<=180+120*l.length/\AS J h.nx 5 1 w bs.length (Ay bs):=
 Cn f102 C.toBase λd a6 hL=>by
  have M:=m;obtain⟨m1,m2,m3,m4,m5⟩:=m;refine⟨_,B,_,ADa C M G d G,?_⟩;rintro w1 h1 ⟨F,g,k1,k2,k3⟩;obtain⟨z1,q1,e1⟩:=Sx n;obtain⟨z2,q2,e2⟩:=Sx df;obtain⟨z3,q3,e3⟩:=Sx g.length;have k0:=k1;obtain⟨hr,A0,c0,rfl,a7,a8,hA⟩:=k1;have y1:=AT (AA.refl h1);have f2:=m2.ext F;have f3:=m3.ext F;have f4:=m4.ext F;refine⟨[],Kq,_,ld B f2,_,.inr e1,_,R5 (h:=(nb h1).ad) C.toBase (x:=z1) (AS.nil (nb h1).ad h.nx 5 1).rd (bs:=[]) G G d G,?_⟩;rintro K E ⟨s,p2,a9,V,r2⟩;have l2:=r2.len;rw[A7] at l2;have W:=y1.trans s.aa;have ai:AS ((nb h1).aa E) h1.nx 5 1 K (0+p2) (Ay ([]++V)):=r2.aa;have aj:=f3.ext W;have ak:=ai.ext (AT (AA.refl _));refine⟨s.ag,_,ld B aj,_,.inr e2,_,R5 (h:=(nb ((nb h1).aa E)).ad) C.toBase (x:=z2) ak.rd G G d G,?_⟩;rintro o3 O ⟨x3,p3,ba,ad,r3⟩;have l3:=r3.len;rw[A7] at l3;have ae:=(AT W).trans x3.aa;have al:AS ((nb ((nb h1).aa E)).aa O) h1.nx 5 1 o3 (0+p2+p3) (Ay ([]++V++ad)):=(r3.mono (by rw[BF];exact(AT W).nx)).aa;have am:=al.ext (AT (AA.refl _));refine⟨x3.ag,_,.inr e3,_,R5 (h:=(nb ((nb ((nb h1).aa E)).aa O)).ad) C.toBase (x:=z3) am.rd G G d G,?_⟩;rintro o4 h4 ⟨x4,p4,bb,an,X⟩;have l4:=X.len;rw[A7] at l4;have P:=(AT ae).trans x4.aa;obtain⟨bs,ao⟩:∃bs,bs=[]++V++ad++an:=⟨_,B⟩;rw[←ao] at X l4;have ap:AS ((nb ((nb ((nb h1).aa E)).aa O)).aa h4) h.nx 5 1 o4 bs.length (Ay bs):=by rw[←l4];exact(X.mono (by rw[BF];exact Ao F.nx (AT ae).nx)).aa
  have Q:=F.trans P;have R:=k0.ext P;refine⟨x4.ag,?_⟩;generalize(nb ((nb ((nb h1).aa E)).aa O)).aa h4=H at*;refine⟨λμ A u=>∃(k:Nat) (c:Int) (o:Aa) (bs:Bl),A=[(0,AG b 0),(4,o),(5,Vi c),(29,.slice A0 g.length c0),(30,Vi g.length),(31,Vi k)]/\
   k<=g.length/\μ=g.length-k/\(-1<=c/\c<100000000)/\bs.length<=180+120*k/\AS u h.nx 5 1 o bs.length (Ay bs)/\AA H u,
   ⟨_,_,Sq,?_,0,-1,o4,bs,B,Al _,B,G,G,ap,AA.refl _⟩,?_⟩
  .omega
  rintro μ A u ⟨k,c,o,bs,rfl,hk,rfl,hc,hb,ow,x⟩ bc;apply Bz<;>intro j1;rotate_left
  .exact⟨Q.trans x,bs,G,ow⟩
  have af:k<g.length:=G;have aa:g[k]?=I g[k]:=Ab af;obtain⟨q,aq⟩:∃q,q=g[k]:=⟨_,B⟩;rw[←aq] at aa;obtain⟨cq,au⟩:=k3 q (AZ aa);obtain⟨⟨a1,a2⟩,⟨b1,b2⟩,_⟩:=mo _ au;obtain⟨a,j⟩:=q;have a1:0<=a:=a1;have a2:a<n:=a2;have b1:0<=j:=b1;have b2:j<n:=b2;obtain⟨a,rfl⟩:∃y:Nat,a=y:=⟨a.toNat,G⟩;obtain⟨ar,y2,e9,_,g1⟩:=(R.ext x).el af;cases e9;rw[flatK (f:=E4) (λ_=>rfl) g aa] at g1;obtain⟨bd,v1,p,v2,s2⟩:=(Sep.nil u).var (t:=298) (z:=.agg #[Vi 0,Vi 0]) Kq (v:=.agg ⟨E4 ((a:Int),j)⟩) B B B;have K:Own p u.nx 298 [Vi a,Vi j]:=s2.dD (i:=0) B;have s:=x.trans s2.e;have av:=(f2.ext P).ext s;have aw:=(f4.ext P).ext s;have mm:(a:Int)*n=((a*n:Nat):Int):=by rw[Int.natCast_mul]
  have be:a*n<=64*64:=Cj G G;refine⟨G,_,EQ (k:=2) Kq (show BK u ar.block (ar.off+(k:Int).toNat*2) (E4 ((a:Int),j)) from g1) B,_,_,v1 _,_,v2,[],Kq,_,ld B (K.cell (i:=0) B),_,ld B av,Pq,_,ld B (K.cell (i:=1) B),Pq,?_⟩;obtain⟨T,bf,s3⟩:∃T:Nat,T<18446744073709551616/\(T:Int)=IntKind.u64.wrap ((a:Int)*n+j-c):=Sx _;have ab:=ow.ext s2.e;have ab:=ab.ext (AT (AA.refl _));refine⟨[],Kq,Pq,_,.inr s3,_,R5 (h:=(nb p).ad) C.toBase (x:=T) ab.rd G G d G,?_⟩;rintro o5 D ⟨x5,p5,bg,ag,r5⟩;have l5:=r5.len;rw[A7] at l5;have N:=(AT (AA.refl p)).trans x5.aa;have ax:AS ((nb p).aa D) h.nx 5 1 o5 (bs.length+p5) (Ay (bs++ag)):=(r5.mono (by rw[BF];exact(Q.trans (AT s)).nx)).aa;have ay:=ax.ext (AT (AA.refl _));have az:=aw.ext N;have a0:Own ((nb p).aa D) u.nx 298 [Vi a,Vi j]:=K.ext N;have a3:Bw Ax 298 ((nb p).aa D).ad u.nx 0=I (C9 a j):=EQ (k:=2) Kq (show BK ((nb p).aa D) u.nx 0 [Vi a,Vi j] from a0.cells) B;obtain⟨zz,hz⟩:=Axu ((((m5.ext Q).ext s).ext N):HE ((nb p).aa D) r l) a j;obtain⟨t1,t2,t3⟩:=Sx zz;refine⟨x5.ag,_,ld B az,_,a3,_,_,Cs (CN _) hz,_,.inr t3,_,R5 (h:=(nb ((nb p).aa D)).ad) C.toBase (x:=t1) ay.rd G G d G,?_⟩;rintro o6 h6 ⟨x6,p6,bh,a4,r6⟩;have l6:=r6.len;rw[A7] at l6;have a5:=(AT N).trans x6.aa;have ah:AS ((nb ((nb p).aa D)).aa h6) h.nx 5 1 o6 (bs.length+p5+p6) (Ay (bs++ag++a4)):=(r6.mono (by rw[BF];exact((Q.trans s).trans (AT N)).nx)).aa;rw[l6] at ah;refine⟨x6.ag,Pq,?_⟩;exact⟨_,_,Sq,G,k+1,_,_,_,B,G,B,G,G,ah,s.trans a5⟩
abbrev Qz:=Int×Int×Int
def YD (c:Qz):AH:=[.int .i64 c.1,.int .i64 c.2.1,.int .i64 c.2.2]
structure CI where
 rd:Bd
 tx:Bd
 l:Int
 r:Int
 c:Int
def BV (e:CI):AH:=[.string e.rd,.string e.tx,.int .i64 e.l,.int .i64 e.r,.int .i64 e.c]
def Dq (h:Y) (v:Aa) (es:List CI):Prop:=Rd h v 5 es.length (es.flatMap BV)
def Nw (h:Y) (v:Aa) (cs:List Qz):Prop:=Rd h v 3 cs.length (cs.flatMap YD)
def BK.at (c:BK h b off xs) (U:xs[i]?=I v):Cell h b (off+i) v:=by
 obtain⟨hb,c,m,e,lo,a,x,h1,d⟩:=c;exact⟨hb,c,m,e,lo,a,x,h1,d i v U⟩
def c47 (x:Base S L) {ps:List JT} {cs:List Qz} (p:Gt h pv ps) (F:ps.length<=100000000) (c:Nw h cv cs) (hc:cs.length<=100000000) (he:one ev=Ag):
 Bk S L 4 47 [.agg #[pv,Vi df,cv,ev]] h λw J=>AA h J/\(w=.pointer Z\/∃(b r:Nat) (l:GX),h.nx<=b/\h.nx<=r/\w=AG b 0/\F6 J b ps.length df r l/\EJ ps.length l/\l.length<=cs.length/\(1<=ps.length/\ps.length<=64)/\(0<=df/\df<=30000)):=
 Cn f47 x λd ah hL=>by
  have V:=c;obtain⟨hr,m,n,rfl,ai,aj,hA⟩:=p;obtain⟨ak,H,c1,rfl,al,am,an⟩:=c;obtain⟨K,W,o⟩:=(Sep.nil h).box Ax 26 (.agg #[.slice m ps.length n,Vi df,.slice H cs.length c1,ev]);refine⟨_,_,W,_,ld B ((o.dD (i:=0) B).cell B:Cell K h.nx 0 (.slice m ps.length n)),_,ld B ((o.dD (i:=0) B).cell B:Cell K h.nx 1 (Vi df)),_,Avx x d G,?_⟩;rintro _ h9 ⟨N,X⟩;rcases X with⟨rfl,-⟩|⟨ao,aa,b,r,hb,ap,rfl,M⟩
  .exact⟨(o.ext N).e,.inl B⟩
  have y:=o.add (a:=Xg b ps.length df r []) N M λi U=>by rcases U with rfl|rfl<;>assumption
  refine⟨_,B,λO A g=>∃(k:Nat) (l:GX),A=[(1,AG h.nx 0),(3,AG b 0),(5,Vi k)]/\k<=cs.length/\O=cs.length-k/\EJ ps.length l/\l.length<=k/\Sep h g [Xg b ps.length df r l,aO h.nx 26 [.slice m ps.length n,Vi df,.slice H cs.length c1,ev]],
   ⟨_,_,Sq,?_,0,[],B,Al _,B,(λp F=>by cases F),Al _,y⟩,?_⟩
  .omega
  rintro O A g ⟨k,l,rfl,hk,rfl,mo,aq,s⟩ ar;have t:=(s.dD (i:=1) B).cell (i:=2) B;refine⟨_,ld B t,Bz (λe1=>?_) (λe1=>?_)⟩;rotate_left
  .exact⟨s.e,.inr ⟨b,r,l,(y.ge (i:=0) B b (.inl B):h.nx<=b),(y.ge (i:=0) B r (.inr B):h.nx<=r),B,(s.2.1 0 _ B).1,mo,G,G,aa⟩⟩
  have P:k<cs.length:=G;have Q:=Ab P;obtain⟨q,ab⟩:∃q,q=cs[k]:=⟨_,B⟩;rw[←ab] at Q;obtain⟨j,y2,e9,_,u⟩:=(Rd.ext V s.e).el P;cases e9;rw[flatK (f:=YD) (λ_=>rfl) cs Q] at u;obtain⟨C,D,R⟩:=q;refine⟨[.w 19],Kq,_,ld B t,G,_,ld B (BK.at u B:Cell g j.block (j.off+(k:Int).toNat*3+0) (Vi C)),_,ld B t,G,_,ld B (BK.at u B:Cell g j.block (j.off+(k:Int).toNat*3+1) (Vi D)),_,ld B t,G,_,ld B (BK.at u B:Cell g j.block (j.off+(k:Int).toNat*3+2) (Vi R)),_,Avy (h:=g.ad) x (show F6 g b ps.length df r l from(s.2.1 0 _ B).1) d G,?_⟩;rintro _ v ⟨T,ad⟩;have ae:N5 g v.lo:=by
   obtain⟨_,es,ck,e4,_⟩:=((s.2.1 0 _ B).1:F6 g b ps.length df r l).2.2.2.2;exact T.ok (λi U=>U) ⟨_,e4,B⟩
  have Da:∀l',F6 v b ps.length df r l'->EJ ps.length l'->l'.length<=k+1->∃(k':Nat) (l:GX),[(1,AG h.nx 0),(3,AG b 0),(5,Vi ((k+1:Nat):Int))]=[(1,AG h.nx 0),(3,AG b 0),(5,Vi k')]/\k'<=cs.length/\cs.length-(k+1)=cs.length-k'/\EJ ps.length l/\l.length<=k'/\Sep h (g.aa v) [Xg b ps.length df r l,aO h.nx 26 [.slice m ps.length n,Vi df,.slice (I j) cs.length c1,ev]]:=
   λl' M' af ag=>⟨k+1,l',B,G,B,af,ag,s.aZ (i:=0) B (T.mono λi U=>.inr U:B0 (λi=>i=b\/i=r) g.ad v) M' λi U=>.inl U⟩
  refine⟨ae,Pq,_,_,CG (l:=[(1,_),(3,_),(5,Vi ((k+1:Nat):Int))]) ⟨B,B,Cs (λz=>I (Vi z)) (by omega),trivial⟩,(show cs.length-(k+1)<cs.length-k by omega),?_⟩;rcases ad with⟨rfl,-,E⟩|⟨rfl,r1,r2,r3,E⟩
  .exact Da _ E mo G
  .refine Da _ E ?_ ?_
   .split
    .exact mo.del
    .exact mo.ah r1 r2 r3
   .split
    .have:=QZ C D l;omega
    .have:=QT C D R l;omega
structure N8 where
 pv:Aa
 df:Int
 cv:Aa
 ev:Aa
 ps:List JT
 cs:List Qz
 es:List CI
def N8.cells (s:N8):AH:=[s.pv,.int .i64 s.df,s.cv,s.ev]
def Qx (L:Nat) (h:Y) (s:N8):Prop:=(Gt h s.pv s.ps/\Nw h s.cv s.cs/\Dq h s.ev s.es)/\(s.ps.length<L/\s.ps.length<=9223372036854775807)/\(s.cs.length<L/\s.cs.length<=9223372036854775807)/\(s.es.length<L/\s.es.length<=9223372036854775807)
def Qx.ext {s:N8} (a:Qx L h s) (x:AA h J):Qx L J s:=⟨⟨Rd.ext a.1.1 x,Rd.ext a.1.2.1 x,Rd.ext a.1.2.2 x⟩,a.2⟩
def N8.aV (s:N8):Prop:=(∀q∈s.ps,q.1.size<=400)/\(∀e∈s.es,e.rd.size<=400/\e.tx.size<=400)/\s.ps.length<=70/\s.cs.length<=300/\s.es.length<=300
def ABo (X:Base S L) {ps:List JT} {cs:List Qz} {es:List CI} (p:Gt h pv ps) (c:Nw h cv cs) (O:Dq h ev es)
 (hp:ps.length<L/\ps.length<=9223372036854775807) (hc:cs.length<L/\cs.length<=9223372036854775807) (he:es.length<L/\es.length<=9223372036854775807):
 Bk S L 1 17 [.agg #[pv,Vi df,cv,ev]] h λw J=>AA h J/\∃b:Bool,w=.bool b/\(b=Ag->N8.aV ⟨pv,df,cv,ev,ps,cs,es⟩):=
 Cn f17 X λd ad _=>by
  have p':=p;have aa:=O;obtain⟨hr,y,C,rfl,ae,af,hA⟩:=p;obtain⟨ag,D,c1,rfl,ah,ai,aj⟩:=c;obtain⟨ak,P,E,rfl,al,am,an⟩:=O;obtain⟨v,y1,g⟩:=(Sep.nil h).box Ax 26 (.agg #[.slice y ps.length C,Vi df,.slice D cs.length c1,.slice P es.length E]);have F:Cell v h.nx 0 (.slice y ps.length C):=(g.dD (i:=0) B).cell B;have l2:Cell v h.nx 2 (.slice D cs.length c1):=(g.dD (i:=0) B).cell B;have x:Cell v h.nx 3 (.slice P es.length E):=(g.dD (i:=0) B).cell B;refine⟨_,_,y1,λs A j=>∃k:Nat,A=[(1,AG h.nx 0),(3,Vi k)]/\k<=ps.length/\s=ps.length-k/\(∀q∈ps.take k,q.1.size<=400)/\j=v,
   ⟨_,_,Sq,G,0,B,Al _,B,(λq n=>by simp at n),B⟩,?_⟩
  rintro s A j ⟨k,rfl,hk,rfl,n,rfl⟩ ab;refine⟨_,ld B F,Bz (λe1=>?_) (λe1=>?_)⟩
  .have o:k<ps.length:=G
   have t:=Ab o;obtain⟨q,u⟩:∃q,q=ps[k]:=⟨_,B⟩;rw[←u] at t;obtain⟨m,y2,H,_,r⟩:=(Rd.ext p' g.e).el o;cases H;rw[flatK (f:=Mm) (λ_=>rfl) ps t] at r;obtain⟨Q,kd⟩:=q;have q1:Cell j m.block (m.off+(k:Int).toNat*2+0) (.string Q):=BK.at r B;refine⟨_,ld B F,G,_,ld B q1,Bz (λe2=>?_) (λe2=>?_)⟩
   .exact⟨g.e,Ah,B,λh=>by cases h⟩
   refine⟨Pq,_,_,CG (l:=[(1,_),(3,Vi ((k+1:Nat):Int))]) ⟨B,Cs (λz=>I (Vi z)) (by omega),trivial⟩,Jq,k+1,B,G,B,λq a=>?_,B⟩;rw[A5 o] at a;rcases List.mem_append.1 a with a|a
   .exact n q a
   .rw[List.mem_singleton.1 a,←u];show Q.size<=400;omega
  obtain rfl:k=ps.length:=G;rw[CS] at n;refine⟨λs A h2=>∃k:Nat,A=[(1,AG h.nx 0),(4,Vi k)]/\k<=es.length/\s=es.length-k/\(∀q∈es.take k,q.rd.size<=400/\q.tx.size<=400)/\h2=j,
   ⟨_,_,Sq,G,0,B,Al _,B,(λq n=>by simp at n),B⟩,?_⟩
  rintro s A j ⟨k,rfl,hk,rfl,K,rfl⟩ ab;refine⟨_,ld B x,Bz (λe3=>?_) (λe3=>?_)⟩
  .have o:k<es.length:=G
   have t:es[k]?=I es[k]:=Ab o;obtain⟨q,u⟩:∃q,q=es[k]:=⟨_,B⟩;rw[←u] at t;obtain⟨m,y2,H,_,r⟩:=(Rd.ext aa g.e).el o;cases H;rw[flatK (f:=BV) (λ_=>rfl) es t] at r;obtain⟨R,T,a_,b_,c_⟩:=q;have V:AA h j/\∃b:Bool,CU Ah=.bool b/\(b=Ag->N8.aV ⟨.slice y ps.length C,df,.slice D cs.length c1,.slice (I m) es.length E,ps,cs,es⟩):=⟨g.e,Ah,B,λh=>by cases h⟩;refine⟨_,ld B x,G,_,ld B (BK.at r B:Cell j m.block (m.off+(k:Int).toNat*5+0) (.string R)),Bz (λM=>?_) (λM=>?_)⟩
   .exact V
   refine⟨_,ld B x,G,_,ld B (BK.at r B:Cell j m.block (m.off+(k:Int).toNat*5+1) (.string T)),Bz (λN=>?_) (λN=>?_)⟩
   .exact V
   refine⟨Pq,_,_,CG (l:=[(1,_),(4,Vi ((k+1:Nat):Int))]) ⟨B,Cs (λz=>I (Vi z)) (by omega),trivial⟩,(show es.length-(k+1)<es.length-k by omega),k+1,B,G,B,λq a=>?_,B⟩;rw[A5 o] at a;rcases List.mem_append.1 a with a|a
   .exact K q a
   .rw[List.mem_singleton.1 a,←u];exact⟨by show R.size<=400;omega,by show T.size<=400;omega⟩
  obtain rfl:k=es.length:=G;rw[CS] at K;refine⟨_,ld B F,Bz (λM=>?_) (λM=>?_)⟩
  .refine⟨_,ld B l2,Bz (λN=>?_) (λN=>?_)⟩
   .refine⟨_,ld B x,g.e,_,B,λW=>?_⟩
    have W:=Fp W;exact⟨n,K,by show ps.length<=70;omega,by show cs.length<=300;omega,by show es.length<=300;omega⟩
   .exact⟨g.e,Ah,B,λh=>by cases h⟩
  .exact⟨g.e,Ah,B,λh=>by cases h⟩
def c17 (c:Base S L) {s:N8} (a:Qx L h s):Bk S L 1 17 [.agg ⟨s.cells⟩] h λw J=>AA h J/\∃b:Bool,w=.bool b/\(b=Ag->s.aV):=by
 exact ABo c a.1.1 a.1.2.1 a.1.2.2 a.2.1 a.2.2.1 a.2.2.2
structure RT where
 a:Bd
 b:Bd
 n:Int
def Qm (e:RT):AH:=[.string e.a,.string e.b,.int .i64 e.n]
def Ls (h:Y) (v:Aa) (es:List RT):Prop:=Rd h v 3 es.length (es.flatMap Qm)
structure Lf where
 src:N8
 ctx:Bd
 lv:Aa
 rv:Aa
 ls:List RT
 rs:List RT
def Lf.cells (s:Lf):AH:=s.src.cells++[.string s.ctx,s.lv,s.rv]
def Lt (L:Nat) (h:Y) (s:Lf):Prop:=Qx L h s.src/\(Ls h s.lv s.ls/\Ls h s.rv s.rs)/\(s.ls.length<L/\s.ls.length<=9223372036854775807)/\(s.rs.length<L/\s.rs.length<=9223372036854775807)
def Oq (es:List RT):Prop:=∀e∈es,e.a.size<=400/\e.b.size<=400
def Lf.aV (s:Lf):Prop:=s.src.aV/\Oq s.ls/\Oq s.rs/\s.ctx.size<=400/\s.ls.length<=40/\s.rs.length<=40
def Lt.ext {s:Lf} (a:Lt L h s) (x:AA h J):Lt L J s:=⟨a.1.ext x,⟨Rd.ext a.2.1.1 x,Rd.ext a.2.1.2 x⟩,a.2.2⟩
def c7e (ad:Base S L) {s:N8} {v:Bd} {O:Aa} {c a:List RT} (sa:Qx L h s) (p:Ls h lv c) (en:Ls h O a)
 (hp:c.length<L/\c.length<=9223372036854775807) (he:a.length<L/\a.length<=9223372036854775807):
 Bk S L 2 7 [.agg ⟨s.cells++[Sg v,lv,O]⟩] h λw J=>AA h J/\∃b:Bool,w=.bool b/\(b=Ag->Lf.aV ⟨s,v,lv,O,c,a⟩):=
 Cn f7 ad λd ah _=>by
  have p':=p;have af:=en;obtain⟨hr,P,Q,rfl,ai,aj,hA⟩:=p;obtain⟨ak,R,T,rfl,al,am,an⟩:=en;obtain⟨H,y1,j⟩:=(Sep.nil h).box Ax 30 (.agg ⟨s.cells++[Sg v,.slice P c.length Q,.slice R a.length T]⟩);have l4:Cell H h.nx 4 (Sg v):=(j.dD (i:=0) B).cell B;have K:Cell H h.nx 5 (.slice P c.length Q):=(j.dD (i:=0) B).cell B;have M:Cell H h.nx 6 (.slice R a.length T):=(j.dD (i:=0) B).cell B;refine⟨_,_,y1,λx A m=>∃k:Nat,A=[(1,AG h.nx 0),(3,Vi k)]/\k<=c.length/\x=c.length-k/\Oq (c.take k)/\m=H,
   ⟨_,_,Sq,G,0,B,Al _,B,(λq o=>by simp at o),B⟩,?_⟩
  rintro x A m ⟨k,rfl,hk,rfl,o,rfl⟩ ag;refine⟨_,ld B K,Bz (λy=>?_) (λy=>?_)⟩
  .have r:k<c.length:=G
   have C:=Ab r;obtain⟨q,D⟩:∃q,q=c[k]:=⟨_,B⟩;rw[←D] at C;obtain⟨n,y2,V,_,t⟩:=(Rd.ext p' j.e).el r;cases V;rw[flatK (f:=Qm) (λ_=>rfl) c C] at t;obtain⟨E,F,a_⟩:=q;have q1:Cell m n.block (n.off+(k:Int).toNat*3+0) (Sg E):=BK.at t B;have q2:Cell m n.block (n.off+(k:Int).toNat*3+1) (Sg F):=BK.at t B;refine⟨_,ld B K,G,_,ld B q1,Bz (λW=>?_) (λW=>?_)⟩
   .exact⟨j.e,Ah,B,λh=>by cases h⟩
   refine⟨_,ld B K,G,_,ld B q2,Bz (λX=>?_) (λX=>?_)⟩
   .exact⟨j.e,Ah,B,λh=>by cases h⟩
   refine⟨Pq,_,_,CG (l:=[(1,_),(3,Vi ((k+1:Nat):Int))]) ⟨B,Cs (λz=>I (Vi z)) (G),trivial⟩,(show c.length-(k+1)<c.length-k by omega),k+1,B,G,B,λq g=>?_,B⟩;rw[A5 r] at g;rcases List.mem_append.1 g with g|g
   .exact o q g
   .rw[List.mem_singleton.1 g,←D];exact⟨by show E.size<=400;omega,by show F.size<=400;omega⟩
  obtain rfl:k=c.length:=G;rw[CS] at o;refine⟨λx A h2=>∃k:Nat,A=[(1,AG h.nx 0),(4,Vi k)]/\k<=a.length/\x=a.length-k/\Oq (a.take k)/\h2=m,
   ⟨_,_,Sq,G,0,B,Al _,B,(λq o=>by simp at o),B⟩,?_⟩
  rintro x A m ⟨k,rfl,hk,rfl,aa,rfl⟩ ag;refine⟨_,ld B M,Bz (λy=>?_) (λy=>?_)⟩
  .have r:k<a.length:=G
   have C:a[k]?=I a[k]:=Ab r;obtain⟨q,D⟩:∃q,q=a[k]:=⟨_,B⟩;rw[←D] at C;obtain⟨n,y2,V,_,t⟩:=(Rd.ext af j.e).el r;cases V;rw[flatK (f:=Qm) (λ_=>rfl) a C] at t;obtain⟨E,F,a_⟩:=q;refine⟨_,ld B M,G,_,ld B (BK.at t B:Cell m n.block (n.off+(k:Int).toNat*3+0) (Sg E)),Bz (λW=>?_) (λW=>?_)⟩
   .exact⟨j.e,Ah,B,λh=>by cases h⟩
   refine⟨_,ld B M,G,_,ld B (BK.at t B:Cell m n.block (n.off+(k:Int).toNat*3+1) (Sg F)),Bz (λX=>?_) (λX=>?_)⟩
   .exact⟨j.e,Ah,B,λh=>by cases h⟩
   refine⟨Pq,_,_,CG (l:=[(1,_),(4,Vi ((k+1:Nat):Int))]) ⟨B,Cs (λz=>I (Vi z)) (G),trivial⟩,(show a.length-(k+1)<a.length-k by omega),k+1,B,G,B,λq g=>?_,B⟩;rw[A5 r] at g;rcases List.mem_append.1 g with g|g
   .exact aa q g
   .rw[List.mem_singleton.1 g,←D];exact⟨by show E.size<=400;omega,by show F.size<=400;omega⟩
  obtain rfl:k=a.length:=G;rw[CS] at aa;have c7:BK m h.nx 0 s.cells:=by
   have:=(j.dD (i:=0) B).cells;obtain⟨z1,z2,z3,z4,z5,z6,z7,z8,z9⟩:=this;exact⟨z1,z2,z3,z4,z5,z6,z7,z8,λi u hu=>z9 i u ((AB (List.getElem?_eq_some_iff.1 hu).1).trans hu)⟩
  refine⟨_,EQ Kq c7 B,_,c17 ad (sa.ext j.e) d G,?_⟩;rintro _ h3 ⟨N,b,rfl,hb⟩;have ae:=j.e.trans N;have ab:AA h h3/\∃b:Bool,CU Ah=.bool b/\(b=Ag->Lf.aV ⟨s,v,.slice P c.length Q,.slice R a.length T,c,a⟩):=⟨ae,Ah,B,λh=>by cases h⟩;cases b with
  |false=>exact ab
  |true=>
  refine⟨_,ld B (l4.ext N),Bz (λy=>?_) (λy=>?_)⟩;rotate_left
  .exact ab
  refine⟨_,ld B (K.ext N),Bz (λe2=>?_) (λe2=>?_)⟩;rotate_left
  .exact ab
  refine⟨_,ld B (M.ext N),ae,_,B,λe3=>?_⟩;have e3:=Fp e3;exact⟨hb B,o,aa,by show v.size<=400;omega,by show c.length<=40;omega,by show a.length<=40;omega⟩
def c7 (c:Base S L) {s:Lf} (a:Lt L h s):Bk S L 2 7 [.agg ⟨s.cells⟩] h λw J=>AA h J/\∃b:Bool,w=.bool b/\(b=Ag->s.aV):=by
 exact c7e c a.1 a.2.1.1 a.2.1.2 a.2.2.1 a.2.2.2
def U6 (v:Aa):Prop:=∃z,v=.int .i64 z
def KM (v:Aa):Prop:=∃z:Int,v=.int .i64 z/\0<=z/\z<=1048576
def PF (e:CI) (h:Y):∃g,K7 Ax 114 (.agg ⟨BV e⟩) h=I (AG h.nx 0,g)/\AA h g/\Own g h.nx 114 (BV e):=by
 obtain⟨g,y,s⟩:=(Sep.nil h).box Ax 114 (.agg ⟨BV e⟩);exact⟨g,y,s.e,s.dD (i:=0) B⟩
def c89 (a:Base S L) {e:CI}:Bk S L 1 89 [.agg ⟨BV e⟩] h λw J=>AA h J/\w=.string e.rd:=
 Cn f89 a λd b _=>by
  obtain⟨g,y,x,o⟩:=PF e h;exact⟨_,_,y,_,ld B (o.cell B),x,B⟩
def c90 (a:Base S L) {e:CI}:Bk S L 1 90 [.agg ⟨BV e⟩] h λw J=>AA h J/\w=.string e.tx:=
 Cn f90 a λd b _=>by
  obtain⟨g,y,x,o⟩:=PF e h;exact⟨_,_,y,_,ld B (o.cell B),x,B⟩
def ABe (a:Base S L) {e:CI}:Bk S L 1 105 [.agg ⟨BV e⟩] h λw J=>AA h J/\w=Vi e.l:=
 Cn f105 a λd b _=>by
  obtain⟨g,y,x,o⟩:=PF e h;exact⟨_,_,y,_,ld B (o.cell B),x,B⟩
def ADx (a:Base S L) {e:CI}:Bk S L 1 106 [.agg ⟨BV e⟩] h λw J=>AA h J/\w=Vi e.r:=
 Cn f106 a λd b _=>by
  obtain⟨g,y,x,o⟩:=PF e h;exact⟨_,_,y,_,ld B (o.cell B),x,B⟩
def ACd (a:Base S L) {e:CI}:Bk S L 1 107 [.agg ⟨BV e⟩] h λw J=>AA h J/\w=Vi e.c:=
 Cn f107 a λd b _=>by
  obtain⟨g,y,x,o⟩:=PF e h;exact⟨_,_,y,_,ld B (o.cell B),x,B⟩
def c95 (c:Base S L) {e f:CI}:Bk S L 1 95 [.agg ⟨BV e⟩,.agg ⟨BV f⟩] h λw J=>AA h J/\∃b,w=.bool b:=
 Cn f95 c λd k _=>by
  obtain⟨g,y,x,o⟩:=PF e h;obtain⟨l,i,a,j⟩:=PF f g;exact⟨_,_,y,_,_,i,_,ld B ((o.ext a).cell B),_,ld B (j.cell B),_,B,x.trans a,_,B⟩
def c98 (c:Base S L) {e f:CI}:Bk S L 1 98 [.agg ⟨BV e⟩,.agg ⟨BV f⟩] h λw J=>AA h J/\∃b,w=.bool b:=
 Cn f98 c λd k _=>by
  obtain⟨g,y,x,o⟩:=PF e h;obtain⟨l,i,a,j⟩:=PF f g;exact⟨_,_,y,_,_,i,_,ld B ((o.ext a).cell B),_,ld B (j.cell B),_,B,x.trans a,_,B⟩
def T1 (m:Gy h r Fh KM) (s:Bd):∃z:Int,BW Ax 192 (.map (I r)) (.string s) Ah h=I (Vi z)/\0<=z/\z<=1048576:=by
 obtain⟨v,b,h1,a,c⟩:=QH (et:=3) Kq MV (z:=Vi 0) Kq m ⟨s,B⟩ Ah;cases b with
 |true=>obtain⟨z,rfl,d⟩:=a B;exact⟨z,h1,d⟩
 |false=>rw[c B] at h1;exact⟨0,h1,by decide,by decide⟩
def AGd (a:Base S L) {e:CI} (c:Cell h b 0 (.map (I r))) (m:Gy h r Fh KM):Bk S L 1 104 [.agg ⟨BV e⟩,AG b 0] h λw J=>AA h J/\U6 w:=
 Cn f104 a λd i _=>by
  obtain⟨g,y,x,o⟩:=PF e h;obtain⟨z,f,_⟩:=T1 (⟨AC m.1 x.nx,by rw[x.t r m.1];exact m.2⟩:Gy g r Fh KM) e.tx;exact⟨_,_,y,_,ld B (c.ext x),_,ld B (o.cell B),_,_,Cs (CN _) f,x,_,B⟩
def c97 (p:Base S L) {es:List CI} (c:Cell h b 0 (.map (I r))) (m:Gy h r Fh KM) (e:Cell h q 0 v) (g:Dq h v es) (U:i<es.length) (k:j<es.length):
 Bk S L 1 97 [Vi i,Vi j,AG b 0,AG q 0] h λw J=>AA h J/\U6 w:=
 Cn f97 p λd u _=>by
  have l:=g;obtain⟨z,A,C,rfl,D,E,F⟩:=g;obtain⟨a1,H,a,_,n⟩:=Rd.el l U;cases a;obtain⟨K,M,a,_,o⟩:=Rd.el l k;cases a;rw[flatK (f:=BV) (λ_=>rfl) es (Ab U)] at n;rw[flatK (f:=BV) (λ_=>rfl) es (Ab k)] at o;obtain⟨x,s,N⟩:=T1 m es[i].tx;obtain⟨y,t,O⟩:=T1 m es[j].tx;exact⟨[],Kq,_,ld B c,_,ld B e,G,_,ld B (BK.at n B:Cell h a1.block (a1.off+(i:Int).toNat*5+1) (.string es[i].tx)),_,_,Cs (CN _) s,_,ld B c,_,ld B e,G,_,ld B (BK.at o B:Cell h a1.block (a1.off+(j:Int).toNat*5+1) (.string es[j].tx)),_,_,Cs (CN _) t,Pq,AA.refl h,_,B⟩
def YQ (S:A9) (L d:Nat) (fv:Aa) (h:Y) (es:List CI) (Q:Aa->Prop):Prop:=∃g first cap,fv=.func (.func g) first cap/\∀e∈es,∀J,AA h J->Bk S L d g (first.toList++[.agg ⟨BV e⟩]++cap.toList) J λv a=>AA J a/\Q v
def Aqz (S:A9) (L d:Nat) (fv:Aa) (h:Y):Prop:=∃g first cap,fv=.func (.func g) first cap/\∀e f J,AA h J->Bk S L d g (first.toList++[.agg ⟨BV e⟩,.agg ⟨BV f⟩]++cap.toList) J λv a=>AA J a/\∃b,v=.bool b
def c94 (ad:Base S L) {es:List CI} (Q:Dq h v es) (hn:es.length<=1000000) (s:Aqz S L 1 fv h):
 Bk S L 2 94 [v,fv] h λw J=>AA h J/\∃l:Bo,AS J h.nx 3 1 w l.length (Bn l)/\l.length<=es.length/\∀x∈l,x<es.length:=
 Cn f94 ad λd af hL=>by
  have R:=Q;obtain⟨g,first,cap,rfl,hc⟩:=s
  obtain⟨hr,T,c,rfl,ag,ah,hA⟩:=Q;refine⟨λV A j=>∃(k:Nat) (cv:Aa) (l:Bo),A=[(0,.slice T es.length c),(1,.func (.func g) first cap),(5,cv),(8,.slice T es.length c),(9,Vi es.length),(10,Vi k)]/\k<=es.length/\V=es.length-k/\(l.length<=k/\∀x∈l,x<es.length)/\AA h j/\AS j h.nx 3 1 cv l.length (Bn l),
   ⟨_,_,Sq,G,0,_,[],B,Al _,B,⟨Al _,λx a=>by cases a⟩,AA.refl _,AS.nil _ _ _ _⟩,?_⟩
  rintro V A j ⟨k,cv,l,rfl,hk,rfl,⟨ai,u⟩,x,o⟩ aj;apply Bz<;>intro k1;rotate_left
  .exact⟨x,l,o,G,u⟩
  have y:k<es.length:=G;obtain⟨a1,y1,C,_,W⟩:=(Rd.ext R x).el y;cases C;rw[flatK (f:=BV) (λ_=>rfl) es (Ab y)] at W;obtain⟨e,he⟩:∃e,e=es[k]:=⟨_,B⟩;rw[←he] at W;obtain⟨D,z1,m,z2,E⟩:=(Sep.nil j).var (t:=114) (z:=.agg #[.string ⟨#[]⟩,.string ⟨#[]⟩,Vi 0,Vi 0,Vi 0]) Kq (v:=.agg ⟨BV e⟩) B B B;have n:=x.trans E.e;have X:=o.ext E.e;refine⟨G,_,EQ Kq Jq B,_,_,z1 _,_,z2,[],Kq,?_⟩;have ap:∀H,AA h H->AS H h.nx 3 1 cv l.length (Bn l)->∃D,Bs Ax 48 1 [(0,Vi k)] H=I (sL H.nx 1 1,D)/\∃v' J,Bx Ax .append [48,48] [cv,sL H.nx 1 1] D=I (v',J)/\AA h J/\AS J h.nx 3 1 v' (l++[k]).length (Bn (l++[k])):=λH p q=>by
   have a:=p.nx;obtain⟨v',J,t1,t2,t3,t4⟩:=Tz Kq q (ys:=[Vi k]) B B a G;refine⟨_,Iv (k:=1) Kq (Vi k) B B (by decide) H,v',J,t1,p.then t3 λi U=>q.ai i U,?_⟩
   rw[Aj,show Bn (l++[k])=Bn l++[Vi k] by simp[Bn]];exact t2
  have Da:∀(H:Y) (r:Aa) (l':Bo),AA h H->AS H h.nx 3 1 r l'.length (Bn l')->(l'.length<=k+1/\∀x∈l',x<es.length)->∃(k':Nat) (cv:Aa) (l:Bo),[(0,.slice (I a1) es.length c),(1,.func (.func g) first cap),(5,r),(8,.slice (I a1) es.length c),(9,Vi es.length),(10,Vi ((k+1:Nat):Int))]=[(0,.slice (I a1) es.length c),(1,.func (.func g) first cap),(5,cv),(8,.slice (I a1) es.length c),(9,Vi es.length),(10,Vi k')]/\k'<=es.length/\es.length-(k+1)=es.length-k'/\(l.length<=k'/\∀x∈l,x<es.length)/\AA h H/\AS H h.nx 3 1 cv l.length (Bn l):=
   λH r l' p q ae=>⟨k+1,r,l',B,G,B,ae,p,q⟩
  have aa:(l++[k]).length<=k+1/\∀x∈l++[k],x<es.length:=by
   refine⟨by rw[Aj];show l.length+1<=_;omega,λx a=>?_⟩;rcases List.mem_append.1 a with a|a
   .exact u x a
   .rw[List.mem_singleton.1 a];exact y
  apply Bz<;>intro k2
  .obtain⟨g3,F,v',J,K,M,N⟩:=ap m n X
   exact⟨_,_,F,_,_,K,Pq,_,_,CG (l:=[(0,_),(1,_),(5,_),(8,_),(9,_),(10,Vi ((k+1:Nat):Int))]) ⟨B,B,B,B,B,Cs (λz=>I (Vi z)) (by omega),trivial⟩,(show es.length-(k+1)<es.length-k by omega),Da _ _ _ M N aa⟩
  obtain⟨a2,y2,C,_,O⟩:=(Rd.ext R n).el (show k-1<es.length by omega);cases C;rw[flatK (f:=BV) (λ_=>rfl) es (Ab (show k-1<es.length by omega))] at O;obtain⟨f,s⟩:∃e,e=es[k-1]:=⟨_,B⟩;rw[←s] at O;refine⟨_,EQ Kq (show BK m j.nx 0 (BV e) from (E.dD (i:=0) B:Own m j.nx 114 (BV e)).cells) B,Pq,G,_,EQ Kq (show BK m a1.block (a1.off+((k:Int)-1).toNat*5) (BV f) by rw[(G:((k:Int)-1).toNat=k-1)];exact O) B,_,hc e f m.ad (n.trans (AA.ad m)) d G,?_⟩;rintro _ h3 ⟨P,b,rfl⟩;have ab:=n.trans P.aa;have o3:=X.ext P.aa;refine⟨P.ag,Ad (λk3=>?_) (λk3=>?_)⟩
  .obtain⟨g3,F,v',J,K,M,N⟩:=ap _ ab o3
   exact⟨_,_,F,_,_,K,Pq,_,_,CG (l:=[(0,_),(1,_),(5,_),(8,_),(9,_),(10,Vi ((k+1:Nat):Int))]) ⟨B,B,B,B,B,Cs (λz=>I (Vi z)) (by omega),trivial⟩,(show es.length-(k+1)<es.length-k by omega),Da _ _ _ M N aa⟩
  .exact⟨Pq,_,_,CG (l:=[(0,_),(1,_),(5,_),(8,_),(9,_),(10,Vi ((k+1:Nat):Int))]) ⟨B,B,B,B,B,Cs (λz=>I (Vi z)) (by omega),trivial⟩,(show es.length-(k+1)<es.length-k by omega),Da _ _ _ ab o3 ⟨G,u⟩⟩
def Ew (l:List Int):AH:=l.map λx:Int=>AL .i64 x
def TG (l:Bo):AH:=l.map λx:Nat=>AL .u64 x
def VZ (l:Bo):(TG l).length=l.length:=by simp[TG]
def SE (l:List Int):(Ew l).length=l.length:=by simp[Ew]
def Z9 {l:List Int} (a:k<l.length):(Ew l)[k]?=I (Vi l[k]):=by
 unfold Ew;rw[AX,Ab a];rfl
def Ze (l:Bo):Bn l=Ew (l.map λx:Nat=>(x:Int)):=by simp[Bn,Ew]
def Ajo (g:Base S L) {zs:List Int} (r:Rd h v 1 zs.length (Ew zs)) (hn:zs.length<=1000000):
 Bk S L 3 100 [v] h λw J=>AA h J/\∃bs:Bl,bs.length<=10000000/\AS J h.nx 5 1 w bs.length (Ay bs):=
 Cn f100 g λd ab hL=>by
  have E:=r;obtain⟨hr,F,H,rfl,ad,ae,hA⟩:=r;obtain⟨g8,K,M,o,n8⟩:=MA (τ:=Ax) (t:=274) (z:=.int .u64 0) Kq Kq B zs.length G .i64 .i64 h;rw[show AE zs.length (AL .u64 0)=TG (AE zs.length 0) by simp[TG]] at o;have N:=(Sep.nil h).add (a:=aO h.nx 213 (TG (AE zs.length 0))) M o λi U=>A2 U.symm;refine⟨_,_,K,λp A f=>∃(k:Nat) (c:Bo),A=[(3,sL h.nx zs.length zs.length),(11,.slice F zs.length H),(12,Vi zs.length),(13,Vi k)]/\k<=zs.length/\p=zs.length-k/\c.length=zs.length/\(∀x∈c,x<18446744073709551616)/\Sep h f [aO h.nx 213 (TG c)],
   ⟨_,_,Sq,G,0,_,B,Al _,B,by simp,(λx l=>by rw[CH l];decide),N⟩,?_⟩
  rintro p A f ⟨k,c,rfl,hk,rfl,O,q,s⟩ af;apply Bz<;>intro k1
  .have u:k<zs.length:=G
   obtain⟨a1,y1,Q,_,T⟩:=(Rd.ext E s.e).el u;cases Q;obtain⟨x,l,V⟩:=Sx zs[k];obtain⟨W,X,C⟩:=s.st (t:=213) B (i:=0) B (j:=k) (v:=.int .u64 x) (by rw[VZ];omega) B;rw[show(TG c).set k (.int .u64 x)=TG (c.set k x) by simp[TG,Cp]] at C;refine⟨G,_,ld B (BK.at T (by rw[LS,Bi (by decide),Eg,BJ,UL];exact Z9 u):Cell f a1.block (a1.off+(k:Int).toNat*1+0) (Vi zs[k])),_,.inr V,G,_,Jp X (by show 0+k*1=k;omega),Pq,_,_,Sq,G,k+1,_,B,G,B,Jq,?_,C⟩;intro y m;rcases BT m with m|rfl
   .exact q y m
   .exact l
  have R:Rd f (sL h.nx zs.length zs.length) 1 c.length (c.map λx:Nat=>AL .u64 x):=by
   have:=(s.dD (i:=0) B).dB (n:=zs.length) (k:=1) (by rw[VZ];omega);rw[O];exact this
  refine⟨_,Aqg g R q G d G,?_⟩;rintro _ W ⟨D,⟨ag,rfl⟩|⟨ah,b,hb,rfl,P,_⟩⟩
  .omega
  .refine⟨_,Apt g P d G,?_⟩
   rintro o3 h3 ⟨x3,bs,aa,r3⟩;exact⟨(s.e.trans D).trans x3,bs,aa,r3.mono (Ao s.e.nx D.nx)⟩
def c99 (r:Base S L) {es:List CI} (c:Cell h q 0 v) (u:Dq h v es) (hn:es.length<=1000000) (K:YQ S L 1 fv h es U6):
 Bk S L 4 99 [fv,AG q 0] h λw J=>AA h J/\∃bs:Bl,bs.length<=10000000/\AS J h.nx 5 1 w bs.length (Ay bs):=
 Cn f99 r λd ab hL=>by
  have M:=u;obtain⟨g,first,cap,rfl,N⟩:=K
  obtain⟨hr,O,P,rfl,ad,ae,hA⟩:=u;obtain⟨g8,Q,x,y,n8⟩:=MA (τ:=Ax) (t:=48) (z:=Vi 0) Kq Kq B es.length G .i64 .i64 h;rw[show AE es.length (Vi 0)=Ew (AE es.length 0) by simp[Ew]] at y;have T:=(Sep.nil h).add (a:=aO h.nx 3 (Ew (AE es.length 0))) x y λi U=>A2 U.symm;refine⟨_,ld B c,_,_,Q,_,ld B (c.ext x),λC A l=>∃(k:Nat) (b:List Int),A=[(0,.func (.func g) first cap),(4,sL h.nx es.length es.length),(10,.slice O es.length P),(11,Vi es.length),(12,Vi k)]/\k<=es.length/\C=es.length-k/\b.length=es.length/\Sep h l [aO h.nx 3 (Ew b)],
   ⟨_,_,Sq,G,0,_,B,Al _,B,by simp,T⟩,?_⟩
  rintro C A l ⟨k,b,rfl,hk,rfl,D,s⟩ af;apply Bz<;>intro k1
  .have E:k<es.length:=G
   obtain⟨a1,y1,V,_,F⟩:=(Rd.ext M s.e).el E;cases V;rw[flatK (f:=BV) (λ_=>rfl) es (Ab E)] at F;obtain⟨e,W⟩:∃e,e=es[k]:=⟨_,B⟩;rw[←W] at F;obtain⟨g1,X,m,z2,o⟩:=s.var (t:=114) (z:=.agg #[.string ⟨#[]⟩,.string ⟨#[]⟩,Vi 0,Vi 0,Vi 0]) Kq (v:=.agg ⟨BV e⟩) B B B;refine⟨G,_,EQ Kq Jq B,_,_,X _,_,z2,_,EQ Kq (show BK m l.nx 0 (BV e) from (o.dD (i:=0) B:Own m l.nx 114 (BV e)).cells) B,_,N e Jq m o.e d G,?_⟩;rintro _ h3 ⟨p,z,rfl⟩;obtain⟨h4,u4,H⟩:=(o.ext p).st (t:=3) B (i:=1) B (j:=k) (v:=Vi z) (by rw[SE];omega) B;rw[show(Ew b).set k (Vi z)=Ew (b.set k z) by simp[Ew,Cp]] at H;exact⟨G,_,Jp u4 (by show 0+k*1=k;omega),Pq,_,_,Sq,G,k+1,_,B,G,B,by simp;exact D,H.drop 1⟩
  have R:Rd l (sL h.nx es.length es.length) 1 b.length (Ew b):=by
   have:=(s.dD (i:=0) B).dB (n:=es.length) (k:=1) (by rw[SE];omega);rw[D];exact this
  refine⟨_,Ajo r R G d G,?_⟩;rintro o3 h3 ⟨p,bs,aa,r3⟩;exact⟨s.e.trans p,bs,aa,r3.mono s.e.nx⟩
def NF (pre:AH):∀(vs r:AH) (i:Nat),I2 (pre++r) (pre.length+i) vs=pre++I2 r i vs
 |[],_,_=>rfl
 |
  v::vs,r,i=>by
  rw[I2,I2,Hj,Bm G,show pre.length+i-pre.length=i by omega,DD];exact NF pre vs _ _
def Awo (b off n c l:Nat) (h1:l<=n) (a:n<=c):C7 Ax 55 (.slice (I ⟨b,off,Z⟩) n c) (I (Vi (l:Int))) Z Z=I (.slice (I ⟨b,off+l*1,Z⟩) (n-l) (c-l)):=by
 show(bif Ar l n&&Ar n c then I (PA (I ⟨b,off+l*1,Z⟩) (n-l) (c-l)) else Z)=_
 rw[Aq h1,Aq a];rfl
def Avp (b off n c m:Nat) (a:m<=c):C7 Ax 55 (.slice (I ⟨b,off,Z⟩) n c) Z (I (Vi (m:Int))) Z=I (.slice (I ⟨b,off+0*1,Z⟩) (m-0) (c-0)):=by
 show(bif Ar 0 m&&Ar m c then I (PA (I ⟨b,off+0*1,Z⟩) (m-0) (c-0)) else Z)=_
 rw[Aq a];rfl
def Mg {h:Y} {b k:Nat} {xs:BZ} {sp:AH} (o:Own h b 9 (AR xs++sp)) (a:k<xs.length):Cell h b k (Sg xs[k]):=o.cell (by
 rw[AB (by simp[AR];exact a)];exact Dl a)
def AAd (ad:Base S L) {h:Y} {N n:Nat} {v:Aa} {ss:BZ} (o:AS h N 9 1 v n (AR ss)) (hn:n<=1000000):
 Bk S L 1 174 [v] h λw J=>B0 (BY v) h J/\∃p,AS J N 9 1 w p.length (AR p)/\p.length<=n/\∀s∈p,s∈ss:=
 Cn f174 ad λd ai hL=>by
  have V:n=ss.length:=by have:=o.len;simpa[AR] using this
  obtain⟨A0,e,rfl⟩:∃A c,v=.slice A n c:=by
   obtain⟨_,⟨rfl,rfl⟩|⟨b,c,sp,rfl,_⟩⟩:=o
   .exact⟨_,_,B⟩
   .exact⟨_,_,B⟩
  apply Bz<;>intro e1
  .exact⟨(AA.refl h).ae _,ss,V▸o,G,λs q=>q⟩
  obtain⟨_,⟨_,O⟩|⟨b,c,sp,O,hb,P,Q,f⟩⟩:=o
  .omega
  obtain⟨rfl,rfl⟩:A0=I ⟨b,0,Z⟩/\e=c:=by cases O;exact⟨B,B⟩
  clear O;have aj:sp.length+n=e:=by rw[Aj] at Q;simp[AR] at Q;omega
  refine⟨λC A r=>∃k:Nat,A=[(0,sL b n e),(3,Vi k)]/\1<=k/\k<=n/\C=n-k/\r=h,
   ⟨_,_,Sq,G,1,B,G,G,B,B⟩,?_⟩
  rintro C A r ⟨a,rfl,ak,hk,rfl,rfl⟩ W;apply Bz<;>intro k1;rotate_left
  .exact⟨(AA.refl r).ae _,ss,V▸⟨by simp[AR];omega,.inr ⟨b,e,sp,B,hb,P,Q,f⟩⟩,G,λs q=>q⟩
  have D:Cell r b (0+(a:Int).toNat*1) (Sg (ss[a]'G)):=by
   rw[show 0+(a:Int).toNat*1=a by omega];exact Mg f G
  have F:Cell r b (0+((a:Int)-1).toNat*1) (Sg (ss[a-1]'G)):=by
   rw[show 0+((a:Int)-1).toNat*1=a-1 by omega];exact Mg f G
  refine⟨[],Kq,G,_,ld B D,Pq,G,_,ld B F,_,B,Ad (λk2=>?_) (λk2=>?_)⟩;rotate_left
  .exact⟨Pq,_,_,CG (l:=[(0,_),(3,Vi ((a+1:Nat):Int))]) ⟨B,Cs (λz=>I (Vi z)) (G),trivial⟩,(show n-(a+1)<n-a by omega),a+1,B,G,G,B,B⟩
  refine⟨_,_,Cs (CN _) (Awo b 0 n e a G P),?_⟩;refine⟨λC A g=>∃(k j:Nat) (xs:BZ),A=[(0,sL b n e),(3,Vi k),(4,.slice (I ⟨b,0+a*1,Z⟩) (n-a) (e-a)),(5,Vi j)]/\k+1<=a+j/\1<=k/\j<=n-a/\1<=j/\C=n-a-j/\xs.length=n/\(∀s∈xs,s∈ss)/\Own g b 9 (AR xs++sp)/\B0 (·=b) r g,
   ⟨_,_,Sq,G,a,1,ss,B,G,G,G,G,B,G,λs h=>h,f,(AA.refl r).ae _⟩,?_⟩
  clear f D F W;rintro C A g ⟨k,j,xs,rfl,al,am,hj,an,rfl,X,K,f,x⟩ W;apply Bz<;>intro k3
  .have D:Cell g b (0+a*1+(j:Int).toNat*1) (Sg (xs[a+j]'G)):=by
    rw[show 0+a*1+(j:Int).toNat*1=a+j by omega];exact Mg f G
   have F:Cell g b (0+a*1+((j:Int)-1).toNat*1) (Sg (xs[a+j-1]'G)):=by
    rw[show 0+a*1+((j:Int)-1).toNat*1=a+j-1 by omega];exact Mg f G
   refine⟨[],Kq,G,_,ld B D,Pq,G,_,ld B F,_,B,Ad (λk4=>?_) (λk4=>?_)⟩
   .obtain⟨y,E,o3,c3⟩:=Own.st (τ:=Ax) (t:=9) B f (i:=k) (v:=.string (xs[a+j]'G)) (by rw[Aj];simp[AR];omega) B
    rw[Hj,Bi (by simp[AR];omega),show(AR xs).set k (Sg (xs[a+j]'G))=AR (xs.set k (xs[a+j]'G)) by simp[AR,Cp]] at o3;refine⟨G,_,ld B D,G,_,Jp E (by show 0+k*1=k;omega),Pq,Pq,?_⟩;refine⟨_,_,Sq,(show n-a-(j+1)<n-a-j by omega),k+1,j+1,_,B,G,G,G,G,B,by simp;exact X,?_,o3,x.trans c3.ae⟩;intro s q;rcases BT q with q|rfl
    .exact K s q
    .exact K _ (Bu _)
   .exact⟨Pq,_,_,CG (l:=[(0,_),(3,_),(4,_),(5,Vi ((j+1:Nat):Int))]) ⟨B,B,B,Cs (λz=>I (Vi z)) (G),trivial⟩,(show n-a-(j+1)<n-a-j by omega),k,j+1,xs,B,G,G,G,G,B,X,K,f,x⟩
  have ae:k<=n:=by omega
  have Da:∀H u,Own H b 9 (AR (xs.take k)++u)->(u.length+k=e)->B0 (·=b) r H->B0 (·=b) r H/\∃p,AS H N 9 1 (.slice (I ⟨b,0+0*1,Z⟩) (k-0) (e-0)) p.length (AR p)/\p.length<=n/\∀s∈p,s∈ss:=λH u oH hl cH=>by
   have af:(xs.take k).length=k:=by rw[Cg];omega
   refine⟨cH,xs.take k,⟨by simp[AR],.inr ⟨b,e,u,?_,hb,G,?_,oH⟩⟩,G,λs q=>K s (List.mem_of_mem_take q)⟩
   .rw[af];rfl
   .rw[Aj];simp[AR];omega
  have cl:∃y u,Bx Ax .clear [55] [.slice (I ⟨b,0+k*1,Z⟩) (n-k) (e-k)] g=I (.tuple #[],y)/\Own y b 9 (AR (xs.take k)++u)/\u.length+k=e/\B0 (·=b) g y:=by
   have es:AR xs++sp=AR (xs.take k)++(AR (xs.drop k)++sp):=by
    rw[←KA];unfold AR;rw[←BS,FO]
   have aa:(AR (xs.take k)).length=k:=by simp[AR];omega
   have ab:(AR (xs.drop k)++sp).length+k=e:=by rw[Aj];simp[AR];omega
   rw[es] at f;generalize hm:n-k=m;cases m with
   |zero=>exact⟨g,_,B,f,ab,(AA.refl g).ae _⟩
   |
    succ m=>
    have ag:(Dy [Sg ⟨#[]⟩] (m+1)).length=m+1:=by
     have:∀m,(Dy [Sg ⟨#[]⟩] m).length=m:=by
      intro m
      induction m with
      |zero=>rfl
      |succ m R=>rw[Dy,Aj,R];simp;omega
     exact this _
    have ah:(Dy [Sg ⟨#[]⟩] (m+1)).all one=true:=by
     have:∀m,(Dy [Sg ⟨#[]⟩] m).all one=true:=by
      intro m
      induction m with
      |zero=>rfl
      |succ m R=>rw[Dy,Aph,R];rfl
     exact this _
    obtain⟨y,T,M,E⟩:=Own.bb f (i:=k) (vs:=Dy [Sg ⟨#[]⟩] (m+1)) (by rw[ag,Aj,aa];omega) ah;have hp:=NF (AR (xs.take k)) (Dy [Sg ⟨#[]⟩] (m+1)) (AR (xs.drop k)++sp) 0;rw[aa,UL] at hp;rw[hp] at M;refine⟨y,_,?_,M,by rw[LH];exact ab,E.ae⟩;show(match Gi g b (0+k*1) (Dy [Sg ⟨#[]⟩] (m+1)) with|some J=>I (C4 #[],J)|none=>Z)=_
    rw[show 0+k*1=k by omega,T]
  obtain⟨y,u,T,M,E,u4⟩:=cl;exact⟨_,_,Cs (CN _) (Awo b 0 n e k ae P),_,_,T,_,_,Cs (CN _) (Avp b 0 n e k (G)),Da y u M E (x.trans u4)⟩
def Agl (S:A9) (L d:Nat) (fv:Aa) (h:Y) (W:Nat->Prop) (xs:Bo):Prop:=∃g first cap,fv=.func (.func g) first cap/\∀x∈xs,∀y∈xs,∀J,B0 W h J->Bk S L d g (first.toList++[.int .i64 x,.int .i64 y]++cap.toList) J λv a=>AA J a/\U6 v
structure Base4 (S:A9) (L:Nat):Prop extends Base3 S L where
 b7:∀{h:Y} {N n:Nat} {v:Aa} {ss:BZ},AS h N 9 1 v n (AR ss)->n<=1000000->Bk S L 10 173 [v] h λw J=>B0 (BY v) h J/\∃ss',ss'.Perm ss/\AS J N 9 1 v n (AR ss')
 cc:∀{h:Y} {N n d:Nat} {v fv:Aa} {xs:Bo},AS h N 3 1 v n (Bn xs)->n<=1000000->Agl S L d fv h (BY v) xs->Bk S L (d+26) 96 [v,fv] h λw J=>B0 (BY v) h J/\∃xs',xs'.Perm xs/\AS J N 3 1 v n (Bn xs')
def c88 (j:Base4 S L) {es:List CI} {P:Bd->Prop} (q:Dq h v es) (hn:es.length<=1000000) (F:YQ S L 1 fv h es λv=>∃s,v=.string s/\P s):
 Bk S L 12 88 [v,fv] h λw J=>AA h J/\∃ss:BZ,AS J h.nx 9 1 w ss.length (AR ss)/\ss.length<=es.length/\∀s∈ss,P s:=
 Cn f88 j.toBase λd af hL=>by
  have H:=q;obtain⟨g,first,cap,rfl,K⟩:=F
  obtain⟨hr,M,N,rfl,ag,ah,hA⟩:=q;obtain⟨v5,g5,O,Q⟩:=(Sep.nil h).dk (τ:=Ax) (t:=55) (z:=.string ⟨#[]⟩) Kq Kq B 0 es.length Jq G .i64 .i64;refine⟨_,_,O,λr A c=>∃(k:Nat) (cv:Aa) (ss:BZ),A=[(1,.func (.func g) first cap),(5,cv),(11,.slice M es.length N),(12,Vi es.length),(13,Vi k)]/\k<=es.length/\r=es.length-k/\ss.length=k/\(∀s∈ss,P s)/\Sep h c [aS h.nx 9 1 cv ss.length (AR ss)],
   ⟨_,_,Sq,G,0,_,[],B,Al _,B,B,(λs a=>by cases a),Q⟩,?_⟩
  rintro r A c ⟨k,cv,ss,rfl,hk,rfl,ai,u,s⟩ aj;apply Bz<;>intro k1
  .have x:k<es.length:=G
   obtain⟨a1,y1,R,_,y⟩:=(Rd.ext H s.e).el x;cases R;rw[flatK (f:=BV) (λ_=>rfl) es (Ab x)] at y;obtain⟨e,T⟩:∃e,e=es[k]:=⟨_,B⟩;rw[←T] at y;obtain⟨g1,V,l,W,m⟩:=s.var (t:=114) (z:=.agg #[.string ⟨#[]⟩,.string ⟨#[]⟩,Vi 0,Vi 0,Vi 0]) Kq (v:=.agg ⟨BV e⟩) B B B;refine⟨G,_,EQ Kq Jq B,_,_,V _,_,W,_,EQ Kq (show BK l c.nx 0 (BV e) from (m.dD (i:=0) B:Own l c.nx 114 (BV e)).cells) B,_,K e Jq l m.e d G,?_⟩;rintro _ C ⟨n,b,rfl,X⟩;have D:=(m.ext n).drop 1;obtain⟨v',J,t1,t2⟩:=D.ba Kq (i:=0) B (ys:=[.string b]) B B D.e.nx G (n':=(ss++[b]).length) (xs':=AR (ss++[b])) (by simp) (by simp[AR]);refine⟨_,_,Iv (τ:=Ax) (t:=55) (k:=1) Kq (.string b) B B Jq C,_,_,t1,Pq,_,_,Sq,G,k+1,v',ss++[b],B,G,B,Jq,λs a=>?_,t2⟩;rcases List.mem_append.1 a with a|a
   .exact u s a
   .rw[List.mem_singleton.1 a];exact X
  have o:=s.sl (i:=0) B;refine⟨_,j.b7 o G d G,?_⟩;rintro _ C ⟨n,ak,E,p⟩;have aa:=E.length_eq;rw[←aa] at p;refine⟨_,AAd j.toBase p G d G,?_⟩;rintro w h4 ⟨x4,ab,o4,al,ad⟩;have ae:=(s.e.then n λi U=>o.ai i U).then x4 λi U=>p.ai i U
  exact⟨ae,ab,o4,G,λs a=>u s (E.subset (ad s a))⟩
def Fk (b:Nat):Nat:=if b<128 then 240 else if b<194 then 241 else if b<224 then 2 else if b=224 then 19 else if b=237 then 35 else if b<240 then 3 else if b=240 then 52 else if b<244 then 4 else if b=244 then 68 else 241
def K6:Nat->Nat×Nat
 |0=>(128,191)
 |1=>(160,191)
 |2=>(128,159)
 |3=>(144,191)
 |4=>(128,143)
 |_=>(0,0)
def Ce (h:Y):Prop:=h.t.get 0=I Ft.oB/\h.t.get 1=I Fu.oB/\2<=h.nx
def Ce.ext {h J:Y} (F:Ce h) (x:AA h J):Ce J:=⟨(x.t 0 (AC (by decide) F.2.2)).trans F.1,(x.t 1 (AC (by decide) F.2.2)).trans F.2.1,Ao F.2.2 x.nx⟩
def Zc3:A9:={ov:=λ_=>Z,nd:=λ_=>Z,dv:=λ_=>Z,hk:=λ_=>Z,rc:=λ_=>Z}
def Nm:Y:=Ia Ax ⟨[(0,Ft),(1,Fu)],[],[],.nilFunc,[]⟩
open Classical in
def FH (s:Bd):Bool:=decide (∃J,AA Nm J/\∀k kp,B8 Ax Zc3 1125899906842624 2 (.func 139) [.string s] Nm k kp=k (.bool Ag) J)
def H5 (s:Bd):Nat:=(CA s.size s.data.toList).length
def El (s:Bd):Int:=if FH s then H5 s else-1
def Po:∀(n m:Nat) (l:Bl),l.length<=n->l.length<=m->CA n l=CA m l
 |_,_,[],_,_=>by rename_i n m _ _;cases n<;>cases m<;>rfl
 |0,_,_::_,h,_=>by simp at h
 |_,0,_::_,_,h=>by simp at h
 |
  n+1,m+1,b::l,h1,a=>by
  have c:1<=(FF (b::l)).2:=TU _ _ _ _;simp only[AO] at h1 a;rw[CA,CA,Po n m _ (by rw[AV,AO];omega) (by rw[AV,AO];omega)]
structure Base5 (S:A9) (L:Nat):Prop extends Base4 S L where
 valid:∀{h:Y} {s:Bd},Ce h->s.size<=100000000->Bk S L 5 139 [.string s] h λw J=>AA h J/\w=.bool (FH s)
def Rw {s:Bd} {p:Nat} (e:p<s.size):(CA (s.size-p) (s.data.toList.drop p)).length=(CA (s.size-(p+(FF (s.data.toList.drop p)).2)) (s.data.toList.drop (p+(FF (s.data.toList.drop p)).2))).length+1:=by
 have a:(s.data.toList.drop p).length=s.size-p:=by rw[AV];rfl
 cases c:s.data.toList.drop p with
 |nil=>rw[c] at a;simp at a;omega
 |
  cons b l=>
  rw[c] at a;simp only[AO] at a;have f:1<=(FF (b::l)).2:=TU _ _ _ _;rw[show s.size-p=l.length+1 by omega,CA,AO,←GR,c];have d:((b::l).drop (FF (b::l)).2).length<=l.length:=by rw[AV,AO];omega
  rw[Po l.length (s.size-(p+(FF (b::l)).2)) _ d (by rw[AV,AO];omega)]
def Kp:∀(n:Nat) (l:Bl),(CA n l).length<=n
 |0,_=>Ae _
 |_+1,[]=>Al _
 |n+1,b::l=>by rw[CA,AO];have:=Kp n ((b::l).drop (FF (b::l)).2);omega
def TI (a b c d:Nat):(ZN a b c d).2<=4:=
 Ni (P:=λx:Nat×Nat=>x.2<=4) (by show 1<=4;decide) (Ni (P:=λx:Nat×Nat=>x.2<=4) (Ni (P:=λx:Nat×Nat=>x.2<=4) (by show 2<=4;decide) (by show 1<=4;decide))
  (Ni (P:=λx:Nat×Nat=>x.2<=4) (Ni (P:=λx:Nat×Nat=>x.2<=4) (by show 3<=4;decide) (by show 1<=4;decide)) (Ni (P:=λx:Nat×Nat=>x.2<=4) (Ni (P:=λx:Nat×Nat=>x.2<=4) (by show 4<=4;decide) (by show 1<=4;decide)) (by show 1<=4;decide))))
def SP:∀(n:Nat) (l:Bl),l.length<=n->l.length<=4*(CA n l).length
 |_,[],_=>Al _
 |0,_::_,h=>by simp at h
 |
  n+1,b::l,h=>by
  have c:1<=(FF (b::l)).2:=TU _ _ _ _;have d:(FF (b::l)).2<=4:=TI _ _ _ _;have a:((b::l).drop (FF (b::l)).2).length=(b::l).length-(FF (b::l)).2:=AV;rw[AO] at h a;have:=SP n ((b::l).drop (FF (b::l)).2) G;rw[CA,AO,AO];omega
def VD {s:Bd} (h:1<=El s):(s.size:Int)<=4*El s:=by
 have:=SP s.size s.data.toList (Ae _);have e:s.data.toList.length=s.size:=rfl;unfold El H5 at*;split at h
 .rw[Bi (by assumption)];omega
 .omega
def YZ (s:Bd):-1<=El s/\El s<=s.size:=by
 have:=Kp s.size s.data.toList;unfold El H5;split<;>omega
def AGa (m:Base S L) {h:Y} {s:Bd} (v:s.size<=100000000):Bk S L 1 140 [Sg s] h λw J=>AA h J/\w=Vi (H5 s):=
 Cn f140 m λd y C=>by
  have b:=(Sep.nil h).add (a:=aB h.nx (.str s 0)) (AA.new h (.str s 0)) ⟨by rw[Ck];omega,by rw[CK,Bi B]⟩ λi U=>A2 U.symm;have n:Gh Ax 9 (Sg s) h=I (AG h.nx 0,h.new (.str s 0)):=rfl;have o:=Kp s.size s.data.toList;refine⟨_,_,n,?_⟩;refine⟨λj A f=>∃p c:Nat,A=[(2,Vi c),(4,AG h.nx 0)]/\j=s.size-p/\c+(CA (s.size-p) (s.data.toList.drop p)).length=H5 s/\Sep h f [aB h.nx (.str s p)],
   ⟨_,_,Sq,?_,0,0,B,B,Ba _,b⟩,?_⟩
  .omega
  rintro j A f ⟨p,c,rfl,rfl,k,b⟩ D;have E:H5 s<=s.size:=o;rcases NE (b.a7 (i:=0) B) with⟨l,w,z,q,g⟩|⟨l,g⟩
  .refine⟨_,_,g,?_⟩
   have r:=Rw l;rw[←q.2.1] at r;have t:=b.ah (i:=0) (a':=aB h.nx (.str s (p+w))) B (Er.put f h.nx (.str s (p+w))).ae ⟨by rw[Cc];exact(b.2.1 0 _ B).1.1,by rw[BQ,Bi B]⟩ (λx u=>.inl u);exact⟨Pq,_,_,Sq,G,p+w,c+1,B,B,G,t⟩
  .refine⟨_,_,g,b.e,?_⟩
   rw[show s.size-p=0 by omega,CA] at k;rw[←k];rfl
def c58 (a:Base5 S L) {h:Y} (f:Ce h) {s:Bd} (b:s.size<=100000000):Bk S L 6 58 [Sg s] h λw J=>AA h J/\w=Vi (El s):=
 Cn f58 a.toBase λd i _=>by
  refine cl (a.valid f b) ?_;rintro _ h1 ⟨c,rfl⟩;refine⟨_,_,B,Ad (λe=>?_) (λe=>?_)⟩
  .exact⟨c,by rw[El,Bm (by simpa using e)];rfl⟩
  refine cl (AGa a.toBase b) ?_;rintro _ j ⟨g,rfl⟩;exact⟨c.trans g,by rw[El,Bi (by simpa using e)];rfl⟩
def c68 (a:Base S L) {h:Y} {z:Int}:Bk S L 1 68 [.int .i32 z] h λw J=>J=h/\∃c:Int,w=Vi c/\0<=c/\c<=6:=
 Cn f68 a λd b _=>by
  repeat' first
   |exact⟨rfl,_,rfl,by decide,by decide⟩
   |apply Ad<;>intro _
def ADr (a:Base S L) {h:Y} {z:Int}:Bk S L 2 295 [.int .i32 z] h λw J=>J=h/\∃b,w=.bool b:=
 Cn f295 a λd e _=>by
  apply Ad<;>intro _
  .refine cl (c68 a) ?_
   rintro _ h1 ⟨rfl,c,rfl,_,_⟩;exact⟨B,_,B⟩
  .exact⟨B,_,B⟩
def ABz (a:Base S L) {h:Y} {z:Int}:Bk S L 1 296 [.int .i32 z] h λw J=>J=h/\∃b,w=.bool b:=
 Cn f296 a λd c _=>by
  repeat' first
   |exact⟨rfl,_,rfl⟩
   |apply Ad<;>intro _
def AAo (a:Base5 S L) {h:Y} (g:Ce h) {s:Bd} (f:s.size<=100000000):Bk S L 7 235 [Sg s] h λw J=>AA h J/\∃b,w=.bool b/\(b=Ag->1<=El s):=
 Cn f235 a.toBase λd k _=>by
  refine cl (c58 a g f) ?_;rintro _ h1 ⟨c,rfl⟩;apply Ad<;>intro i
  .apply Ad<;>intro l
   .refine cl (Ajq a.toBase f (e:=2) ⟨295,#[],#[],B,λz J _=>ADr a.toBase⟩) ?_
    rintro _ m ⟨j,b,rfl⟩;exact⟨_,_,B,c.trans j,_,B,λ_=>Fp i⟩
   .exact⟨c,_,B,λh=>by cases h⟩
  .exact⟨c,_,B,λh=>by cases h⟩
def AEo (a:Base5 S L) {h:Y} (j:Ce h) {s:Bd} (g:s.size<=100000000):Bk S L 7 236 [Sg s] h λw J=>AA h J/\∃b,w=.bool b/\(b=Ag->s.size<=256):=
 Cn f236 a.toBase λd l _=>by
  refine cl (c58 a j g) ?_;rintro _ h1 ⟨c,rfl⟩;apply Ad<;>intro f
  .apply Ad<;>intro i
   .refine cl (Ajq a.toBase g (e:=1) ⟨296,#[],#[],B,λz J _=>ABz a.toBase⟩) ?_
    rintro _ m ⟨k,b,rfl⟩;refine⟨_,_,B,c.trans k,_,B,λ_=>?_⟩;have f:=Fp f;have i:=Fp i;have:=VD f;omega
   .exact⟨c,_,B,λh=>by cases h⟩
  .exact⟨c,_,B,λh=>by cases h⟩
def CI.ok (n:Nat) (e:CI):Prop:=(0<=e.l/\e.l<n)/\(0<=e.r/\e.r<n)/\(0<=e.c/\e.c<=30000)/\1<=El e.rd
def Auu (f:Base5 S L) {h:Y} (m:Ce h) {e:CI} {n:Nat} (h1:e.rd.size<=100000000) (D:e.tx.size<=100000000):Bk S L 8 166 [.agg ⟨BV e⟩,Vi n] h λw J=>AA h J/\∃z:Int,w=Vi z/\(z=0->e.ok n/\e.tx.size<=256):=
 Cn f166 f.toBase λd V _=>by
  obtain⟨g,y,x,o⟩:=PF e h;have a:∀{H:Y} (z:Int),z≠0->AA h H->AA h H/\∃p:Int,Vi z=Vi p/\(p=0->e.ok n/\e.tx.size<=256):=λz E x=>⟨x,z,B,λh=>Cf h E⟩;refine⟨_,_,y,_,ld B (o.cell (i:=0) B),_,AAo f (m.ext x) h1 d G,?_⟩;rintro _ W ⟨q,b,rfl,F⟩;have r:=o.ext q;have j:=x.trans q;have rest:∀H,AA h H->Own H h.nx 114 (BV e)->∀k:Prop,k->k:=λ_ _ _ _ k=>k;refine⟨_,_,B,Ad (λs=>?_) (λs=>?_)⟩
  .exact a 5 (by decide) j
  refine⟨_,ld B (r.cell (i:=1) B),_,AEo f (m.ext j) D d G,?_⟩;rintro _ X ⟨t,K,rfl,M⟩;have l:=r.ext t;have c:=j.trans t;have u:=l.cell (i:=2) B;have v:=l.cell (i:=3) B;have A:=l.cell (i:=4) B;refine⟨_,_,B,Ad (λC=>?_) (λC=>?_)⟩
  .exact a 5 (by decide) c
  refine⟨_,ld B u,Bz (λN=>?_) (λN=>?_)⟩
  .exact a 150 (by decide) c
  refine⟨_,ld B u,Bz (λO=>?_) (λO=>?_)⟩
  .exact a 150 (by decide) c
  refine⟨_,ld B v,Bz (λP=>?_) (λP=>?_)⟩
  .exact a 150 (by decide) c
  refine⟨_,ld B v,Bz (λQ=>?_) (λQ=>?_)⟩
  .exact a 150 (by decide) c
  refine⟨_,ld B A,Bz (λR=>?_) (λR=>?_)⟩
  .exact a 6 (by decide) c
  refine⟨_,ld B A,Bz (λT=>?_) (λT=>?_)⟩
  .exact a 6 (by decide) c
  exact⟨c,0,B,λ_=>⟨⟨G,G,G,F (by cases b<;>first|rfl|cases s)⟩,M (by cases K<;>first|rfl|cases C)⟩⟩
def Sw (ps:List JT):Prop:=1<=ps.length/\ps.length<=64/\∀q∈ps,q.1.size<=16/\0<=q.2/\q.2<=2
def c85 (o:Base5 S L) (T:Ce h) {a:Aa} {ps:List JT} {es:List CI} (p:Gt h pv ps) (V:ps.length<=100000000) (E:Dq h ev es) (hn:es.length<=100000000) (F:∀e∈es,e.rd.size<=100000000/\e.tx.size<=100000000)
 (r:a=.pointer Z\/∃b n:Nat,a=AG b 0/\Cell h b 0 (Vi n)):
 Bk S L 9 85 [pv,a,ev] h λw J=>AA h J/\∃z:Int,w=Vi z/\(z=0->Sw ps/\a≠.pointer Z/\es.length<=20000/\(∀e∈es,e.ok ps.length)/\∀b n:Nat,a=AG b 0->Cell h b 0 (Vi n)->n=ps.length):=
 Cn f85 o.toBase λd ad hL=>by
  have W:=p;have X:=E;obtain⟨hr,A0,c0,rfl,ae,af,hA⟩:=p;obtain⟨ag,aa,c2,rfl,ah,ai,aj⟩:=E;have j:∀{H:Y} (z:Int),z≠0->AA h H->AA h H/\∃K:Int,Vi z=Vi K/\(K=0->Sw ps/\a≠.pointer Z/\es.length<=20000/\(∀e∈es,e.ok ps.length)/\∀b n:Nat,a=AG b 0->Cell h b 0 (Vi n)->n=ps.length):=λz u x=>⟨x,z,B,λh=>Cf h u⟩;refine cl (Apq o.toBase W V) ?_;rintro _ h1 ⟨c,z,rfl,u⟩;apply Ad<;>intro e1
  .exact j 5 Jq c
  rcases r with rfl|⟨b,n,rfl,M⟩
  .exact⟨_,B,j 9 (by decide) c⟩
  refine⟨_,B,GZ (Aux o.toBase (M.ext c) d G) ?_⟩;apply Ad<;>intro e2
  .exact j 5 Jq c
  have e2:n=ps.length:=Gq;apply Bz<;>intro e3
  .exact j 2 Jq c
  refine⟨λN A m=>∃k:Nat,A=[(0,.slice A0 ps.length c0),(27,.slice aa es.length c2),(28,Vi es.length),(29,Vi k)]/\k<=es.length/\N=es.length-k/\(∀e∈es.take k,e.ok ps.length)/\AA h m,
   ⟨_,_,Sq,G,0,B,Al _,B,(λe s=>by simp at s),c⟩,?_⟩
  rintro N A m ⟨k,rfl,hk,rfl,y,x⟩ ak;apply Bz<;>intro k1;rotate_left
  .obtain rfl:k=es.length:=G
   rw[CS] at y;exact⟨x,0,B,λ_=>⟨u Jq,(λh=>by cases h),G,y,λb' n' hb' c'=>by
    cases hb';have:=c'.inj M;injection this with _ this;omega⟩⟩
  have C:k<es.length:=G;obtain⟨a1,y1,e9,_,O⟩:=(Rd.ext X x).el C;cases e9;rw[flatK (f:=BV) (λ_=>rfl) es (Ab C)] at O;obtain⟨e,s⟩:∃e,e=es[k]:=⟨_,B⟩;have r:e∈es:=Gq;rw[←s] at O;obtain⟨g1,z1,P,z2,D⟩:=(Sep.nil m).var (t:=114) (z:=.agg #[Sg ⟨#[]⟩,Sg ⟨#[]⟩,Vi 0,Vi 0,Vi 0]) Kq (v:=.agg ⟨BV e⟩) B B B;refine⟨G,_,EQ Kq Jq B,_,_,z1 _,_,z2,_,EQ Kq (show BK P m.nx 0 (BV e) from (D.dD (i:=0) B:Own P m.nx 114 (BV e)).cells) B,_,Auu o (T.ext (x.trans D.e)) (F e r).1 (F e r).2 d G,?_⟩;rintro _ h3 ⟨x3,z3,rfl,ab⟩;have Q:=(x.trans D.e).trans x3;apply Ad<;>intro R
  .exact j z3 (by simpa using R) Q
  refine⟨Pq,_,_,CG (l:=[(0,_),(27,_),(28,_),(29,Vi ((k+1:Nat):Int))]) ⟨B,B,B,Cs (λz=>I (Vi z)) (G),trivial⟩,(show es.length-(k+1)<es.length-k by omega),k+1,B,G,B,λq g=>?_,Q⟩;rw[A5 C] at g;rcases List.mem_append.1 g with g|g
  .exact y q g
  .rw[List.mem_singleton.1 g,←s];exact (ab (by simpa using R)).1
structure Base6 (S:A9) (L:Nat):Prop extends Base5 S L where
 cw:∀{h:Y} {v:Aa} {es:List CI},Dq h v es->es.length<=20000->Bk S L 10 86 [v] h λw J=>AA h J/\∃C3:List CI,AS J h.nx 114 5 w C3.length (C3.flatMap BV)/\C3.length<=es.length/\∀e'∈C3,∃e∈es,∃e2∈es,e'.rd=e.rd/\e'.tx=e.tx/\e'.l=e.l/\e'.r=e.r/\e'.c=e2.c
def Awk:CI:=⟨⟨#[]⟩,⟨#[]⟩,0,0,0⟩
def Aib (m:Nat):Dy (AJ (.agg #[Sg ⟨#[]⟩,Sg ⟨#[]⟩,Vi 0,Vi 0,Vi 0])) m=(AE m Awk).flatMap BV:=by
 induction m with
 |zero=>rfl
 |succ m a=>rw[Dy,a];rfl
def SS:∀(vs ys rest:AH),vs.length=ys.length->I2 (ys++rest) 0 vs=vs++rest
 |[],[],_,_=>rfl
 |
  v::vs,y::ys,rest,h=>by
  have e:=NF [v] vs (ys++rest) 0;rw[(SS vs ys rest (by simpa using h))] at e;exact e
 |[],_::_,_,h=>by simp at h
 |_::_,[],_,h=>by simp at h
def Ail {b:Type} {f:b->AH} {K:Nat} (c:∀a,(f a).length=K) (l:List b) (d:k<l.length) (a:b):I2 (l.flatMap f) (k*K) (f a)=(l.set k a).flatMap f:=by
 have e:l.set k a=l.take k++a::l.drop (k+1):=by
  rw[List.set_eq_take_append_cons_drop,Bi d]
 have g:l.flatMap f=(l.take k).flatMap f++(f l[k]++(l.drop (k+1)).flatMap f):=by
  conv=>lhs;rw[(by rw[List.getElem_cons_drop,FO]:l=l.take k++l[k]::l.drop (k+1))]
  rw[E0,Dg]
 rw[g,e,E0,Dg];have:=NF ((l.take k).flatMap f) (f a) (f l[k]++(l.drop (k+1)).flatMap f) 0;rw[(by rw[HV c,Cg,N4 G]:((l.take k).flatMap f).length=k*K)] at this;have this:I2 ((l.take k).flatMap f++(f l[k]++(l.drop (k+1)).flatMap f)) (k*K) (f a)=_:=this;rw[this,SS _ _ _ Jq]
def AS.dd (o:AS h N e k (sL b n n) n xs):Own h b e xs:=by
 obtain⟨f,⟨a,_⟩|⟨i,c,sp,a,_,_,g,d⟩⟩:=o
 .cases a
 .cases a
  rw[Aj,f] at g;have:sp=[]:=BO G;rw[this,Fb] at d;exact d
def Own.bN (o:Own h b e xs) (a:xs.length=n*k) (c:N<=b):AS h N e k (sL b n n) n xs:=
 ⟨a,.inr ⟨b,n,[],B,c,Ae _,by rw[Fb];exact a,by rw[Fb];exact o⟩⟩
def Gy.ae {K V:Aa->Prop} (m:Gy h r K V) (c:B0 W h J) (a:¬W r):Gy J r K V:=(aM r K V).aH c (λi U=>by rw[show i=r from U];exact a) m
def AS.aX (o:AS h N e k v n xs):∃A n c,v=.slice A n c:=by
 obtain⟨_,A,c,e,_⟩:=o.rd;exact⟨A,n,c,e⟩
def RdZ {l:Bo} (r:Rd h v 1 l.length (Bn l)):Rd h v 1 (l.map λx:Nat=>(x:Int)).length (Ew (l.map λx:Nat=>(x:Int))):=by
 rw[Ze] at r;rw[A4];exact r
def Azp (a b c d e f g h i j k:Bd) (l m n o p q r s t u v:Option BD) (w x y z A C m6 D m8 E F K c1 L c3 c4 M N c7 c8 c9 c10:Nat) (H:Y):
 Bs Ax 118 11 [(0,.agg ⟨[Sg a,.slice l w K]⟩),(1,.agg ⟨[Sg b,.slice m x c1]⟩),(2,.agg ⟨[Sg c,.slice n y L]⟩),(3,.agg ⟨[Sg d,.slice o z c3]⟩),(4,.agg ⟨[Sg e,.slice p A c4]⟩),(5,.agg ⟨[Sg f,.slice q C M]⟩),(6,.agg ⟨[Sg g,.slice r m6 N]⟩),(7,.agg ⟨[Sg h,.slice s D c7]⟩),(8,.agg ⟨[Sg i,.slice t m8 c8]⟩),(9,.agg ⟨[Sg j,.slice u E c9]⟩),(10,.agg ⟨[Sg k,.slice v F c10]⟩)] H=
 I (sL H.nx 11 11,BN H 203 [Sg a,.slice l w K,Sg b,.slice m x c1,Sg c,.slice n y L,Sg d,.slice o z c3,Sg e,.slice p A c4,Sg f,.slice q C M,Sg g,.slice r m6 N,Sg h,.slice s D c7,Sg i,.slice t m8 c8,Sg j,.slice u E c9,Sg k,.slice v F c10]):=by
 kernel_rfl
def c46 (q:Base6 S L) (bz:Ce h) {mv:Aa} {ps:List JT} {es:List CI} (qq:G3 h) (p:Gt h pv ps) (hp:ps.length<=100000000) (en:Dq h ev es) (hn:es.length<=100000000) (b0:∀e∈es,e.rd.size<=100000000/\e.tx.size<=100000000)
 (hm:mv=.pointer Z\/∃(b r:Nat) (df:Int) (l:GX),mv=AG b 0/\∃m:Nat,F6 h b m df r l/\EJ m l/\m<=64/\l.length<=100000):
 Bk S L 30 46 [pv,mv,ev] h λw J=>AA h J/\∃(o:Aa) (z:Int),w=.tuple #[o,Vi z]/\(z=0->(Sw ps/\∀e∈es,e.ok ps.length)/\(∀b n:Nat,mv=AG b 0->Cell h b 0 (Vi n)->n=ps.length)/\∃bs:Bl,bs.length<=20000000/\AS J h.nx 5 1 o bs.length (Ay bs)):=
 Cn f46 q.toBase λd dg hL=>by
  have am:∀{H:Y} (z:Int),z≠0->AA h H->AA h H/\∃(o:Aa) (z':Int),C4 #[sN,Vi z]=.tuple #[o,Vi z']/\(z'=0->(Sw ps/\∀e∈es,e.ok ps.length)/\(∀b n:Nat,mv=AG b 0->Cell h b 0 (Vi n)->n=ps.length)/\∃bs:Bl,bs.length<=20000000/\AS H h.nx 5 1 o bs.length (Ay bs)):=λz hz x=>⟨x,_,z,B,λh=>Cf h hz⟩;obtain⟨g0,y0,s0⟩:=(Sep.nil h).box Ax 24 ev;have ca:AJ ev=[ev]:=by
   obtain⟨_,A,c,rfl,_⟩:=en;rfl
  rw[ca] at s0;have x0:=s0.e;have c5:Cell g0 h.nx 0 ev:=(s0.dD (i:=0) B).cell B;refine⟨_,_,y0,_,ld B c5,_,c85 q.toBase5 (bz.ext x0) (Rd.ext p x0) hp (Rd.ext en x0) hn b0 (hm.imp id λ⟨b,r,df,l,e,m,M,_⟩=>⟨b,m,e,(M.ext x0).2.1⟩) d G,?_⟩;rintro _ h1 ⟨x1,z,rfl,hz⟩;have s1:=s0.ext x1;apply Ad<;>intro e1
  .exact am z Jq s1.e
  obtain⟨cb,cd,ce,cf,cg⟩:=hz Jq;obtain⟨b,r,df,l,rfl,m,M,mo,ch,ci⟩:=hm.resolve_left cd;refine⟨_,ld B (c5.ext x1),_,q.cw (Rd.ext en s1.e) ce d G,?_⟩;rintro X C ⟨x2,es2,ay,dh,di⟩;have az:=ay.rd;have D:=s1.ext x2;obtain⟨h3,u3,s3,v3⟩:=D.a5 (τ:=Ax) (t:=24) B (i:=0) B (by show 0<1;decide) (Rd.one az);have c3:Cell h3 h.nx 0 X:=(s3.dD (i:=0) B).cell B;have cj:∀i,BY X i->i≠h.nx:=λi U E=>by
   have q1:=ay.ai i U;have q2:=(s0.dD (i:=0) B).1;have q3:=x1.nx;omega
  have a0:=Rd.ae az v3.ae λi U=>cj i U;refine⟨_,u3,_,ld B c3,_,c88 q.toBase4 (P:=λ_=>True) a0 G ⟨89,#[],#[],B,λe _ J _=>(c89 q.toBase).mono λv C E=>⟨E.1,_,E.2,trivial⟩⟩ d G,?_⟩;rintro w4 h4 ⟨x4,dj,o4,dk,_⟩;have s4:=s3.ext x4;refine cl (c87 q.toBase o4.rd) ?_;rintro _ h5 ⟨x5,⟨e,he,rfl⟩|⟨b9,t9,rfl,ck,dl,_⟩⟩
  .apply Ad<;>intro k
   .exact am 2 Jq (s4.ext x5).e
   .have:e=0:=by simpa using k
    omega
  have s5:=s4.ext x5;have c35:=(c3.ext x4).ext x5;have a2:=Rd.ext (Rd.ext a0 x4) x5;refine⟨_,ld B c35,_,c88 q.toBase4 (P:=λ_=>True) a2 G ⟨90,#[],#[],B,λe _ J _=>(c90 q.toBase).mono λv C E=>⟨E.1,_,E.2,trivial⟩⟩ d G,?_⟩;rintro w6 h6 ⟨x6,dm,o6,dn,_⟩;refine cl (c87 q.toBase o6.rd) ?_;rintro _ g ⟨x7,⟨e,he,rfl⟩|⟨an,t11,rfl,ao,dp,_⟩⟩
  .apply Ad<;>intro k
   .exact am 2 Jq ((s5.ext x6).ext x7).e
   .have:e=0:=by simpa using k
    omega
  have s7:=(s5.ext x6).ext x7;have ad:=s7.e;have s8:=(Sep.nil g).mk Fh KM;obtain⟨g9,y9,s9⟩:=s8.al (z:=.map Z) Kq;obtain⟨dq,cm,a3⟩:=s9.st (t:=192) B (i:=0) B (j:=0) (v:=.map (I g.nx)) (by show 0<1;decide) B;refine⟨_,_,y9 _,_,cm,GZ (c91 q.toBase (ao.ext a3.e) d G) ?_⟩;refine⟨λV A E=>∃k:Nat,A=[(0,pv),(1,AG b 0),(5,AG h.nx 0),(9,AG b9 0),(11,AG an 0),(12,AG (g.new (.map [] 0)).nx 0),(53,Vi t11.nd.length),(54,Vi k)]/\k<=t11.nd.length/\V=t11.nd.length-k/\Sep g E [aO (g.new (.map [] 0)).nx 192 [.map (I g.nx)],aM g.nx Fh KM],
   ⟨_,_,Sq,G,0,B,Al _,B,a3⟩,?_⟩
  rintro V A E ⟨k,rfl,hk,rfl,s⟩ a4;have c12:=(s.dD (i:=0) B).cell (i:=0) (v:=.map (I g.nx)) B;apply Bz<;>intro k1
  .refine cl (c92 q.toBase (ao.ext s.e)) ?_
   rintro _ h8 ⟨x8,st,dr,rfl,ds,_⟩;have D:=s.ext x8;obtain⟨h9,u9,s9⟩:=D.up (τ:=Ax) (t:=192) (kt:=9) (et:=3) (i:=1) B Kq MV (k:=.string st) (v:=Vi k) ⟨st,B⟩ ⟨k,B,G,G⟩;exact⟨_,ld B (c12.ext x8),_,_,(by rw[u9];rfl:Nb (BH Ax 192 (.map (I g.nx)) (Sg st) (Vi k) h8)=I (.tuple #[],h9)),Pq,_,_,Sq,G,k+1,B,G,B,s9⟩
  have cn:Cell E h.nx 0 X:=((c35.ext x6).ext x7).ext s.e;refine cl (c93 q.toBase (Rd.ext (Rd.ext p ad:Gt g pv ps) s.e) G) ?_;rintro _ cp ⟨ap,dt,du,a5,rfl,dv,a6⟩;obtain⟨ae,af,PT,rfl⟩:=a6.aX;have a7:=cn.ext ap;have a8:Dq cp X es2:=Rd.ext (Rd.ext (Rd.ext (Rd.ext a2 x6) x7:Dq g X es2) s.e) ap;refine⟨_,ld B a7,_,c94 q.toBase a8 G ⟨95,#[],#[],B,λe f J _=>c95 q.toBase⟩ d G,?_⟩;rintro a9 u ⟨ag,dw,cq,dx,dy⟩;have aq:=(s.ext ap).ext ag;have ah:=a7.ext ag;have ai:Dq u X es2:=Rd.ext a8 ag;obtain⟨ab,k5,rfl⟩:∃A c,X=.slice A es2.length c:=by
   obtain⟨_,A,c,e,_⟩:=ai;exact⟨A,c,e⟩
  obtain⟨g8,y8,x8,o8,n8⟩:=MA (τ:=Ax) (t:=48) (e:=3) (z:=Vi 0) Kq Kq B es2.length G .i64 .i64 u;rw[show AE es2.length (Vi 0)=Bn (AE es2.length 0) by simp[Bn]] at o8;have s8:=aq.add (a:=aO u.nx 3 (Bn (AE es2.length 0))) x8 o8 λi U=>A2 U.symm;refine⟨_,ld B ah,_,_,y8,λV A C=>∃(k:Nat) (us:Bo),A=[(1,AG b 0),(5,AG h.nx 0),(9,AG b9 0),(11,AG an 0),(12,AG (g.new (.map [] 0)).nx 0),(16,.slice ae af PT),(18,a9),(19,sL u.nx es2.length es2.length),(78,Vi es2.length),(79,Vi k)]/\k<=es2.length/\V=es2.length-k/\us.length=es2.length/\(∀x∈us,x<es2.length)/\AA u C/\Sep g C [aO u.nx 3 (Bn us),aO (g.new (.map [] 0)).nx 192 [.map (I g.nx)],aM g.nx Fh KM],
   ⟨_,_,Sq,G,0,_,B,Al _,B,by simp,?_,x8,s8⟩,?_⟩
  .intro x W
   obtain⟨q1,q2⟩:=List.mem_replicate.1 W;omega
  rintro V A C ⟨k,us,rfl,hk,rfl,ba,aj,N,D⟩ a4;apply Bz<;>intro k1
  .obtain⟨h3,u3,s3,v3⟩:=D.a5 (τ:=Ax) (t:=3) B (i:=0) B (j:=k) (v:=Vi k) (by rw[HO];omega) B
   rw[show(Bn us).set k (Vi k)=Bn (us.set k k) by simp[Bn,Cp]] at s3;refine⟨G,_,Jp u3 (by show 0+k*1=k;omega),Pq,_,_,Sq,G,k+1,_,B,G,B,by simp;exact ba,?_,N.then v3.ae (λi U=>by rw[U];omega),s3⟩
   intro y hy;rcases BT hy with hy|rfl
   .exact aj y hy
   .omega
  have oS:AS C u.nx 3 1 (sL u.nx es2.length es2.length) es2.length (Bn us):=(D.dD (i:=0) B).bN (by rw[HO];omega) (Ae _);have n1:(g.new (.map [] 0)).nx<u.nx:=(aq.dD (i:=0) B).1;have n2:g.nx<u.nx:=(aq.mw (i:=1) B).1;have n3:h.nx<u.nx:=ah.1;have c12:Cell C (g.new (.map [] 0)).nx 0 (.map (I g.nx)):=(D.dD (i:=1) B).cell (i:=0) B;have m12:Gy C g.nx Fh KM:=D.mw (i:=2) B;have c52:=ah.ext N;have cr:Dq C (.slice ab es2.length k5) es2:=Rd.ext ai N;refine cl (q.cc (d:=1) oS G ⟨97,#[],#[AG (g.new (.map [] 0)).nx 0,AG h.nx 0],B,λx W y hy J c=>c97 q.toBase (c12.ae c (by show¬_=u.nx;omega)) (m12.ae c (by show¬_=u.nx;omega)) (c52.ae c (by show¬_=u.nx;omega)) (Rd.ae cr c λi U=>by have:=Rd.aw ai i U;show¬i=u.nx;omega) (aj x W) (aj y hy)⟩) ?_;rintro _ O ⟨bb,Q,bc,cs⟩;have ct:Sep g O [aO u.nx 3 (Bn Q),aO (g.new (.map [] 0)).nx 192 [.map (I g.nx)],aM g.nx Fh KM]:=D.ah (i:=0) B (a':=aO u.nx 3 (Bn Q)) bb cs.dd λi U=>.inl U;have ak:AA u O:=N.then bb λi U=>by rw[show i=u.nx from U];exact Ae _
  have cu:Q.length=es2.length:=by rw[bc.length_eq];exact ba
  have cv:∀x∈Q,x<es2.length:=λx W=>aj x (bc.subset W);have ar:=ah.ext ak;have bd:Dq O (.slice ab es2.length k5) es2:=Rd.ext ai ak;obtain⟨dz,cw,be,bf,_⟩:=YH (τ:=Ax) (t:=24) (e:=114) (k:=5) (z:=.agg #[Sg ⟨#[]⟩,Sg ⟨#[]⟩,Vi 0,Vi 0,Vi 0]) Kq Kq es2.length es2.length (Ae _) G .i64 .i64 O;rw[Aib] at bf;have cx:=ct.add (a:=aO O.nx 114 ((AE es2.length Awk).flatMap BV)) be bf λi U=>A2 U.symm;refine⟨_,ld B ar,_,_,cw,λV A C=>∃(k:Nat) (T:List CI),A=[(1,AG b 0),(5,AG h.nx 0),(9,AG b9 0),(11,AG an 0),(12,AG (g.new (.map [] 0)).nx 0),(16,.slice ae af PT),(18,a9),(19,sL u.nx es2.length es2.length),(21,sL O.nx es2.length es2.length),(93,sL u.nx es2.length es2.length),(94,Vi es2.length),(95,Vi k)]/\k<=es2.length/\V=es2.length-k/\T.length=es2.length/\AA O C/\Sep g C [aO O.nx 114 (T.flatMap BV),aO u.nx 3 (Bn Q),aO (g.new (.map [] 0)).nx 192 [.map (I g.nx)],aM g.nx Fh KM],
   ⟨_,_,Sq,G,0,_,B,Al _,B,by simp,be,cx⟩,?_⟩
  rintro V A C ⟨k,T,rfl,hk,rfl,au,N,D⟩ a4;apply Bz<;>intro k1
  .have bg:k<Q.length:=G
   obtain⟨x,W⟩:∃x,x=Q.getD k 0:=⟨_,B⟩;have bh:x<es2.length:=by
    rw[W,Ak,Ab bg];exact cv _ (Bu _)
   have q1:Bw Ax 3 C u.nx (0+((k:Int)).toNat*t3.size)=I (Vi x):=by
    rw[W];exact Dz (ld B ((D.dD (i:=1) B).cell (GH bg))) (by show 0+k*1=k;omega)
   obtain⟨a1,y1,e9,_,q2⟩:=(Rd.ext bd N).el bh;cases e9;rw[flatK (f:=BV) (λ_=>rfl) es2 (Ab bh)] at q2;obtain⟨e,he⟩:∃e,e=es2[x]:=⟨_,B⟩;rw[←he] at q2;obtain⟨h3,u3,o3,v3⟩:=(D.dD (i:=0) B).bD (τ:=Ax) (t:=114) (k:=5) Kq (i:=k*5) (vs:=BV e) B (by rw[(HV (f:=BV) (λ_=>rfl) T:(T.flatMap BV).length=T.length*5)];show k*5+5<=_;omega) B;rw[Ail (f:=BV) (K:=5) (λ_=>rfl) T G e] at o3;exact⟨G,_,q1,_,ld B (ar.ext N),G,_,EQ (k:=5) Kq (show BK C a1.block (a1.off+(x:Int).toNat*5) (BV e) from q2) B,G,_,Jp u3 (by show 0+k*5=k*5;omega),Pq,_,_,Sq,G,k+1,_,B,G,B,by simp;exact au,N.then v3.ae (λi U=>by rw[U];exact Ae _),(D.ah (i:=0) B v3.ae o3 λi U=>.inl U:Sep g h3 [aO O.nx 114 ((T.set k e).flatMap BV),aO u.nx 3 (Bn Q),aO (g.new (.map [] 0)).nx 192 [.map (I g.nx)],aM g.nx Fh KM])⟩
  have R:Dq C (sL O.nx es2.length es2.length) T:=by
   have:=(D.dD (i:=0) B).dB (n:=es2.length) (k:=5) (by rw[HV (f:=BV) (k:=5) (λ_=>rfl),au]);rw[←au] at this⊢;exact this
  have cy:=ad.trans D.e;have cz:Rd C (sL u.nx es2.length es2.length) 1 (Q.map λx:Nat=>(x:Int)).length (Ew (Q.map λx:Nat=>(x:Int))):=by
   have:=(D.dD (i:=1) B).dB (n:=es2.length) (k:=1) (by rw[HO];omega);rw[Ze] at this;rw[A4,cu];exact this
  have c12:Cell C (g.new (.map [] 0)).nx 0 (.map (I g.nx)):=(D.dD (i:=2) B).cell (i:=0) B;have m12:Gy C g.nx Fh KM:=D.mw (i:=3) B;have cc:=ar.ext N;have al:Dq C (.slice ab es2.length k5) es2:=Rd.ext bd N;have c0:=(M.ext ad).ext D.e;have da:=((ck.ext x6).ext x7).ext D.e;have db:=(qq.ext ad).ext D.e;have av:∀l:Bo,(l.map λx:Nat=>(x:Int)).length=l.length:=λl=>by simp
  refine cl (c94 q.toBase R G ⟨98,#[],#[],B,λe f J _=>c98 q.toBase⟩) ?_;rintro ea k0 ⟨bi,eb,dc,ec,ed⟩;refine cl (ADj q.toBase3 (c0.ext bi) mo ch ci) ?_;rintro o1 k1 ⟨y1,b1,ee,w1⟩;obtain⟨A1,n1,c1,rfl⟩:=w1.aX;have z1:=bi.trans y1;refine cl (Aqp q.toBase (da.ext z1)) ?_;rintro o2 k2 ⟨y2,b2,ef,w2⟩;obtain⟨bj,n2,c2,rfl⟩:=w2.aX;have z2:=z1.trans y2;refine cl (Ajo q.toBase ((RdZ (cq.rd.ext (ak.trans N))).ext z2) (by rw[av];omega)) ?_;rintro o3 k3 ⟨y3,b3,eg,w3⟩;obtain⟨bk,n3,c3,rfl⟩:=w3.aX;have z3:=z2.trans y3;refine cl (Aqp q.toBase ((ao.ext D.e).ext z3)) ?_;rintro o4 k4 ⟨y4,b4,eh,w4⟩;obtain⟨bl,n4,c4,rfl⟩:=w4.aX;have z4:=z3.trans y4;refine cl (c99 q.toBase (cc.ext z4) (Rd.ext al z4) G ⟨104,#[],#[AG (g.new (.map [] 0)).nx 0],B,λe _ J x=>AGd q.toBase ((c12.ext z4).ext x) (m12.ae ((z4.trans x).ae λ_=>False) (λh=>h))⟩) ?_;rintro o5 ei ⟨y5,b5,ej,w5⟩;obtain⟨ab,n5,c5,rfl⟩:=w5.aX;have z5:=z4.trans y5;refine cl (c99 q.toBase (cc.ext z5) (Rd.ext al z5) G ⟨105,#[],#[],B,λe _ J x=>(ABe q.toBase).mono λv C E=>⟨E.1,_,E.2⟩⟩) ?_;rintro o6 k6 ⟨y6,b6,ek,w6⟩;obtain⟨bm,n6,c6,rfl⟩:=w6.aX;have z6:=z5.trans y6;refine cl (c99 q.toBase (cc.ext z6) (Rd.ext al z6) G ⟨106,#[],#[],B,λe _ J x=>(ADx q.toBase).mono λv C E=>⟨E.1,_,E.2⟩⟩) ?_;rintro o7 k7 ⟨y7,b7,eo,w7⟩;obtain⟨bn,n7,c7,rfl⟩:=w7.aX;have z7:=z6.trans y7;refine cl (c99 q.toBase (cc.ext z7) (Rd.ext al z7) G ⟨107,#[],#[],B,λe _ J x=>(ACd q.toBase).mono λv C E=>⟨E.1,_,E.2⟩⟩) ?_;rintro o8 k8 ⟨y8,b8,ep,w8⟩;obtain⟨bo,n8,c8,rfl⟩:=w8.aX;have z8:=z7.trans y8;refine cl (Ajo q.toBase (cz.ext z8) (by rw[av];omega)) ?_;rintro o9 k9 ⟨y9,bp,er,w9⟩;obtain⟨bq,n9,c9,rfl⟩:=w9.aX;refine cl (Ajo q.toBase ((((((((((RdZ dc.rd).ext y1).ext y2).ext y3).ext y4).ext y5).ext y6).ext y7).ext y8).ext y9) (by rw[av];omega)) ?_;rintro ew aa ⟨br,bt,ex,aw⟩;obtain⟨bu,bv,c10,rfl⟩:=aw.aX;have bw:=(z8.trans y9).trans br;obtain⟨parts,ax⟩:∃parts:List DQ,parts=[⟨⟨#[112,111,115]⟩,.slice ae af PT,a5⟩,⟨⟨#[109,97,116,114,105,120]⟩,.slice A1 n1 c1,b1⟩,⟨⟨#[114,101,97,100,105,110,103,115]⟩,.slice bj n2 c2,b2⟩,⟨⟨#[102,105,114,115,116]⟩,.slice bk n3 c3,b3⟩,⟨⟨#[115,117,114,102,97,99,101,115]⟩,.slice bl n4 c4,b4⟩,⟨⟨#[115,117,114,102,97,99,101]⟩,.slice ab n5 c5,b5⟩,⟨⟨#[108,101,102,116]⟩,.slice bm n6 c6,b6⟩,⟨⟨#[114,105,103,104,116]⟩,.slice bn n7 c7,b7⟩,⟨⟨#[99,111,115,116]⟩,.slice bo n8 c8,b8⟩,⟨⟨#[111,114,100,101,114]⟩,.slice bq n9 c9,bp⟩,⟨⟨#[97,116]⟩,.slice bu bv c10,bt⟩]:=⟨_,B⟩;have zz:=bw.trans (AA.row aa 203 (parts.flatMap Fj));have P:EC (BN aa 203 (parts.flatMap Fj)) (sL aa.nx parts.length parts.length) parts:=by
   refine⟨(Own.row aa 203 (parts.flatMap Fj)).dB (n:=parts.length) (k:=2) (HV (f:=Fj) (λ_=>rfl) parts),λp hp=>?_⟩;have f9:=br;have f8:=y9.trans f9;have f7:=y8.trans f8;have f6:=y7.trans f7;have f5:=y6.trans f6;have f4:=y5.trans f5;have f3:=y4.trans f4;have f2:=y3.trans f3;have F:∀{v:Aa} {bs:Bl},Rd aa v 1 bs.length (Ay bs)->Rd (BN aa 203 (parts.flatMap Fj)) v 1 bs.length (Ay bs):=λo=>o.ext (AA.row _ _ _);rw[ax] at hp;simp only[List.mem_cons,List.mem_nil_iff,or_false] at hp;rcases hp with rfl|rfl|rfl|rfl|rfl|rfl|rfl|rfl|rfl|rfl|rfl
   .exact⟨Ac (by rfl),by show a5.length<=16777216;omega,F ((((a6.rd.ext ag).ext (ak.trans N))).ext bw)⟩
   .exact⟨Ac (by rfl),by show b1.length<=16777216;omega,F (w1.rd.ext (y2.trans f2))⟩
   .exact⟨Ac (by rfl),by show b2.length<=16777216;omega,F (w2.rd.ext f2)⟩
   .exact⟨Ac (by rfl),by show b3.length<=16777216;omega,F (w3.rd.ext f3)⟩
   .exact⟨Ac (by rfl),by show b4.length<=16777216;omega,F (w4.rd.ext f4)⟩
   .exact⟨Ac (by rfl),by show b5.length<=16777216;omega,F (w5.rd.ext f5)⟩
   .exact⟨Ac (by rfl),by show b6.length<=16777216;omega,F (w6.rd.ext f6)⟩
   .exact⟨Ac (by rfl),by show b7.length<=16777216;omega,F (w7.rd.ext f7)⟩
   .exact⟨Ac (by rfl),by show b8.length<=16777216;omega,F (w8.rd.ext f8)⟩
   .exact⟨Ac (by rfl),by show bp.length<=16777216;omega,F (w9.rd.ext f9)⟩
   .exact⟨Ac (by rfl),by show bt.length<=16777216;omega,F (aw.rd)⟩
  have bx:=cy.trans zz;clear w1 w2 w3 w4 w5 w6 w7 w8 w9 aw;rw[(by rw[ax];rfl:parts.length=11)] at P;subst ax;refine⟨_,_,Azp ⟨#[112,111,115]⟩ ⟨#[109,97,116,114,105,120]⟩ ⟨#[114,101,97,100,105,110,103,115]⟩ ⟨#[102,105,114,115,116]⟩ ⟨#[115,117,114,102,97,99,101,115]⟩ ⟨#[115,117,114,102,97,99,101]⟩ ⟨#[108,101,102,116]⟩ ⟨#[114,105,103,104,116]⟩ ⟨#[99,111,115,116]⟩ ⟨#[111,114,100,101,114]⟩ ⟨#[97,116]⟩ ae A1 bj bk bl ab bm bn bo bq bu af n1 n2 n3 n4 n5 n6 n7 n8 n9 bv PT c1 c2 c3 c4 c5 c6 c7 c8 c9 c10 aa,_,Awq q.toBase P (Ac (by rfl)) (db.ext zz) d G,?_⟩;rintro _ kf ⟨xf,o7,z,rfl,hz⟩;refine⟨bx.trans xf,o7,z,B,λdd=>?_⟩;obtain⟨bs,de,F⟩:=hz dd;exact⟨⟨cb,cf⟩,(λb' n e c=>cg b' n e (c.ext x0):∀b' n:Nat,AG b 0=AG b' 0->Cell h b' 0 (Vi n)->n=ps.length),bs,de,F.mono bx.nx⟩
end
end
end Go.Ev
