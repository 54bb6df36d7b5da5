/-
  Part of the proof.
-/
import Derived.Test.YthifijhldmpodaaGreatDoorR3
import Derived.Shelf.Slices.In.SortNone
import Derived.Test.YthifijhldmpodaaGreatDoorRows
set_option maxRecDepth 100000
set_option maxHeartbeats 40000000
set_option linter.all false
open Bool renaming false->Ah,true->Ag,and_eq_true->An,or_eq_true->Dm,false_eq_true->BE,and_true->Mh
open Go renaming Code->DC,Deferred->Hh,Func->BC,FuncId->Au,MapEntry->Ap,Oper->C0,Operand->BU,Program->AN,TypeId->Ai,Value->Aa,World->AM,Addr->BD,DataW->JO,MemPlace->IY
open Option renaming none->Z,some->I,map_some->Ek,bind_some->CC
open Nat renaming beq->Am,succ->A3,eq_of_beq_eq_true->Af,lt_succ_self->HL,ble->Ar,blt->AD,le_refl->Ae,lt_of_lt_of_le->AC,le_trans->Ao,lt_or_ge->A8,le_of_ble_eq_true->Ac,ble_eq_true_of_le->Aq,le_of_eq->A2,le_succ->Yr,blt_eq->AK,sub_zero->DL,zero_add->Ba,add_assoc->DD,add_mul->Dw,mod_lt->Je,zero_mul->Qg,zero_le->Al,eq_zero_or_pos->KQ,mul_comm->UI,le_add_right->GW,add_sub_cancel_left->Ds,mul_one->BJ,beq_refl->Mi
open List renaming length_cons->AO,map_cons->Bp,drop_eq_getElem_cons->Di,drop_eq_nil_of_le->Ef,drop_zero->Ajb,getElem?_toArray->Db,getElem?_append_left->AB,mem_cons_of_mem->Az,mem_cons_self->Av,foldl_cons->F7,replicate->AE,length_append->Aj,length_map->A4,getElem?_append_right->Bq,getElem?_eq_none->CD,eq_nil_of_length_eq_zero->BO,mem_of_getElem?->AZ,take_of_length_le->Bj,append_nil->Fb,length->HD,append_assoc->KA,getD_eq_getElem?_getD->Ak,nil_append->IW,cons_append->KB,mem_append_left->DW,range->BG,getElem?_eq_getElem->Ab,getElem?_map->AX,getElem!_eq_getElem?_getD->UJ,nodup_nil->Jg,getElem_mem->Bu,take_append_drop->FO,take_length->CS,length_singleton->Br,length_drop->AV,length_take->Cg,map_map->O5,getElem?_range->Jj,take_succ_eq_append_getElem->A5,map_append->BS,mem_or_eq_of_mem_set->BT,length_set->B4,map_set->Cp,map_replicate->KD,getElem?_of_mem->Iz,length_nil->Acd,take_append_of_le_length->UR,flatMap_cons->Dg,flatMap_append->E0,set_append->Hj,perm_append_singleton->Gm,flatMap_map->UM,mem_map_of_mem->Gn,prefix_refl->Eb,prefix_append->GS,foldl_append->K1,take->Ana,getElem!_toArray->ZE,length_mergeSort->ZF,map_singleton->Ajh
open Int renaming ofNat->AQ,toNat_natCast->UG,toNat_of_nonneg->UQ,eq_ofNat_of_zero_le->B9
open Array renaming getElem?_modify->B3,length_toList->EZ,getElem?_append_left->KP,getElem?_eq_getElem->By,getElem?_eq_none->Dr,getElem?_toList->Is,getElem?_mapIdx->Acj
open Go.Value renaming int->AL,bool->CU,tuple->C4,okWide->Acg
open Go.World renaming cell?->WX,shape?->Jd
open Prod renaming fst->Eh,snd->Amy
open ByteArray renaming size_append->KF,size->K2
namespace Go.Ev
open Go Go.Proofs Tryz
noncomputable section
open Go Go.Proofs Tryz
open Go Go.Proofs Tryz
section
variable {h J h0 h1 H:Y} {v fv nv pv cv ev lv u v':Aa} {xs args vs ys:AH} {n b N i k e r j x m c q d a p t2 st sb mo ck lp rm b0 sz off:Nat} {t:Ai} {f:Au} {fn:BC} {s:Bd} {bs:Bl} {ws:Bo} {W:Nat->Prop} {Q:Aa->Y->Prop} {A:Option BD} {z df day:Int} {ss:BZ} {τ:Bb}
variable{S:A9} {L:Nat}
def AAe (D:Base S L) {P:Bd->Prop} (o:AS h N 9 1 v n (AR ss)) (E:∀s∈ss,P s) (hn:n<=1000000):Bk S L 1 217 [v] h λ_ J=>B0 (BY v) h J/\∃a,a.length=ss.length/\(∀s∈a,P s)/\AS J N 9 1 v n (AR a):=
 Cn f217 D λd aa hL=>by
  obtain⟨u,l,rfl⟩:∃A c,v=.slice A n c:=by obtain⟨_,A,c,e,_⟩:=o.rd;exact⟨A,c,e⟩
  refine⟨Pq,λw A f=>∃(i:Nat) (j:Int) (a:BZ),A=[(0,.slice u n l),(2,Vi i),(3,Vi j)]/\j=(n:Int)-1-i/\i<=n/\w=n-i/\a.length=ss.length/\(∀s∈a,P s)/\AS f N 9 1 (.slice u n l) n (AR a)/\B0 (BY (.slice u n l)) h f,
   ⟨_,_,Sq,G,0,_,ss,B,G,Al _,B,B,E,o,(AA.refl h).ae _⟩,?_⟩
  rintro w A f ⟨i,j,a,rfl,rfl,U,rfl,x,m,o,c⟩ ab;refine Ad (λp=>?_) (λp=>⟨c,a,x,m,o⟩);have p:=Fp p;obtain⟨j,F⟩:∃j:Nat,(j:Int)=(n:Int)-1-i:=⟨n-1-i,G⟩;rw[←F] at p⊢;have r:=o.rd;obtain⟨y,⟨e,rfl⟩|⟨b,c1,sp,e,H,K,M,O⟩⟩:=o
  .omega
  cases e;rw[CM,BJ] at y;subst y;obtain⟨_,e,Q⟩:=r.str (k:=i) G;cases e;obtain⟨_,e,R⟩:=r.str (k:=j) G;cases e;have q:∀k:Nat,k<a.length->0<=(k:Int)/\(k:Int)<a.length:=λk z=>G;obtain⟨h1,T,V,W⟩:=Own.st (τ:=Ax) (t:=9) B (show Own f.ad b 9 _ from O) (i:=i) (v:=.string (a[j]'G)) Jq B;obtain⟨h2,X,C,x2⟩:=Own.st (τ:=Ax) (t:=9) B (show Own (f.aa h1).ad b 9 _ from V.aa (h:=f)) (i:=j) (v:=.string (a[i]'G)) Jq B;refine⟨[],Kq,q j G,_,ld B R,q i G,_,ld B Q,q i G,_,Jp T (by show 0+i*1=i;omega),q j G,_,Jp X (by show 0+j*1=j;omega),Pq,Pq,_,_,Sq,Jq,i+1,_,(a.set i (a[j]'G)).set j (a[i]'G),B,G,G,B,by rw[B4,B4,x],λs g=>?_,?_,c.trans ((W.aa.ae.trans x2.aa.ae).mono λk z=>z)⟩
  .rcases BT g with g|rfl
   .rcases BT g with g|rfl
    .exact m s g
    .exact m _ Jq
   .exact m _ Jq
  .refine⟨by rw[CM,B4,B4];omega,.inr ⟨b,l,sp,B,H,K,?_,?_⟩⟩
   .rw[Aj,CM,B4,B4,←M,Aj,CM]
   .rw[Hj,Bi (by rw[CM];omega),Hj,Bi (by rw[B4,CM];omega)] at C
    rw[show AR ((a.set i (a[j]'G)).set j (a[i]'G))=((AR a).set i (.string (a[j]'G))).set j (.string (a[i]'G)) by unfold AR;rw[Cp,Cp]];exact C.aa
def Qu (l:BZ) (t:Bool):AH:=AR l++[.bool t]
def Ann (h:Y) (b:Nat):Prop:=∃l t,l.length=14/\(∀s∈l,s.size<=100)/\BK h b 0 (Qu l t)
structure Mo (h:Y):Prop where
 p:Ann h 2
 f:Ann h 3
 g:∃l:BZ,l.length=5/\(∀s∈l,s.size<=100)/\BK h 4 0 (AR l)
def Mo.ext (a:Mo h) (x:AA h J):Mo J:=by
 obtain⟨⟨l,t,h1,b,c⟩,⟨l',d,e,f,g⟩,i,j,k,m⟩:=a;exact⟨⟨l,t,h1,b,c.ext x⟩,⟨l',d,e,f,g.ext x⟩,i,j,k,m.ext x⟩
def Za {l:BZ} {t:Bool} (h:i<l.length):(Qu l t)[i]?=I (Sg l[i]):=by
 unfold Qu;rw[AB (by rw[CM];exact h),Dl h]
def Aqi (S:A9) (L d f:Nat) (h:Y):Prop:=∀a,AA h a->∀n:Nat,n<=9->Bk S L d f [.int .i64 n] a λw J=>(∃s:Bd,w=.string s/\s.size<=100)/\J=a
def AAm (a:Base S L):Aqi S L 1 143 h:=λb _ n c=>
 Cn f143 a λd e _=>⟨_,.inl Pq,Pq,_,B,⟨_,B,Ao (Nz _) (by decide)⟩,B⟩
def ABv (a:Base S L) (b:Mo h):Aqi S L 1 218 h:=λf x n g=>
 Cn f218 a λd j _=>by
  obtain⟨l,t,h1,c,e⟩:=(b.ext x).p;exact⟨⟨G,by show(n:Int)<((10:Nat):Int);omega⟩,_,Dz (ld B (e.at (i:=n) (Za G))) (by show 0+0+((n:Nat):Int).toNat*1=0+n;omega),⟨_,B,c _ (Bu _)⟩,B⟩
def V2 {ds:Bl} (a:Ml ds) (b:k<ds.length):dig (Cv (EY ds) k):=by
 show dig (ds.getD k 0);rw[Ak,Ab b];exact a _ Jq
def Aum (a:Base S L) {ds:Bl} {f:Nat} (j:Ml ds) (y:ds.length<=20) (l:Aqi S L e f h):Bk S L (e+5) 142 [Sg (EY ds),.func (.func f) #[] #[]] h λw J=>AA h J/\∃t:Bd,w=.string t/\t.size<=2000:=
 Cn f142 a λd z C=>by
  have D:(EY ds).size=ds.length:=rfl;obtain⟨E,m,o⟩:=(Sep.nil h).a3;refine⟨_,_,m _,λc A b=>∃(k:Nat) (v:Aa) (bs:Bl),A=[(0,Sg (EY ds)),(1,.func (.func f) #[] #[]),(5,AG h.nx 0),(8,Vi ds.length),(9,Vi k)]/\k<=ds.length/\c=ds.length-k/\bs.length<=100*k/\Sep h b [RK h.nx h.nx v bs],
   ⟨_,_,Sq,G,0,_,_,B,Al _,B,Al _,o⟩,?_⟩
  rintro c A b ⟨k,v,bs,rfl,F,rfl,hb,s⟩ H;apply Bz<;>intro K
  .obtain⟨M,N⟩:=V2 j (k:=k) G
   obtain⟨n,p⟩:∃n:Nat,(n:Int)=((Cv (EY ds) k).toNat:Int)-48:=⟨(Cv (EY ds) k).toNat-48,G⟩;refine⟨Jq,⟨?_,?_⟩,_,.inl ⟨⟨?_,?_⟩,p⟩,_,l _ s.e n G d G,?_⟩
   .show 0<=((Cv (EY ds) k).toNat:Int)-48;omega
   .show((Cv (EY ds) k).toNat:Int)-48<=255;omega
   .show _<=((Cv (EY ds) k).toNat:Int)-48;omega
   .show((Cv (EY ds) k).toNat:Int)-48<=_;omega
   rintro _ b ⟨⟨t,rfl,q⟩,rfl⟩;refine cl (c79 a (s.bl (i:=0) B) s.e.nx G) ?_;rintro _ O r;obtain⟨P,u⟩:=s.bf (i:=0) B r;have Q:t.data.toList.length<=100:=q;exact⟨Pq,_,_,Sq,G,k+1,_,_,B,G,B,by rw[Aj];omega,u⟩
  .refine cl (c81 a (s.bl (i:=0) B) G) ?_
   rintro _ g ⟨rfl,x⟩;exact⟨s.e.then x λi U=>(s.bl (i:=0) B).o.ge i U,_,B,by show bs.length<=_;omega⟩
def Wri (S:A9) (L d f:Nat) (h:Y):Prop:=∀a,AA h a->∀ds:Bl,Ml ds->Bk S L d f [.string (EY ds)] a λw J=>AA a J/\∃(t:Bd) (b:Bool),w=.tuple #[.string t,.bool b]
def ACc (a:Base S L) (f:Mo h):Wri S L 8 145 h:=λj x ds g=>
 Cn f145 a λd k _=>by
  refine cl (Ajx a) ?_;rintro _ h1 ⟨c,b,rfl,hb⟩;refine⟨_,_,B,Ad (λe=>⟨c,_,_,B⟩) (λe=>?_)⟩;refine cl (Aum a g (hb (by cases b<;>first|rfl|cases e)).2 (ABv a ((f.ext x).ext c))) ?_
  rintro _ l ⟨i,t,rfl,_⟩;exact⟨c.trans i,_,_,B⟩
def ACq (j:Base S L):Wri S L 8 144 h:=λM x ds N=>
 Cn f144 j λd O P=>by
  refine cl (Ajx j) ?_;rintro _ h1 ⟨p,b,rfl,hb⟩;refine⟨_,_,B,Ad (λz=>⟨p,_,_,B⟩) (λz=>?_)⟩;have hb:=hb Jq;refine⟨λq A g=>∃(s:Bd) (v:Aa) (l:BZ),A=[(4,v),(5,Sg s)]/\s.size<=20/\q=s.size/\l.length+s.size<=20/\(∀s∈l,s.size<=10000)/\AS g h1.nx 9 1 v l.length (AR l)/\AA h1 g,
   ⟨_,_,Sq,G,_,_,[],B,hb.2,B,by show 0+_<=_;omega,(λs h=>by cases h),AS.nil _ _ _ _,AA.refl _⟩,?_⟩
  rintro q A g ⟨s,v,l,rfl,C,rfl,Q,R,o,r⟩ T;have UN:∀t:Bd,∃v' e,Bx Ax .append [55,55] [v,sL g.nx 1 1] (BN g 9 [Sg t])=I (v',e)/\AS e h1.nx 9 1 v' (l++[t]).length (AR (l++[t]))/\AA h1 e:=λt=>by
   obtain⟨v',e,f,o',c,_⟩:=Tz Kq o (ys:=[Sg t]) B B r.nx G;exact⟨v',e,f,by rw[Aj,show AR (l++[t])=AR l++[Sg t] by simp[AR]];exact o',r.then c λi U=>o.ai i U⟩
  have w:∀{t:Bd},t.size<=20->∀u∈l++[t],u.size<=10000:=λV u W=>Gq;apply Bz<;>intro X
  .obtain⟨v',e,f,o',m⟩:=UN s
   refine⟨_,_,Iv (τ:=Ax) (t:=55) (k:=1) Kq (Sg s) B B Jq g,_,_,f,_,AAe j o' (w C) Jq d G,?_⟩;rintro _ g2 ⟨D,ss,E,F,y⟩;have aa:ss.length<=21:=Gq;rw[←E] at y;refine cl (Avc j y.rd G F Jq) ?_;rintro _ g3 ⟨H,t,rfl⟩;exact⟨(p.trans (m.then D λi U=>o'.ai i U)).trans H,_,_,B⟩
  .have K:=Anu (s:=s) (a:=((s.size:Int)-3).toNat) G
   have n:=Ani (s:=s) (a:=((s.size:Int)-3).toNat) G;obtain⟨v',e,f,o',m⟩:=UN (EY ((s.data.toList.drop ((s.size:Int)-3).toNat).take (s.size-((s.size:Int)-3).toNat)));exact⟨Pq,_,_,Cs (CN _) (sLo G G),_,_,Iv (τ:=Ax) (t:=55) (k:=1) Kq (.string _) B B (by decide) g,_,_,f,Pq,_,_,Cs (CN _) (sHi G G),_,_,Sq,by rw[n];omega,_,_,_,B,by rw[n];omega,B,by rw[n,Aj];simp;omega,w (by rw[K];omega),o',m⟩
def Awj (m:Base S L) (y:Mo h) {l:BZ} {t:Bool} {ds:Bl} (W:l.length=14) (X:∀s∈l,s.size<=100) (hd:Ml ds):Bk S L 6 219 [.agg ⟨Qu l t⟩,Sg (EY ds)] h λw J=>AA h J/\∃(t:Bd) (b:Bool),w=.tuple #[Sg t,.bool b]/\t.size<=10000:=
 Cn f219 m λd ag hL=>by
  obtain⟨g0,y0,C⟩:=(Sep.nil h).box Ax 342 (.agg ⟨Qu l t⟩);refine⟨_,_,y0,_,Ajx m d G,?_⟩;rintro _ h1 ⟨D,b,rfl,hb⟩;have q:=C.e.trans D;refine⟨_,_,B,Ad (λk1=>⟨q,_,_,B,by decide⟩) (λk1=>?_)⟩;have hb:=hb Jq;have f:(EY ds).size=ds.length:=rfl;have E:=(C.dD (i:=0) B:Own g0 h.nx 342 (Qu l t)).ext D;obtain⟨lg,ah,aa,ab⟩:=(y.ext q).g;refine⟨_,B,Ad (λk2=>⟨q,_,_,B,by decide⟩) (λk2=>?_)⟩;obtain⟨g2,y2,s2⟩:=(Sep.nil h1).a3;refine⟨_,_,y2 _,λF A r=>∃(k:Nat) (v:Aa) (bs:Bl) (c:Bool),A=[(1,Sg (EY ds)),(2,AG h.nx 0),(6,AG h1.nx 0),(7,.bool c),(17,Vi ds.length),(18,Vi k)]/\k<=ds.length/\F=ds.length-k/\bs.length<=300*k/\Sep h1 r [RK h1.nx h1.nx v bs],
   ⟨_,_,Sq,G,0,_,_,_,B,Al _,B,Al _,s2⟩,?_⟩
  rintro F A r ⟨k,v,bs,c,rfl,hk,rfl,ai,s⟩ aj;apply Ad<;>intro K;rotate_left
  .refine cl (c81 m (s.bl (i:=0) B) G) ?_
   rintro _ g ⟨rfl,c6⟩;exact⟨q.trans (s.e.then c6 λi U=>(s.bl (i:=0) B).o.ge i U),_,_,B,by show bs.length<=_;omega⟩
  have K:=Fp K;have len:∀(x:Bl) (s:Bd),(x++s.data.toList).length=x.length+s.size:=λ_ _=>Aj;have M:∀{H:Y} {i:Nat},AA h1 H->i<l.length->∃s:Bd,s.size<=100/\Cell H h.nx i (Sg s):=λx U=>⟨_,X _ (Bu U),((E.ext x).cell (Za U))⟩;have ad:∀{H:Y} {i:Nat},AA h1 H->i<5->∃s:Bd,s.size<=100/\Cell H 4 i (Sg s):=λ{H i} x U=>⟨lg[i]'G,aa _ (Bu _),by
   have:=(ab.ext x).at (i:=i) (Dl G);rw[Ba] at this;exact this⟩
  obtain⟨q1,q2⟩:=V2 hd (k:=k) G;obtain⟨n,hn⟩:∃n:Nat,(n:Int)=((Cv (EY ds) k).toNat:Int)-48:=⟨(Cv (EY ds) k).toNat-48,G⟩;have ae:((Cv (EY ds) ((k:Nat):Int).toNat).toNat:Int)-48=n:=hn.symm;obtain⟨p,hp⟩:∃p:Nat,(p:Int)=(ds.length:Int)-1-k:=⟨ds.length-1-k,G⟩;obtain⟨sn,ak,cn⟩:=M s.e (show n<l.length by omega);refine⟨[],Kq,⟨by rw[f];omega,by rw[f];omega⟩,⟨by rw[f];omega,by rw[f];omega⟩,⟨G,by rw[f];omega⟩,⟨by omega,by omega⟩,?_⟩;have Da:∀{N:As} {y:Y} {v:Aa} {bs:Bl} {c:Bool},Sub [(1,Sg (EY ds)),(2,AG h.nx 0),(6,AG h1.nx 0),(7,.bool c),(17,Vi ds.length),(18,Vi ((k+1:Nat):Int))] N->bs.length<=300*k+300->Sep h1 y [RK h1.nx h1.nx v bs]->∃m' O,Sub O N/\m'<ds.length-k/\∃(k:Nat) (v:Aa) (bs:Bl) (c:Bool),O=[(1,Sg (EY ds)),(2,AG h.nx 0),(6,AG h1.nx 0),(7,.bool c),(17,Vi ds.length),(18,Vi k)]/\k<=ds.length/\m'=ds.length-k/\bs.length<=300*k/\Sep h1 y [RK h1.nx h1.nx v bs]:=λhA hb s=>
   ⟨_,_,hA,(show ds.length-(k+1)<_ by omega),k+1,_,_,_,B,G,B,G,s⟩
  apply Ad<;>intro q;refine Ad (λe1=>?a) (λe1=>⟨_,ld B ((E.ext s.e).cell (by unfold Qu;rw[Bq (by rw[CM];omega),CM,W];rfl):Cell r h.nx 14 (.bool t)),Ad (λe2=>?b) (λe2=>⟨⟨by rw[f];omega,by decide⟩,Ad (λe3=>?c) (λe3=>?d)⟩)⟩)
  case' d=>obtain⟨u,Iv,o,af⟩:∃u Iv,Sep h1 r [RK h1.nx h1.nx u Iv]/\Iv.length<=300*k+100:=⟨v,bs,s,G⟩
  case' a|b|c=>
   refine⟨⟨G,by show _<((10:Nat):Int);omega⟩,_,Dz (ld B cn) (by rw[ae];show 0+0+((n:Nat):Int).toNat*1=_;omega),_,c79 m (s.bl (i:=0) B) s.e.nx G d G,?_⟩;rintro _ al w1;obtain⟨u,o⟩:=s.bf (i:=0) B w1;obtain⟨Iv,P⟩:∃x,x=bs++sn.data.toList:=⟨_,B⟩;rw[←P] at o;have af:Iv.length<=300*k+100:=by rw[P,len];omega
  case' a|b|c|d=>
   obtain⟨Q,am,cu⟩:=M o.e (show 10+p%4<l.length by omega);refine⟨⟨by rw[f];omega,by decide⟩,⟨by rw[f];omega,by rw[f];show _<((4:Nat):Int);omega⟩,_,Dz (ld B cu) (by rw[f];show 0+10+(((ds.length:Int)-1-k)%4).toNat*1=_;omega),_,c79 m (o.bl (i:=0) B) o.e.nx G d G,?_⟩;rintro _ an w3;obtain⟨v3,j⟩:=o.bf (i:=0) B w3;have R:(Iv++Q.data.toList).length<=300*k+200:=by rw[len];omega
   obtain⟨T,V⟩:∃x,x=Iv++Q.data.toList:=⟨_,B⟩;rw[←V] at j;have R:T.length<=300*k+200:=by rw[V,len];omega
   refine⟨⟨by rw[f];omega,by decide⟩,Ad (λz=>?_) (λz=>?_)⟩
  rotate_right
  obtain⟨v3,T,j,R⟩:∃u Iv,Sep h1 r [RK h1.nx h1.nx u Iv]/\Iv.length<=300*k+200:=⟨v,bs,s,G⟩;refine⟨⟨by rw[f];omega,by decide⟩,Ad (λz=>Ad (λe5=>?_) (λe5=>?_)) (λz=>?_)⟩
  all_goals first
   |exact⟨Pq,Da (Sq) G j⟩
   |
    obtain⟨sg,ao,cg⟩:=ad j.e (show p/4<5 by omega);refine⟨⟨by rw[f];omega,by decide,by rw[f];omega,by rw[f];omega⟩,⟨by rw[f];omega,by rw[f];show _<((5:Nat):Int);omega⟩,_,Dz (ld B cg) (by rw[f];show 0+(((ds.length:Int)-1-k)/4).toNat*1=_;omega),_,c79 m (j.bl (i:=0) B) j.e.nx G d G,?_⟩;rintro _ ap w4;obtain⟨v4,s4⟩:=j.bf (i:=0) B w4;exact⟨Pq,Da (Sq) (by rw[len];omega) s4⟩
def Aop (a:Base S L) (c:Mo h) {ds:Bl} (e:Ml ds):Bk S L 7 146 [Sg (EY ds)] h λw J=>AA h J/\∃(t:Bd) (b:Bool),w=.tuple #[Sg t,.bool b]/\t.size<=10000:=
 Cn f146 a λd n _=>by
  obtain⟨l,t,h1,f,i⟩:=c.p;refine⟨_,EQ (k:=15) Kq i (by unfold Qu;rw[Aj,CM,h1];rfl),_,Awj a c h1 f e d G,?_⟩;rintro _ g ⟨j,t,b,rfl,m⟩;exact⟨j,_,_,B,m⟩
def Bk.up (c:Bk S L d f args h Q) (a:d<=e):Bk S L e f args h Q:=λn b=>c n Jq
def ADd (a:Base S L) (c:Mo h):Wri S L 8 146 h:=λf x ds d=>((Aop a (c.ext x) d).up (by decide)).mono λ_ _ ⟨g,t,b,e,_⟩=>Jq
def AGl (a:Base S L) (c:Mo h):Wri S L 8 147 h:=λn x ds e=>
 Cn f147 a λd o _=>by
  obtain⟨l,t,h1,i,j⟩:=(c.ext x).f;refine⟨_,EQ (k:=15) Kq j (by unfold Qu;rw[Aj,CM,h1];rfl),_,Awj a (c.ext x) h1 i e d G,?_⟩;rintro _ g ⟨m,t,b,rfl,_⟩;exact⟨m,_,_,B⟩
def Pb (h J:Y) (m:Nat) (w:Aa):Prop:=∃ss:BZ,AS J h.nx 9 1 w ss.length (AR ss)/\ss.length<=m
def ABj (a b:Bd) (h:Y):Bs Ax 55 2 [(0,Sg a),(1,Sg b)] h=I (sL h.nx 2 2,BN h 9 [Sg a,Sg b]):=Kq
def PU (f:Nat):Value:=.func (.func f) #[] #[]
def ABr (a b c d:Nat) (h:Y):Bs Ax 248 4 [(0,PU a),(1,PU b),(2,PU c),(3,PU d)] h=I (sL h.nx 4 4,BN h 247 [PU a,PU b,PU c,PU d]):=Kq
section
variable{h0 h:Y} {l:List Ct}
def Sep.bt (s:Sep h0 h l) (t:Bd):Gh Ax 9 (Sg t) h=I (AG h.nx 0,h.new (.str t 0))/\Sep h0 (h.new (.str t 0)) (aB h.nx (.str t 0)::l):=
 ⟨B,s.add (AA.new h (.str t 0)) ⟨by rw[Ck];omega,by rw[CK,Bi B]⟩ λi U=>A2 U.symm⟩
def Sep.bL (s:Sep h0 h l) {i r p:Nat} {t:Bd} (U:l[i]?=I (aB r (.str t p))):
 (p<t.size/\∃w z J,(1<=w/\w=(FF (t.data.toList.drop p)).2/\z=(FF (t.data.toList.drop p)).1)/\FT (AG r 0) Ag h=I [(.tuple #[.bool Ag,Vi p,.int .i32 z],J)]/\Sep h0 J (l.set i (aB r (.str t (p+w)))))\/
 (t.size<=p/\FT (AG r 0) Ag h=I [(.tuple #[.bool Ah],h)]):=by
 rcases NE (s.a7 U) with⟨h1,w,z,a,e⟩|⟨h1,e⟩
 .exact .inl ⟨h1,w,z,_,a,e,s.ah (a':=aB r (.str t (p+w))) U (Er.put h r (.str t (p+w))).ae ⟨by rw[Cc];exact(s.2.1 i _ U).1.1,by rw[BQ,Bi B]⟩ λx b=>.inl b⟩
 .exact .inr ⟨h1,e⟩
def Sep.cE (s:Sep h0 h l) (n:Nat) {ss:BZ} (a:ss.length=n):Sep h0 (BN h 9 (AR ss)) (aS h0.nx 9 1 (sL h.nx n n) n (AR ss)::l):=by
 have e:(AR ss).length=n*1:=by rw[CM];omega
 exact s.add (AA.row h 9 (AR ss)) ⟨e,.inr ⟨h.nx,n,[],B,s.e.nx,Ae _,by rw[Fb];exact e,by rw[Fb];exact Own.row _ _ _⟩⟩ λi U=>A2 U.symm
end
def Aga {x:UInt8} {r:Int} (h:(x.toNat:Int)=r) (h1:48<=r) (a:r<=57):dig x:=Pq
def c59 (j:Base S L) {h:Y} (P:Mo h) {s:Bd} (hs:s.size<=1000000):Bk S L 10 59 [Sg s] h λw J=>AA h J/\Pb h J 6 w:=
 Cn f59 j λd ag hL=>by
  obtain⟨D,y1,s1⟩:=(Sep.nil h).a3;obtain⟨y2,s2⟩:=s1.bt s;have nil:∀{H:Y},AA h H->AA h H/\Pb h H 6 (sN):=λx=>⟨x,[],AS.nil _ _ _ _,by decide⟩;refine⟨_,_,y1 _,_,_,y2,λE A F=>∃(p:Nat) (v:Aa) (ds:Bl),A=[(3,AG h.nx 0),(13,AG D.nx 0)]/\E=s.size-p/\Ml ds/\(ds.length<=p/\ds.length<=s.size)/\Sep h F [aB D.nx (.str s p),RK h.nx h.nx v ds],
   ⟨_,_,Sq,G,0,_,[],B,B,Ml.nil,⟨Al _,Al _⟩,s2⟩,?_⟩
  rintro E A F ⟨p,v,ds,rfl,rfl,Q,hl,N⟩ ab;rcases N.bL (i:=0) B with⟨hp,w,z,h4,V,R,n⟩|⟨hp,R⟩
  .have W:∀{x:UInt8} {A:As},dig x->Sub [(3,AG h.nx 0),(13,AG D.nx 0)] A->∀{J},Gu h4 J h.nx h.nx v (ds++[x])->∃m' X,Sub X A/\m'<s.size-p/\∃(p:Nat) (v:Aa) (ds:Bl),X=[(3,AG h.nx 0),(13,AG D.nx 0)]/\m'=s.size-p/\Ml ds/\(ds.length<=p/\ds.length<=s.size)/\Sep h J [aB D.nx (.str s p),RK h.nx h.nx v ds]:=λr ad J w5=>by
    obtain⟨v5,s5⟩:=n.bf (i:=1) B w5;exact⟨_,_,ad,(show s.size-(p+w)<_ by omega),p+w,_,_,B,B,λy hy=>(List.mem_append.1 hy).elim (Q y) λh=>by rw[List.mem_singleton.1 h];exact r,by simp;omega,s5⟩
   refine⟨_,_,R,Ad (λC=>Ad (λm=>?a) (λm=>?b)) (λC=>?c)⟩
   case a=>
    have C:=Fp C;have m:=Fp m;exact⟨_,c80 j (n.bl (i:=1) B) n.e.nx G d G,λ_ J q=>q.elim λcs q=>(q.2.1 G G).elim λx r=>W (Aga r.2 C m) (Sq) (r.1▸q.2.2.2)⟩
   all_goals
    refine Ad (λK=>Ad (λT=>?_) (λT=>nil n.e)) (λK=>nil n.e);have K:=Fp K;have T:=Fp T;exact⟨Pq,Pq,_,c80 j (n.bl (i:=1) B) n.e.nx G d G,λ_ J q=>q.elim λcs q=>(q.2.1 G G).elim λx r=>W (Aga r.2 G G) (Sq) (r.1▸q.2.2.2)⟩
  .refine⟨_,_,R,_,c81 j (N.bl (i:=1) B) G d G,?_⟩
   rintro _ g ⟨rfl,c5⟩;have e5:=N.e.then c5 λi U=>(N.bl (i:=1) B).o.ge i U
   refine cl (Ajx j) ?_;rintro _ g6 ⟨x6,b,rfl,hb⟩;refine⟨_,_,B,Ad (λC=>nil (e5.trans x6)) (λC=>?_)⟩;have hb:ds.length<=20:=(hb (by cases b<;>first|rfl|cases C)).2
   refine cl (Aum (ds:=ds) (f:=143) (e:=1) j Q hb (AAm j)) ?_;rintro _ g7 ⟨x7,t,rfl,_⟩;have s8:=((Sep.nil h).ext ((e5.trans x6).trans x7)).cE 2 (ss:=[EY ds,t]) B;have s9:=s8.add (a:=aO (BN g7 9 (AR [EY ds,t])).nx 247 [PU 144,PU 145,PU 146,PU 147]) (AA.row _ _ _) (Own.row _ _ _) λi U=>A2 U.symm;have ae:∀k:Nat,k<4->∃f,[PU 144,PU 145,PU 146,PU 147][k]?=I (PU f)/\Wri S L 8 f h:=λk hk=>by
    rcases k with _|_|_|_|k
    .exact⟨_,B,ACq j⟩
    .exact⟨_,B,ACc j P⟩
    .exact⟨_,B,ADd j P⟩
    .exact⟨_,B,AGl j P⟩
    .omega
   obtain⟨M,aa⟩:∃M,M=(BN g7 9 (AR [EY ds,t])).nx:=⟨_,B⟩;rw[←aa] at s9;refine⟨_,_,ABj _ _ _,_,_,ABr 144 145 146 147 _,λE A F=>∃(k:Nat) (v:Aa) (ss:BZ),A=[(6,Sg (EY ds)),(7,v),(45,sL M 4 4),(46,Vi 4),(47,Vi k)]/\k<=4/\E=4-k/\ss.length<=2+k/\Sep h F [aO M 247 [PU 144,PU 145,PU 146,PU 147],aS h.nx 9 1 v ss.length (AR ss)],
    ⟨_,_,CG (l:=[(6,_),(7,_),(45,sL M 4 4),(46,_),(47,Vi ((0:Nat):Int))]) ⟨B,B,by rw[aa];rfl,B,B,trivial⟩,G,0,_,[EY ds,t],B,Al _,B,Ae 2,s9⟩,?_⟩
   rintro E A F ⟨k,v,ss,rfl,hk,rfl,ah,s⟩ ab;refine Ad (λm=>?_) (λm=>⟨s.e,ss,s.sl (i:=1) B,G⟩);have m:=Fp m;obtain⟨f,hf,V⟩:=ae k G;refine⟨G,_,Dz (ld B ((s.dD (i:=0) B).cell hf)) (by show 0+((k:Nat):Int).toNat*1=_;omega),_,V _ s.e ds Q d G,?_⟩;rintro _ h9 ⟨x9,u,b,rfl⟩;have O:=s.ext x9;have o:=O.sl (i:=1) B;obtain⟨A1,c1,rfl⟩:∃A c,v=.slice A ss.length c:=by obtain⟨_,A,c,e,_⟩:=o.rd;exact⟨A,c,e⟩
   refine cl (c45 j o.rd G) ?_;rintro _ h9 ⟨rfl,b2,rfl,_⟩;refine⟨_,_,B,Ad (λK=>?_) (λK=>?_)⟩
   .obtain⟨v',J,t1,af⟩:=O.ba (st:=55) (t2:=55) (e:=9) (k:=1) Kq (i:=1) B (ys:=[Sg u]) B B O.e.nx G (n':=(ss++[u]).length) (xs':=AR (ss++[u])) (by simp) (by simp[AR])
    exact⟨_,_,Iv (τ:=Ax) (t:=55) (e:=9) (k:=1) Kq (Sg u) B B (by decide) _,_,_,t1,Pq,_,_,Sq,G,k+1,_,_,B,G,B,by simp;omega,af⟩
   .exact⟨Pq,_,_,Sq,G,k+1,_,ss,B,G,B,G,O⟩
def stY (y:Int):Int:=365*(y-1)+(y-1)/4-(y-1)/100+(y-1)/400
def Aqw (a:Base S L) {y:Int} (b:1<=y/\y<=20000):Bk S L 1 220 [Vi y] h λw J=>w=Vi (stY y)/\J=h:=
 Cn f220 a λd c _=>
  ⟨Pq,Pq,⟨G,by decide,G,G⟩,Pq,⟨G,by decide,G,G⟩,Pq,⟨G,by decide,G,G⟩,Pq,B,B⟩
def bfM (m:Int):Int:=(153*((m+9)%12)+2)/5+59
def bfY (y m:Int):Int:=if m<=2 then bfM m-365 else if y%4=0/\(y%100≠0\/y%400=0) then bfM m+1 else bfM m
def Aap {y m:Int} (a:1<=m/\m<=12):0<=bfY y m/\bfY y m<=1000/\(m=1->bfY y m=0):=by
 unfold bfY bfM;split
 .omega
 .split<;>omega
def Avv (k:Base S L) {y m:Int} (l:1<=y/\y<=20000) (n:1<=m/\m<=12):Bk S L 1 221 [Vi y,Vi m] h λw J=>w=Vi (bfY y m)/\J=h:=
 Cn f221 k λd o _=>by
  have e:bfM m=(153*((m+9)%12)+2)/5+59:=rfl;refine⟨Pq,Jq,Pq,Pq,⟨G,by decide,G,G⟩,Pq,Bz (λc=>?_) (λc=>?_)⟩
  .exact⟨Pq,by rw[bfY,Bi c,e];rfl,B⟩
  have i:y%4=0/\(y%100≠0\/y%400=0)->Vi ((153*((m+9)%12)+2)/5+59+1)=Vi (bfY y m)/\h=h:=λf=>⟨by rw[bfY,Bm c,Bi f,e],B⟩;have j:¬(y%4=0/\(y%100≠0\/y%400=0))->Vi ((153*((m+9)%12)+2)/5+59)=Vi (bfY y m)/\h=h:=λf=>⟨by rw[bfY,Bm c,Bm f,e],B⟩;refine⟨Jq,Ad (λa=>?_) (λa=>j λh=>KK a h.1)⟩;have a:=Fp a;refine⟨Jq,Ad (λb=>⟨Pq,i ⟨a,.inl λh=>?_⟩⟩) (λb=>⟨Jq,Ad (λg=>⟨Pq,i ⟨a,.inr (Fp g)⟩⟩) (λg=>j λh=>?_)⟩)⟩
  .rw[h] at b;cases b
  .rcases h.2 with h|h
   .have:=decide_eq_false h
    rw[this] at b;cases b
   .exact KK g h
def Azi (day:Int) (w:Aa):Prop:=(w=.tuple #[.int .i64 0,.int .i64 0,.int .i64 0,.bool Ah])\/((1<=day/\day<=3652059)/\∃y m d:Nat,w=.tuple #[.int .i64 y,.int .i64 m,.int .i64 d,.bool Ag]/\(1<=y/\y<=9999)/\(1<=m/\m<=12)/\(1<=d/\d<=400))
def Auk (b:Base S L):Bk S L 2 150 [Vi day] h λw J=>Azi day w/\J=h:=
 Cn f150 b λd q s=>by
  refine Ad (λf=>⟨.inl B,B⟩) (λf=>Ad (λg=>⟨.inl B,B⟩) (λg=>?_));have f:=KK f;have g:=KK g;refine⟨Pq,Pq,⟨G,by decide,G,G⟩,Pq,λa A c=>∃y:Nat,A=[(0,Vi day),(2,Vi y)]/\c=h/\(1<=y/\y<=10001)/\y=a,
   ⟨_,_,CG (l:=[(0,_),(2,Vi (((day-1)*400/146097+1).toNat:Nat))]) ⟨B,Cs (λz=>I (Vi z)) (by omega),trivial⟩,G,_,B,B,G,B⟩,?_⟩
  rintro a A h ⟨y,rfl,rfl,k,rfl⟩ i;refine GZ (Aqw b G d G) ?_;have n:stY y=365*((y:Int)-1)+((y:Int)-1)/4-((y:Int)-1)/100+((y:Int)-1)/400:=rfl;apply Bz<;>intro j
  .exact⟨Pq,_,_,CG (l:=[(0,_),(2,Vi ((y-1:Nat):Int))]) ⟨B,Cs (λz=>I (Vi z)) (by omega),trivial⟩,(show y-1<y by omega),_,B,B,G,B⟩
  refine⟨λa A c=>∃y:Nat,A=[(0,Vi day),(2,Vi y)]/\c=h/\(1<=y/\stY y<day)/\a=10000-y,
   ⟨_,_,Sq,G,y,B,B,G,B⟩,?_⟩
  rintro a A h ⟨y,rfl,rfl,⟨k,t⟩,rfl⟩ i;have n:stY y=365*((y:Int)-1)+((y:Int)-1)/4-((y:Int)-1)/100+((y:Int)-1)/400:=rfl;refine⟨Pq,GZ (Aqw b G d G) ?_⟩;have u:stY ((y:Int)+1)=365*((y:Int)+1-1)+((y:Int)+1-1)/4-((y:Int)+1-1)/100+((y:Int)+1-1)/400:=rfl;apply Bz<;>intro j
  .exact⟨Pq,_,_,Sq,(show 10000-(y+1)<10000-y by omega),_,B,B,⟨by omega,by rw[show((y+1:Nat):Int)=(y:Int)+1 by omega];exact j⟩,B⟩
  refine GZ (Aqw b G d G) ?_;refine⟨Pq,?_⟩;obtain⟨r,o⟩:∃r:Int,r=day-stY y:=⟨_,B⟩;rw[←o];refine⟨λa A c=>∃m:Nat,A=[(2,Vi y),(3,Vi m),(6,Vi r)]/\c=h/\(1<=m/\m<=12)/\m=a,
   ⟨_,_,Sq,G,12,B,B,by decide,B⟩,?_⟩
  rintro a A h ⟨m,rfl,rfl,p,rfl⟩ i;have hb:=Aap (y:=y) (m:=m) G;refine GZ (Avv b G G d G) ?_;apply Bz<;>intro v
  .have h1:¬(m:Int)=1:=λe=>by have:=hb.2.2 e;omega
   exact⟨Pq,_,_,CG (l:=[(2,_),(3,Vi ((m-1:Nat):Int)),(6,_)]) ⟨B,Cs (λz=>I (Vi z)) (by omega),B,trivial⟩,(show m-1<m by omega),_,B,B,G,B⟩
  refine GZ (Avv b G G d G) ?_;refine⟨Pq,.inr ⟨G,y,m,(r-bfY y m).toNat,?_,Jq,p,G,G⟩,B⟩;rw[UQ G];rfl
end
open Go Go.Proofs Tryz
section
variable {h J h0 h1 H:Y} {v fv nv pv cv ev lv u v':Aa} {xs args vs ys:AH} {n b N i k e r j x m c q d a p t2 st sb mo ck lp rm b0 sz off:Nat} {t:Ai} {f:Au} {fn:BC} {s:Bd} {bs:Bl} {ws:Bo} {W:Nat->Prop} {Q:Aa->Y->Prop} {A:Option BD} {z df day:Int} {ss:BZ} {τ:Bb}
variable{S:A9} {L:Nat}
def wkV:AH:=[.int .i32 26085,.int .i32 26376,.int .i32 28779,.int .i32 27700,.int .i32 26408,.int .i32 37329,.int .i32 22303]
def wkB (h:Y):Bs Ax 176 7 [(0,.int .i32 26085),(1,.int .i32 26376),(2,.int .i32 28779),(3,.int .i32 27700),(4,.int .i32 26408),(5,.int .i32 37329),(6,.int .i32 22303)] h=I (sL h.nx 7 7,BN h 21 wkV):=Kq
def Arr:∀i:Nat,i<7->∃z,wkV[i]?=I (.int .i32 z)
 |0,_|1,_|2,_|3,_|4,_|5,_|6,_=>⟨_,B⟩
def ABa (c:Base S L):Bk S L 1 153 [Vi day] h λw J=>AA h J/\∃(t:Bd) (b:Bool),w=.tuple #[.string t,.bool b]/\t.size<=4:=
 Cn f153 c λd g _=>by
  refine Ad (λa=>⟨AA.refl h,_,_,B,by decide⟩) (λa=>Ad (λe=>⟨AA.refl h,_,_,B,by decide⟩) (λe=>?_));have a:=KK a;obtain⟨z,f⟩:=Arr (day%7).toNat G;refine⟨_,_,wkB h,⟨G,by decide⟩,G,_,Dz (ld B ((Own.row h 21 wkV).cell f)) (by show 0+(day%7).toNat*1=_;omega),_,B,AA.row h 21 wkV,_,_,B,Nz _⟩
structure Avk where
 nm:Bd
 y:Int
 m:Int
 d:Int
def Acp (e:Avk):AH:=[.string e.nm,.int .i64 e.y,.int .i64 e.m,.int .i64 e.d]
def Ayf (e:Avk):Prop:=e.nm.size<=10/\1<=e.y/\e.y<=3000
def Azf (w:Aa):Prop:=∃cs,w=.agg cs/\∀k:Nat,k<5->∃e,Ayf e/\I8 Ax 346 (.agg cs) (.int .i64 k)=I (.agg ⟨Acp e⟩)
def Own.cA {t:Nat} (a:ZX τ t k=Ag) {e:Ai} (o:Own h b e xs) (c:vs.length=k) (d:i+k<=xs.length) (h1:vs.all one=Ag) {K:Y->Prop} (H:∀J,Own J b e (I2 xs i vs)->Er b h J->K J):
 ∃J,BA τ t h b i (.agg ⟨vs⟩)=I J/\K J:=by
 obtain⟨J,f,o',u⟩:=o.bD a c d h1;exact⟨J,f,H J o' u⟩
def AEp (a:Base S L):Bk S L 1 225 [] h λw J=>AA h J/\Azf w:=
 Cn f225 a λd f _=>by
  obtain⟨g,y,s⟩:=(Sep.nil h).al (z:=.agg ⟨(AE 5 (Acp ⟨⟨#[]⟩,0,0,0⟩)).flatten⟩) Kq;refine⟨_,_,y _,(s.dD (i:=0) B).cA Kq B Jq B λj b c=>?_⟩;refine⟨_,EQ Kq b.cells B,s.e.ah c Jq,_,B,λk l=>?_⟩;rcases k with _|_|_|_|_|k
  all_goals first
   |exact⟨⟨_,_,_,_⟩,⟨by decide,by decide,by decide⟩,rfl⟩
   |omega
def Awx (w:Aa):Prop:=∃(t:Bd) (z:Nat) (b:Bool),w=.tuple #[.string t,.int .i64 z,.bool b]/\t.size<=10/\(b=Ag->z<=9999)
def AGk (b:Base S L):Bk S L 4 156 [Vi day] h λw J=>AA h J/\Awx w:=
 Cn f156 b λd O P=>by
  refine⟨_,Auk b d G,?_⟩;rintro _ h ⟨rfl|⟨_,y,m,f,rfl,Q,R,T⟩,rfl⟩
  .exact⟨_,_,B,AA.refl _,_,0,_,B,by decide,λh=>by cases h⟩
  refine⟨_,_,B,_,AEp b d G,?_⟩;rintro _ h1 ⟨C,cs,rfl,D⟩;refine⟨λl A a=>∃k:Nat,A=[(5,Vi y),(6,Vi m),(7,Vi f),(19,.agg cs),(20,Vi k)]/\k<=5/\l=5-k/\AA h a,
   ⟨_,_,Sq,G,0,B,Al _,B,C⟩,?_⟩
  rintro l A a ⟨k,rfl,V,rfl,n⟩ W;refine Ad (λg=>?_) (λg=>⟨n,_,0,_,B,by decide,λh=>by cases h⟩);have g:=Fp g;obtain⟨e,⟨E,X,e3⟩,U⟩:=D k G;obtain⟨g1,F,j,H,o⟩:=(Sep.nil a).var (t:=345) (z:=.agg ⟨Acp ⟨⟨#[]⟩,0,0,0⟩⟩) Kq (v:=.agg ⟨Acp e⟩) B B B;have p:=n.trans o.e;have c:∀(i:Nat) v,(Acp e)[i]?=I v->Cell j a.nx i v:=λi v U=>(o.dD (i:=0) B).cell U;have c1:=c 1 _ B;have q:=c 2 _ B;have r:e.y<=y->AA h j/\Awx (.tuple #[.string e.nm,Vi ((y:Int)-e.y+1),.bool Ag]):=λh=>⟨p,_,((y:Int)-e.y+1).toNat,_,by rw[UQ G],E,λ_=>G⟩;refine⟨_,U,_,_,F _,_,H,_,ld B c1,Ad (λs=>?_) (λs=>⟨_,ld B c1,Ad (λu=>⟨_,ld B q,Ad (λK=>?_) (λK=>⟨_,ld B q,Ad (λM=>⟨_,ld B (c 3 _ B),Ad (λk6=>?_) (λk6=>?_)⟩) (λM=>?_)⟩)⟩) (λu=>?_)⟩)⟩
  all_goals first
   |exact⟨Pq,(λN=>⟨_,_,N,(show 5-(k+1)<5-k by omega),k+1,B,G,B,p⟩:∀{A:As},Sub [(5,Vi y),(6,Vi m),(7,Vi f),(19,.agg cs),(20,Vi ((k+1:Nat):Int))] A->∃m' x,Sub x A/\m'<5-k/\∃k:Nat,x=[(5,Vi y),(6,Vi m),(7,Vi f),(19,.agg cs),(20,Vi k)]/\k<=5/\m'=5-k/\AA h j) (Sq)⟩
   |exact⟨[],Kq,_,ld rfl (c 0 _ rfl),_,ld rfl c1,Pq,Pq,r (by have:=Fp s;omega)⟩
   |exact⟨[],Jq,_,ld rfl (c 0 _ rfl),_,ld rfl c1,Pq,Pq,r (by have:=Fp u;omega)⟩
def pfx (s t:Bd):Bool:=if t.size<=s.size then Gp ((s.data.toList.drop 0).take (t.size-0)) t.data.toList else Ah
def Ads (a:Base S L) {t:Bd}:Bk S L 2 130 [Sg s,Sg t] h λw J=>J=h/\w=.bool (pfx s t):=
 Cn f130 a λd b _=>by
  have c:Bk S L 1 207 [Sg s,Sg t] h λw J=>J=h/\w=.bool (pfx s t):=Cn f207 a λd b _=>by
   apply Bz<;>intro e
   .exact⟨_,_,Cs (CN _) (slS G),_,B,B,by unfold pfx;rw[Bi G];rfl⟩
   .exact⟨B,by unfold pfx;rw[Bm G];rfl⟩
  exact⟨_,c d G,λ_ _ h=>h⟩
def AEq (a:Base S L) {n:Int} (b:n=2\/n=3):Bk S L 1 335 [.int .u64 1,.int .u64 n] h λw J=>J=h/\w=.tuple #[.int .u64 0,.int .u64 n]:=by
 rcases b with rfl|rfl
 all_goals exact Co f335 a λd c=>Jq
def ADn (a:Base S L) {n:Int} (i:0<=n/\n<=3):Bk S L 4 224 [Sg ⟨#[48]⟩,Vi n] h λw J=>J=h/\∃t:Bd,w=.string t/\t.size<=10:=by
 have e:n=2\/n=3->Bk S L 4 224 [Sg ⟨#[48]⟩,Vi n] h λw J=>J=h/\∃t:Bd,w=.string t/\t.size<=10:=λf=>Co f224 a λd b=>by
  have g:Bk S L 2 290 [.int .u64 1,.int .u64 n] h λw J=>J=h/\w=.tuple #[.int .u64 0,.int .u64 n]:=Co f290 a λd b=>by
   refine⟨Dc B,_,AEq a f d G,?_⟩;rintro _ h ⟨rfl,rfl⟩;exact⟨B,B⟩
  refine⟨Dc B,?_⟩;rcases f with rfl|rfl
  all_goals
   refine⟨_,.inl ⟨⟨by decide,by decide⟩,B⟩,_,.inl ⟨⟨by decide,by decide⟩,B⟩,_,g d G,?_⟩;rintro _ h ⟨rfl,rfl⟩;refine⟨_,.inl ⟨⟨by decide,by decide⟩,B⟩,⟨by decide,by decide⟩,_,Ads a d G,?_⟩;rintro _ h ⟨rfl,rfl⟩;refine cl (Ads a) ?_;rintro _ h ⟨rfl,rfl⟩;refine cl (Ads a) ?_;rintro _ h ⟨rfl,rfl⟩;exact⟨_,_,B,B,_,B,by decide⟩
 rcases(show n=0\/n=1\/n=2\/n=3 by omega) with rfl|rfl|c|c
 .exact Co f224 a λd b=>⟨Dc B,B,_,B,by decide⟩
 .exact Co f224 a λd b=>⟨Dc B,B,_,B,by decide⟩
 .exact e (.inl c)
 .exact e (.inr c)
def AGp (b:Base S L) (q:Jx h) (c:x<=9999) {n:Int} (g:0<=n/\n<=4):Bk S L 6 155 [Vi x,Vi n] h λw J=>AA h J/\∃t:Bd,w=.string t/\t.size<=20:=
 Cn f155 b λd i _=>by
  refine cl (Aps b q c) ?_;rintro _ h1 ⟨e,ds,rfl,j,k⟩;have a:(EY ds).size=ds.length:=rfl;refine⟨⟨by rw[a];omega,by rw[a];omega⟩,λz f=>?_⟩;rw[a] at f;refine cl (ADn b G) ?_;rintro _ l ⟨rfl,t,rfl,m⟩;exact⟨Sg (t++EY ds),ZS _ _ (by rw[a];omega),e,_,B,by rw[KF,a];omega⟩
end
section
variable{S:A9} {L:Nat}
section
variable {h J h0 h1 H:Y} {v fv nv pv cv ev lv u v':Aa} {xs args vs ys:AH} {n b N i k r j x m c q d a p t2 st sb mo ck lp rm b0 sz off:Nat} {t:Ai} {f:Au} {fn:BC} {s:Bd} {bs:Bl} {ws:Bo} {W:Nat->Prop} {Q:Aa->Y->Prop} {A:Option BD} {z df day:Int} {ss:BZ} {τ:Bb}
def AGn (h0:Y) (b:Nat) (v:Aa) (ss:BZ):List Ct:=[aO b 55 [v],aS h0.nx 9 1 v ss.length (AR ss)]
def MP (h0 h:Y) (b m:Nat):Prop:=∃(v:Aa) (ss:BZ),ss.length<=m/\Sep h0 h (AGn h0 b v ss)
def MP.ext {h0 h J:Y} {b m:Nat} (o:MP h0 h b m) (x:AA h J):MP h0 J b m:=by
 obtain⟨v,ss,h1,s⟩:=o;exact⟨v,ss,h1,s.ext x⟩
def MP.e {h0 h:Y} {b m:Nat} (o:MP h0 h b m):AA h0 h:=by
 obtain⟨v,ss,h1,s⟩:=o;exact s.e
def Xn (a:Base S L) {h0 h:Y} {b m n:Nat} (o:MP h0 h b m) {ps:BZ} (A:m<=100) (q:ps.length=n) (r:ps.length<=100) (u:∀s∈ps,s.size<=10000):Bk S L 6 151 [sL h.nx n n,AG b 0] (BN h 9 (AR ps)) λ_ J=>MP h0 J b (m+1):=
 Cn f151 a λd C _=>by
  subst q;obtain⟨v,ss,h1,s⟩:=o;have w:=AA.row h 9 (AR ps);have c:=s.ext w;have x:Rd (BN h 9 (AR ps)).ad (sL h.nx ps.length ps.length) 1 ps.length (AR ps):=(Own.dB (k:=1) (Own.row h 9 (AR ps)) (by rw[CM];omega)).ext (AA.ad _);refine⟨[],Kq,_,ld B ((c.dD (i:=0) B).cell (i:=0) B),_,Avc a x r u (by decide) d G,?_⟩;rintro _ D ⟨f,t,rfl⟩;have g:=c.bz f;obtain⟨E,y,l,F,t3,p,H⟩:=g.bo (st:=55) (t2:=55) (e:=9) (k:=1) Kq (i:=1) B (ys:=[Sg t]) B B g.e.nx G (n':=(ss++[t]).length) (xs':=AR (ss++[t])) (by simp) (by simp[AR]);obtain⟨K,t4,z⟩:=p.stM (t:=55) B (i:=0) B (j:=0) (v:=l) (by show 0<1;decide) (D5 (p.sl (i:=1) B));subst y;exact⟨f.ag,_,_,Iv (τ:=Ax) (t:=55) (e:=9) (k:=1) Kq (Sg t) B B (by decide) _,_,_,t3,_,t4,l,ss++[t],by simp;omega,z⟩
def AAr (a:Base S L) {h:Y} (q:Jx h) (e:Mo h) {x:Nat} (f:x<=9999):Bk S L 8 157 [Vi x] h λw J=>AA h J/\∃t:Bd,w=.string t/\t.size<=10000:=
 Cn f157 a λd k _=>by
  refine cl (Aps a q f) ?_;rintro _ h1 ⟨c,ds,rfl,g,_⟩;refine cl (Aop a (e.ext c) g) ?_;rintro _ l ⟨i,t,b,rfl,j⟩;exact⟨c.trans i,t,B,j⟩
def Avg (a:Bd) (h:Y):Bs Ax 55 1 [(0,Sg a)] h=I (sL h.nx 1 1,BN h 9 (AR [a])):=Kq
def Aur (a b c:Bd) (h:Y):Bs Ax 55 3 [(0,Sg a),(1,Sg b),(2,Sg c)] h=I (sL h.nx 3 3,BN h 9 (AR [a,b,c])):=Kq
def Awt (a b c d:Bd) (h:Y):Bs Ax 55 4 [(0,Sg a),(1,Sg b),(2,Sg c),(3,Sg d)] h=I (sL h.nx 4 4,BN h 9 (AR [a,b,c,d])):=Kq
def ABb (a b c d e:Bd) (h:Y):Bs Ax 55 5 [(0,Sg a),(1,Sg b),(2,Sg c),(3,Sg d),(4,Sg e)] h=I (sL h.nx 5 5,BN h 9 (AR [a,b,c,d,e])):=Kq
def AAf (a b c d e f:Bd) (h:Y):Bs Ax 55 6 [(0,Sg a),(1,Sg b),(2,Sg c),(3,Sg d),(4,Sg e),(5,Sg f)] h=I (sL h.nx 6 6,BN h 9 (AR [a,b,c,d,e,f])):=Kq
def ABx (a b c d e f g:Bd) (h:Y):Bs Ax 55 7 [(0,Sg a),(1,Sg b),(2,Sg c),(3,Sg d),(4,Sg e),(5,Sg f),(6,Sg g)] h=I (sL h.nx 7 7,BN h 9 (AR [a,b,c,d,e,f,g])):=Kq
end
end
section
variable {h J h0 h1 H:Y} {v fv nv pv cv ev lv u v':Aa} {xs args vs ys:AH} {n b N i k e r j x m c q d a p t2 st sb mo ck lp rm b0 sz off:Nat} {t:Ai} {f:Au} {fn:BC} {s:Bd} {bs:Bl} {ws:Bo} {W:Nat->Prop} {Q:Aa->Y->Prop} {A:Option BD} {z df day:Int} {ss:BZ} {τ:Bb}
variable{S:A9} {L:Nat}
def MP.start (h:Y):∃g,(∀A,D9 Ax A h (.alloc 55)=I (AG h.nx 0,g))/\MP h g h.nx 0:=by
 obtain⟨g,y,s⟩:=(Sep.nil h).al (z:=sN) Kq;exact⟨g,y,_,[],Ae _,(s.add (a:=aS h.nx 9 1 (sN) 0 (AR [])) (AA.refl g) (AS.nil _ _ _ _) λi U=>U.elim).perm (List.Perm.swap ..)⟩
def MP.le (o:MP h0 h b m) (a:m<=n):MP h0 h b n:=by
 obtain⟨v,ss,h1,s⟩:=o;exact⟨v,ss,G,s⟩
def ZI:∀s∈([]:BZ),s.size<=N:=λ_ h=>by cases h
def Nc {a:Bd} {l:BZ} (h:a.size<=N) (t:∀s∈l,s.size<=N):∀s∈a::l,s.size<=N:=λs b=>(List.mem_cons.1 b).elim Jq (t s)
def szA {a b:Bd} (h1:a.size<=m) (c:b.size<=n) (h:m+n<=k):(a++b).size<=k:=by rw[KF];omega
def shS (a b:Bd):Bd:=((a++⟨#[230,156,136]⟩)++b)++⟨#[230,151,165]⟩
def Ard {a b:Bd} (h1:a.size<=4) (c:b.size<=4):(shS a b).size<=100:=szA (m:=20) (n:=3) (szA (m:=10) (szA (n:=3) h1 (by decide) Jq) c Jq) (by decide) (by decide)
def J63 (h:Y) (A:As) (c:Y):Prop:=∃(m d b:Nat) (a:Bd),A=[(4,.int .i64 m),(5,.int .i64 d),(7,AG b 0),(8,.func (.func 151) #[] #[AG b 0]),(11,.string a)]/\m<=12/\d<=400/\a.size<=100/\MP h c b 12
def c63 (a:Base S L) (q:Jx h) (aa:Mo h):Bk S L 9 63 [Vi day] h λw J=>AA h J/\Pb h J 14 w:=
 Nu (fn:=f63) a Kq B 11 (J63 h) λn ab=>by
  have hL:=a.aI;have c:∀{x:Nat} {H:Y},AA h H->x<=9999->Cd (B8 Ax S L n) (.func 154) [Vi x] H λw J=>∃t:Bd,w=.string t/\t.size<=4/\AA H J:=λx p=>((Aps a (q.ext x) p).mono λ_ _ ⟨f,ds,e,_,_,j⟩=>⟨_,e,j,f⟩) n G;have u:∀{x:Nat} {z:Int} {H:Y},AA h H->x<=9999->0<=z/\z<=4->Cd (B8 Ax S L n) (.func 155) [Vi x,Vi z] H λw J=>∃t:Bd,w=.string t/\t.size<=20/\AA H J:=λx p l=>((AGp a (q.ext x) p l).mono λ_ _ ⟨f,t,e,j⟩=>⟨t,e,j,f⟩) n G;have C:∀{x:Nat} {H:Y},AA h H->x<=9999->Cd (B8 Ax S L n) (.func 157) [Vi x] H λw J=>∃t:Bd,w=.string t/\t.size<=10000/\AA H J:=λx p=>((AAr a (q.ext x) (aa.ext x) p).mono λ_ _ ⟨f,t,e,j⟩=>⟨t,e,j,f⟩) n G;refine⟨Dc B,?_,?_⟩
  .refine⟨_,Auk a n G,?_⟩
   rintro _ h ⟨rfl|⟨_,y,m,d,rfl,hy,hm,hd⟩,rfl⟩
   .exact⟨_,_,B,AA.refl _,[],AS.nil _ _ _ _,by decide⟩
   obtain⟨g,M,o⟩:=MP.start h;obtain⟨b,hb⟩:∃b,b=h.nx:=⟨_,B⟩;rw[←hb] at M o;refine⟨_,_,B,_,_,M _,_,ABa a n G,?_⟩;rintro _ h1 ⟨x1,w,bw,rfl,hw⟩;have o:=o.ext x1;refine⟨_,c o.e G,?_⟩;rintro _ h2 ⟨t1,rfl,l1,f⟩;have o:=o.ext f;refine⟨_,ZS _ _ (by have:K2 ⟨#[230,156,136]⟩=3:=rfl;omega),_,c o.e G,?_⟩;rintro _ h3 ⟨t2,rfl,l2,x3⟩;have o:=o.ext x3;have N:=Ard l1 l2;have y3:K2 ⟨#[230,156,136]⟩=3:=rfl;have y4:K2 ⟨#[230,151,165]⟩=3:=rfl;refine⟨_,ZS _ _ Jq,_,ZS _ _ Jq,_,c o.e G,?_⟩;rintro _ h4 ⟨t3,rfl,l3,x4⟩;have o:=o.ext x4;refine⟨_,_,Aur _ _ _ _,_,Xn a o Jq (ps:=[t3,_,shS t1 t2]) B Jq (Nc G (Nc (by decide) (Nc G ZI))) n G,?_⟩;rintro _ h5 o;refine⟨_,c o.e G,?_⟩;rintro _ h6 ⟨t4,rfl,l4,x6⟩;have o:=o.ext x6;refine⟨_,_,AAf _ _ _ _ _ _ _,_,Xn a o Jq (ps:=[t4,_,shS t1 t2,_,w,_]) B (Ac B) (Nc G (Nc (by decide) (Nc G (Nc (by decide) (Nc G (Nc (by decide) ZI)))))) n G,?_⟩;rintro _ h7 o;refine⟨λO A D=>∃k:Nat,A=[(0,Vi day),(3,Vi y),(4,Vi m),(5,Vi d),(7,AG b 0),(8,.func (.func 151) #[] #[AG b 0]),(11,Sg (shS t1 t2)),(55,.agg ⟨[Sg ⟨#[47]⟩,Sg ⟨#[45]⟩]⟩),(56,Vi k)]/\k<=2/\O=2-k/\MP h D b (2+k),
    ⟨_,_,Sq,G,0,B,Al _,B,o⟩,?_⟩
   rintro O A D ⟨k,rfl,hk,rfl,o⟩ ad;apply Bz<;>intro k1
   .obtain⟨E,ae,U⟩:∃E:Bd,E.size<=4/\I8 Ax 255 (.agg ⟨[Sg ⟨#[47]⟩,Sg ⟨#[45]⟩]⟩) (Vi k)=I (Sg E):=by
     rcases k with _|_|k
     .exact⟨_,by decide,B⟩
     .exact⟨_,by decide,B⟩
     .omega
    refine⟨_,U,_,u o.e G (by decide),?_⟩;rintro _ P ⟨u1,rfl,m1,F⟩;have o:=o.ext F;refine⟨_,u o.e G (by decide),?_⟩;rintro _ Q ⟨R,rfl,T,r⟩;have o:=o.ext r;refine⟨_,u o.e G (by decide),?_⟩;rintro _ V ⟨u3,rfl,m3,K⟩;have o:=o.ext K;refine⟨_,_,ABb _ _ _ _ _ _,_,Xn a o G B (Ac B) (Nc G (Nc G (Nc G (Nc G (Nc G ZI))))) n G,?_⟩;rintro _ W o;exact⟨Pq,_,_,Sq,(G:2-(k+1)<_),k+1,B,G,B,o.le G⟩
   .refine⟨_,AGk a n G,?_⟩
    rintro _ h9 ⟨x9,nm,z,bb,rfl,af,l⟩;have o:=(o.ext x9).le (n:=4) G;refine Ad (λX=>?_) (λX=>⟨_,Sq,m,d,b,shS t1 t2,B,G,G,N,o.le G⟩);have l:=l X;refine⟨_,c o.e l,?_⟩;rintro _ P ⟨u1,rfl,m1,F⟩;have o:=o.ext F;refine⟨_,C o.e l,?_⟩;rintro _ Q ⟨R,rfl,T,r⟩;have o:=o.ext r;apply Ad<;>intro k3
    all_goals
     refine⟨_,_,Awt _ _ _ _ _,_,Xn a o G B (Ac B) (Nc G (Nc (by first|decide|omega) (Nc (by decide) (Nc G ZI)))) n G,?_⟩
     rintro _ V o;refine⟨_,C o.e G,?_⟩;rintro _ W ⟨u4,rfl,m4,z4⟩;have o:=o.ext z4;refine⟨_,C o.e G,?_⟩;rintro _ g5 ⟨u5,rfl,m5,z5⟩;have o:=o.ext z5;refine⟨_,_,ABx _ _ _ _ _ _ _ _,_,Xn a o G B (Ac B) (Nc G (Nc (by first|decide|omega) (Nc (by decide) (Nc G (Nc (by decide) (Nc G (Nc (by decide) ZI))))))) n G,?_⟩
     rintro _ g6 o;exact⟨_,Sq,m,d,b,shS t1 t2,B,G,G,N,o.le G⟩
  .rintro A D ⟨m,d,b,sh,rfl,hm,hd,hs,o⟩
   refine⟨_,_,Avg _ _,_,Xn a o G B (Ac B) (Nc G ZI) n G,?_⟩;rintro _ P o;refine⟨_,c o.e G,?_⟩;rintro _ Q ⟨R,rfl,T,r⟩;have o:=o.ext r;refine⟨_,c o.e G,?_⟩;rintro _ V ⟨u3,rfl,m3,K⟩;refine⟨_,_,Aur _ _ _ _,_,Xn a (o.ext K) G B (Ac B) (Nc G (Nc (by decide) (Nc G ZI))) n G,?_⟩;rintro _ W ⟨v,ss,j,s⟩;exact⟨_,ld B ((s.dD (i:=0) B).cell B),s.e,ss,s.sl (i:=1) B,G⟩
def TT (R:Aa->Prop) (n:Nat) (cs:AH):Prop:=cs.length=n*2/\cs.all one=Ag/\∀i,i<n->∃(a:Bd) (u:Aa),R u/\(cs.drop (i*2)).take 2=[.string a,u]
def Awy (u:Aa):Prop:=∃z:Int,u=.int .i64 z/\-2<=z/\z<=2
def Apu (u:Aa):Prop:=∃s:Bd,u=.string s/\s.size<=41
def cs0 (n:Nat) (z:Aa):AH:=(AE n [Value.string ⟨#[]⟩,z]).flatten
def c60 (a:Base S L):Bk S L 1 60 [] h λw J=>AA h J/\∃cs,w=.agg ⟨cs⟩/\TT Awy 6 cs:=
 Cn f60 a λd f _=>by
  obtain⟨g,y,s⟩:=(Sep.nil h).al (z:=.agg ⟨cs0 6 (Vi 0)⟩) Kq;refine⟨_,_,y _,(s.dD (i:=0) B).cA Kq B Jq B λj b c=>?_⟩;refine⟨_,EQ Kq b.cells B,s.e.ah c Jq,_,B,B,B,λi U=>?_⟩;rcases i with _|_|_|_|_|_|i
  all_goals first
   |exact⟨_,_,⟨_,rfl,by decide,by decide⟩,rfl⟩
   |omega
def c61 (a:Base S L):Bk S L 1 61 [] h λw J=>AA h J/\∃cs,w=.agg ⟨cs⟩/\TT Apu 12 cs:=
 Cn f61 a λd f _=>by
  obtain⟨g,y,s⟩:=(Sep.nil h).al (z:=.agg ⟨cs0 12 (Sg ⟨#[]⟩)⟩) Kq;refine⟨_,_,y _,(s.dD (i:=0) B).cA Kq B Jq B λj b c=>?_⟩;refine⟨_,EQ Kq b.cells B,s.e.ah c Jq,_,B,B,B,λi U=>?_⟩;rcases i with _|_|_|_|_|_|_|_|_|_|_|_|i
  all_goals first
   |exact⟨_,_,⟨_,rfl,by decide⟩,rfl⟩
   |omega
def AAz (i:Base S L) {a:Bd} (m:one u=Ag) (c:Cell h b 0 (Sg s)) {f:Nat} (j:f=149/\fn=f149\/f=159/\fn=f159):Bk S L 1 f [.agg ⟨[Sg a,u]⟩,AG b 0] h λw J=>AA h J/\∃b,w=.bool b:=by
 rcases j with⟨rfl,rfl⟩|⟨rfl,rfl⟩
 .refine Co f149 i λd k=>?_
  obtain⟨h1,b1,e,g,l⟩:=H1 Ax 145 (.agg ⟨[Sg a,u]⟩) h;exact⟨Dc B,_,_,b1,_,ld B ((g:Own h1 h.nx 145 [Sg a,u]).cell B),_,ld B (c.ext e),_,B,e,_,B⟩
 .refine Co f159 i λd k=>?_
  obtain⟨h1,b1,e,g,l⟩:=H1 Ax 149 (.agg ⟨[Sg a,u]⟩) h;exact⟨Dc B,_,_,b1,_,ld B ((g:Own h1 h.nx 149 [Sg a,u]).cell B),_,ld B (c.ext e),_,B,e,_,B⟩
def Aws (j:Base S L) (r:Rd h v 2 n xs) (H:n<=100000000) {P:AH->Prop} (p:Aee S L e fv h P) (q:∀i,i<n->P ((xs.drop (i*2)).take 2))
 {f:Nat} (h1:Ax.fn.get f=I fn) (l:Nf.contains f=Ah) (s:fn=f148\/fn=f158):Bk S L (e+1) f [v,fv] h λw J=>AA h J/\∃z:Int,w=Vi z/\-1<=z/\z<n:=by
 have K:=j.aI;obtain⟨g,first,cap,rfl,t⟩:=p
 have u:=r;obtain⟨y,C,D,rfl,M,N,O⟩:=r;rcases s with rfl|rfl
 all_goals
  refine Fm j h1 l λd Q=>?_;refine⟨Dc B,λm A a=>∃k:Nat,A=[(0,.slice C n D),(1,.func (.func g) first cap),(7,Vi n),(8,Vi k)]/\k<=n/\m=n-k/\AA h a,
   ⟨_,_,Sq,G,0,B,Al _,B,AA.refl _⟩,?_⟩
  rintro m A a ⟨k,rfl,R,rfl,x⟩ T;refine Ad (λc=>?_) (λc=>⟨x,-1,B,G,G⟩);have c:=Fp c;obtain⟨a1,V,E,_,W⟩:=(u.ext x).el (show k<n by omega);cases E;refine⟨G,_,EQ Kq Jq (by rw[Cg,AV,y];omega:((xs.drop (k*2)).take 2).length=2),_,t _ a (q k G) x d G,?_⟩;rintro _ l ⟨o,b,rfl⟩;exact Ad (λF=>⟨x.trans o,k,B,G,G⟩) λF=>⟨Pq,_,_,Sq,G,k+1,B,G,B,x.trans o⟩
def Aoy (m:Base S L) {R:Aa->Prop} (r:Rd h v 2 n xs) (X:n<=100) (t:TT R n xs) (h1:∀u,R u->one u=Ag) {z:Aa} (F:R z)
 {f:Nat} (N:f=62/\fn=f62/\z=Vi 0\/f=64/\fn=f64/\z=.string ⟨#[]⟩):Bk S L 3 f [v,Sg s] h λw J=>AA h J/\∃(u:Aa) (b:Bool),w=.tuple #[u,.bool b]/\R u:=by
 obtain⟨y,b1,o,O,n1⟩:=H1 Ax 9 (Sg s) h;obtain⟨P,c0,rfl⟩:∃A c,v=.slice A n c:=by obtain⟨_,A,c,e,_⟩:=r;exact⟨A,c,e⟩
 have C:=r.ext o;have H:∀{f:Nat} {fn:BC},(f=149/\fn=f149\/f=159/\fn=f159)->Aee S L 1 (.func (.func f) #[] #[AG h.nx 0]) y λxs=>∃(a:Bd) (u:Aa),R u/\xs=[Sg a,u]:=λQ=>⟨_,_,_,B,λxs J t x=>by
  obtain⟨a,u,j,rfl⟩:=t;exact AAz m (h1 u j) ((O.cell B:Cell y h.nx 0 (Sg s)).ext x) Q⟩
 have D:∀i,i<n->∃(a:Bd) (u:Aa),R u/\(xs.drop (i*2)).take 2=[Sg a,u]:=λi U=>t.2.2 i U;have cl:∀{q:Y} {k:Nat},AA y q->k<n->∃p u,P=I p/\R u/\Cell q p.block (p.off+k*2+1) u:=λg K=>by
  obtain⟨a1,y1,T,_,M⟩:=(C.ext g).el K;cases T;obtain⟨a,u,j,e⟩:=D _ K;rw[e] at M;exact⟨a1,u,B,j,M.at B⟩
 rcases N with⟨rfl,rfl,rfl⟩|⟨rfl,rfl,rfl⟩
 .refine Co f62 m λd V=>⟨Dc B,_,_,b1,_,Aws m C G (H (.inl ⟨B,B⟩)) D Kq B (.inl B) d G,?_⟩
  rintro _ q ⟨g,z,rfl,W,E⟩;refine Ad (λl=>⟨o.trans g,_,_,B,F⟩) (λl=>?_);have l:=KK l;obtain⟨k,rfl⟩:=B9 (show 0<=z by omega);obtain⟨p,u,rfl,j,c⟩:=cl g (k:=k) G;exact⟨⟨G,E⟩,_,ld B c,o.trans g,_,_,B,j⟩
 .refine Co f64 m λd V=>⟨Dc B,_,_,b1,_,Aws m C G (H (.inr ⟨B,B⟩)) D Kq B (.inr B) d G,?_⟩
  rintro _ q ⟨g,z,rfl,W,E⟩;refine Ad (λl=>⟨o.trans g,_,_,B,F⟩) (λl=>?_);have l:=KK l;obtain⟨k,rfl⟩:=B9 (show 0<=z by omega);obtain⟨p,u,rfl,j,c⟩:=cl g (k:=k) G;exact⟨⟨G,E⟩,_,ld B c,o.trans g,_,_,B,j⟩
def OD (p:UInt8->Bool):∀(l:Bl) (n:Nat),l.foldl (λn x=>if p x then n+1 else n) n<=n+l.length
 |[],n=>Ae _
 |
  b::l,n=>by
  rw[F7,AO];cases p b
  .exact Ao (OD p l n) G
  .exact Ao (OD p l (n+1)) G
def ABq (a:Base S L) (b:s.size<=1000):Bk S L 2 227 [Sg s,Sg ⟨#[32]⟩] h λw J=>J=h/\∃n:Nat,w=Vi n/\n<=1000:=
 Cn f227 a λd c _=>by
  refine⟨Jq,_,NA a (e:=.count) (fn:=f292) Kq B Kq B B d G,?_⟩;rintro _ h ⟨rfl,rfl⟩;refine⟨B,_,B,?_⟩;have:=OD (λx=>x==UInt8.ofNat (32:Int).toNat) s.data.toList 0;have e:s.data.toList.length=s.size:=rfl;exact Ao this G
def ADm (a:Base S L) (l:s.size<=1000):Bk S L 4 228 [Sg s,Sg ⟨#[32]⟩] h λw J=>J=h/\∃z:Int,w=Vi z/\(z=-1\/0<=z/\z<s.size):=
 Cn f228 a λd f _=>by
  have g:∀{b:UInt8},Bk S L 2 336 [Sg s,.int .u8 b.toNat] h λw J=>J=h/\∃z:Int,w=Vi z/\(z=-1\/0<=z/\z<s.size):=λ{b}=>Cn f336 a λd f _=>by
   have e:R6 Ax .indexByte [Sg s,.int .u8 b.toNat] h=(match s.data.toList.findIdx? (·==UInt8.ofNat (b.toNat:Int).toNat) with|some i=>I (Vi (AQ i),h)|none=>I (Vi (-1),h)):=rfl
   cases c:s.data.toList.findIdx? (·==UInt8.ofNat (b.toNat:Int).toNat) with
   |
    none=>
    rw[c] at e;refine⟨_,NA a (fn:=f357) Kq B Kq B e d G,?_⟩;rintro _ h ⟨rfl,rfl⟩;exact⟨B,_,B,.inl B⟩
   |
    some i=>
    rw[c] at e;refine⟨_,NA a (fn:=f357) Kq B Kq B e d G,?_⟩;rintro _ h ⟨rfl,rfl⟩;have U:i<s.size:=(List.findIdx?_eq_some_iff_getElem.1 c).1;exact⟨B,_,B,.inr ⟨Int.natCast_nonneg i,by show(i:Int)<_;omega⟩⟩
  have j:Bk S L 3 293 [Sg s,Sg ⟨#[32]⟩] h λw J=>J=h/\∃z:Int,w=Vi z/\(z=-1\/0<=z/\z<s.size):=Cn f293 a λd f _=>by
   exact⟨_,B,Ad (λk=>⟨B,0,B,.inr ⟨by decide,by rw[←CJ.1 k];decide⟩⟩) (λ_=>⟨⟨by decide,by decide⟩,_,g d G,λ_ _ h=>h⟩)⟩
  exact⟨_,j d G,λ_ _ h=>h⟩
def Own.dc (o:Own h b e xs) (hb:N<=b) (d:xs.length=c) (a:n<=c):AS h N e 1 (sL b n c) n (xs.take n):=
 ⟨by rw[Cg];omega,.inr ⟨b,c,xs.drop n,B,hb,a,by rw[FO];omega,by rw[FO];exact o⟩⟩
def AAl (c:Base S L) (o:s.size<=1000):Bk S L 5 160 [Sg s,Sg ⟨#[32]⟩,Vi 0,Vi (-1)] h λw J=>AA h J/\Pb h J 1001 w:=
 Cn f160 c λd H K=>by
  have M:K2 ⟨#[32]⟩=1:=rfl;refine⟨_,B,_,ABq c o d G,?_⟩;rintro _ h ⟨rfl,n,rfl,N⟩;refine⟨Pq,Pq,λz r=>?_⟩;obtain⟨m,rfl⟩:=B9 (show 0<=z by omega);obtain⟨g,u,y,C,O⟩:=MA (τ:=Ax) (t:=55) (z:=.string ⟨#[]⟩) Kq Kq B m G .i64 .i64 h;have D:=(Sep.nil h).add (a:=aO h.nx 9 (AR (AE m ⟨#[]⟩))) y (by rw[AR,KD];exact C) λi U=>A2 U.symm;refine⟨_,_,u,Pq,λp A f=>∃(k:Nat) (t:Bd) (ss:BZ),A=[(0,Sg t),(1,Sg ⟨#[32]⟩),(2,Vi 0),(3,Vi ((m:Int)-1)),(9,sL h.nx m m),(10,Vi k)]/\t.size<=1000/\k+1<=m/\p=m-k/\ss.length=m/\Sep h f [aO h.nx 9 (AR ss)],
   ⟨_,_,Sq,G,0,s,_,B,o,G,B,List.length_replicate,D⟩,?_⟩
  rintro p A f ⟨k,t,ss,rfl,E,q,rfl,F,s⟩ P;have st:∀x:Bd,∃J,BA Ax 9 f h.nx (0+(k:Int).toNat*1) (Sg x)=I J/\Sep h J [aO h.nx 9 (AR (ss.set k x))]:=λx=>by
   obtain⟨J,e,b⟩:=s.st (t:=9) B (i:=0) B (j:=k) (by rw[CM];omega) (v:=.string x) B;refine⟨J,?_,?_⟩
   .rw[show 0+(k:Int).toNat*1=k by omega];exact e
   .have:AR (ss.set k x)=(AR ss).set k (Sg x):=Cp
    rw[this];exact b
  have Da:∀{J:Y},Sep h J [aO h.nx 9 (AR (ss.set k t))]->AA h J/\Pb h J 1001 (sL h.nx (k+1) m):=λ{J} b=>by
   have e:((ss.set k t).take (k+1)).length=k+1:=by rw[Cg,B4];omega
   refine⟨b.e,(ss.set k t).take (k+1),?_,G⟩;have:=(b.dD (i:=0) B).dc (Ae _) (by rw[CM,B4];exact F) q;rw[e];unfold AR at this⊢;rw[List.map_take];exact this
  refine Ad (λl=>⟨_,ADm c E d G,?_⟩) (λl=>?_);rintro _ _ ⟨rfl,z,rfl,r⟩;have l:=Fp l;apply Bz<;>intro Q;rotate_left
  .obtain⟨J,e,b⟩:=st (EY ((t.data.toList.drop 0).take ((z+0).toNat-0)))
   refine⟨Pq,_,_,Cs (CN _) (sHi G G),G,_,e,Pq,_,_,Cs (CN _) (sLo G (by show(z+1:Int)<=_;omega)),Pq,_,_,Sq,Jq,k+1,_,_,B,?_,G,B,Jq,b⟩;have:(EY ((t.data.toList.drop (z+1).toNat).take (t.size-(z+1).toNat))).size=((t.data.toList.drop (z+1).toNat).take (t.size-(z+1).toNat)).length:=rfl;have e:t.data.toList.length=t.size:=rfl;refine Ao (A2 this) ?_;rw[Cg,AV];omega
  all_goals
   obtain⟨J,e,b⟩:=st t;exact⟨G,_,e,Pq,_,_,Cs (CN _) (Avp h.nx 0 m m (k+1) q),Da b⟩
def c65 (a:Base S L) (b:s.size<=1000):Bk S L 6 65 [Sg s,Sg ⟨#[32]⟩] h λw J=>AA h J/\Pb h J 1001 w:=
 Cn f65 a λd c _=>⟨_,AAl a b d G,λ_ _ h=>h⟩
def Tf {b:Nat} (hb:b<256):Fk b<256/\(240<=Fk b\/2<=Fk b%8):=by
 have Cw:(BG 256).all (λb=>AD (Fk b) 256&&(Ar 240 (Fk b)||Ar 2 (Fk b%8)))=true:=by kernel_rfl
 have:=List.all_eq_true.1 Cw b (List.mem_range.2 hb);rw[An,Dm] at this;exact⟨by simpa[AK] using this.1,this.2.imp Ac Ac⟩
def Aev {x:Nat} (a:x<256):D8 .u8 (x:Int) 7=((x%8:Nat):Int):=by
 have Cw:(BG 256).all (λx=>D8 .u8 (x:Int) 7==((x%8:Nat):Int))=true:=by kernel_rfl
 simpa using List.all_eq_true.1 Cw x (List.mem_range.2 a)
def Afn {x:Nat} (a:x<256):DN .u8 (x:Int) 4=((x/16:Nat):Int):=by
 have Cw:(BG 256).all (λx=>DN .u8 (x:Int) 4==((x/16:Nat):Int))=true:=by kernel_rfl
 simpa using List.all_eq_true.1 Cw x (List.mem_range.2 a)
def Abd {t:Ai} {ox oy:BU} {a b:Int}:∃z,Jo Ax .andNot t ox oy (.int .i32 a) (.int .i32 b)=I (.int .i32 z):=by
 have hb:∀u,Hn (binOp .andNot t (.int .i32 a) (.int .i32 b))=I u->Jo Ax .andNot t ox oy (.int .i32 a) (.int .i32 b)=I u:=λu h=>NU h;exact⟨_,hb _ (by rw[CX (by simp) (by simp)];rfl)⟩
def Dec (s:Bd) (w:Aa):Prop:=∃z n:Int,w=.tuple #[.int .i32 z,.int .i64 n]/\1<=n/\n<=s.size
section
variable{α:Type} {kt:Ai} {kv vv:α->Aa} {Q:α->α->Bool}
def OU {h:Y} {g e:Nat} {l:AH} (a:h.t.get g=I (CB.cells l e 0 0 Ag).oB) (b:g<h.nx) {i:Nat} {v:Aa} (U:l[i]?=I v):Cell h g i v:=
 ⟨b,_,_,_,_,_,_,a,by
  have:=(List.getElem?_eq_some_iff.1 U).1;rw[T.an,Bi (by omega),DL];exact U⟩
def Kg {h:Y} {g e:Nat} {l:AH} (b:h.t.get g=I (CB.cells l e 0 0 Ag).oB) (c:g<h.nx) {o:Nat} {xs:AH} (U:∀i v,xs[i]?=I v->l[o+i]?=I v):BK h g o xs:=
 ⟨c,_,_,_,_,_,_,b,λi v a=>by
  have:=(List.getElem?_eq_some_iff.1 (U i v a)).1;rw[T.an,Bi (by omega),DL];exact U i v a⟩
def Agx:Ft=.cells ((BG 256).map λb=>.int .u8 (Fk b:Int)) 286 0 0 true:=by kernel_rfl
def Agu:Fu=.cells ((BG 16).flatMap λj=>[.int .u8 ((K6 j).1:Int),.int .u8 ((K6 j).2:Int)]) 337 0 0 true:=by kernel_rfl
def SO:∀j,j<16->((BG 16).flatMap λj=>[AL .u8 ((K6 j).1:Int),.int .u8 ((K6 j).2:Int)])[j*2]?=I (.int .u8 ((K6 j).1:Int))/\((BG 16).flatMap λj=>[AL .u8 ((K6 j).1:Int),.int .u8 ((K6 j).2:Int)])[j*2+1]?=I (.int .u8 ((K6 j).2:Int)):=by
 intro j a;have:j=0\/j=1\/j=2\/j=3\/j=4\/j=5\/j=6\/j=7\/j=8\/j=9\/j=10\/j=11\/j=12\/j=13\/j=14\/j=15:=by omega
 rcases this with rfl|rfl|rfl|rfl|rfl|rfl|rfl|rfl|rfl|rfl|rfl|rfl|rfl|rfl|rfl|rfl<;>exact⟨rfl,rfl⟩
end
def Zdb {h:Y} (F:Ce h):(∀b:Nat,b<256->Cell h 0 b (.int .u8 (Fk b)))/\∀j:Nat,j<16->BK h 1 (j*2) [.int .u8 (K6 j).1,.int .u8 (K6 j).2]:=by
 obtain⟨c,d,g⟩:=F

 rw[Agx] at c;rw[Agu] at d;refine⟨λb f=>OU c (by omega) ?_,λj e=>Kg d (by omega) λi v a=>?_⟩
 ·rw[AX,Jj f];rfl
 ·rcases i with _|_|i
  ·cases a;exact(SO j e).1
  ·cases a;exact(SO j e).2
  ·cases a
def ADw (B:Base S L) {h:Y} (F:Ce h) {s:Bd} (E:1<=s.size):Bk S L 1 294 [Sg s] h λw J=>AA h J/\Dec s w:=
 Fm (fn:=f294) B (by kernel_rfl) rfl λd q=>by
  have n:=UInt8.toNat_lt (Cv s 0);have o:=(Zdb F).1 (Cv s 0).toNat n;obtain⟨c,f⟩:=Tf n;generalize Fk (Cv s 0).toNat=x at o c f;have H:=Aev c;have r:=Afn c;have j:=(Zdb F).2 (x/16) (G);generalize(K6 (x/16)).1=a at j;generalize(K6 (x/16)).2=b at j;refine⟨Dc rfl,Bz (λ_=>G) (λ_=>⟨⟨by decide,G⟩,⟨G,by show((Cv s 0).toNat:Int)<256;omega⟩,_,Dz (ld rfl o) (by show 0+((Cv s 0).toNat:Int).toNat*1=_;omega),Bz (λu=>?_) (λu=>?_)⟩)⟩
  ·obtain⟨z,y⟩:=Abd (t:=21) (ox:=.tmp 30) (oy:=.tmp 31) (a:=IntKind.i32.wrap (Cv s 0).toNat) (b:=DN .i32 (Es .i32 (IntKind.i32.wrap x) 31) 31);exact⟨_,.inr rfl,by decide,by decide,⟨by decide,G⟩,_,.inr rfl,_,y,AA.refl h,_,_,rfl,by decide,G⟩
  obtain⟨g,A,p,l,m⟩:=(Sep.nil h).var (t:=336) (z:=.agg ⟨[.int .u8 0,.int .u8 0]⟩) (by kernel_rfl) (v:=.agg ⟨[.int .u8 a,.int .u8 b]⟩) rfl rfl rfl;have C:Cell p h.nx 0 (.int .u8 a):=(m.dD (i:=0) rfl).cell (i:=0) rfl;have D:Cell p h.nx 1 (.int .u8 b):=(m.dD (i:=0) rfl).cell (i:=1) rfl;have e:=m.e;refine⟨_,.inl Pq,by decide,⟨G,by show DN .u8 (x:Int) 4<16;omega⟩,_,EQ (k:=2) (by kernel_rfl) (show BK h 1 (0+(DN .u8 (x:Int) 4).toNat*2) [.int .u8 a,.int .u8 b] by rw[r,Ba,UG];exact j) rfl,_,_,A _,_,l,?_⟩;refine Bz (λ_=>⟨e,_,_,rfl,by decide,G⟩) (λK=>?_);have M:2<=s.size:=by omega
  refine⟨⟨by decide,G⟩,_,ld rfl C,?_⟩
  repeat' first
   |exact⟨e,_,_,rfl,by decide,G⟩
   |refine⟨_,ld rfl D,?_⟩
   |apply Bz<;>intro _
   |apply Ad<;>intro _
   |refine⟨⟨by decide,G⟩,?_⟩
   |refine⟨by decide,?_⟩
   |refine⟨_,.inr rfl,?_⟩
def AEf (b:Base S L) {h:Y} (F:Ce h) {s:Bd} (e:1<=s.size):Bk S L 2 229 [Sg s] h λw J=>AA h J/\Dec s w:=
 Fm (fn:=f229) b (by kernel_rfl) B λd g=>by
  have c:∀{k:Aa->Y->Prop},(∀z n:Int,∀J,AA h J->1<=n->n<=s.size->k (.tuple #[.int .i32 z,Vi n]) J)->∃Q,Cd (B8 Ax S L d) (.func 294) [Sg s] h Q/\∀v J,Q v J->k v J:=λH=>⟨_,ADw b F e d (G),by
   rintro _ J ⟨x,z,n,rfl,h1,a⟩;exact H z n J x h1 a⟩
  refine⟨Dc B,_,B,Ad (λf=>?_) (λf=>?_)⟩
  .refine⟨⟨by decide,G⟩,?_⟩
   repeat' first
    |exact⟨⟨by decide,G⟩,_,.inr rfl,AA.refl h,_,_,rfl,by decide,G⟩
    |exact c λz n J x h1 a=>⟨x,_,_,B,h1,a⟩
    |apply Ad<;>intro _
  .repeat' first
    |exact c λz n J x h1 a=>⟨x,_,_,B,h1,a⟩
    |apply Ad<;>intro _
    |exact⟨⟨by decide,G⟩,_,.inr rfl,AA.refl h,_,_,rfl,by decide,G⟩
def W3 (z:Nat):Int:=if z<=127 then 1 else if z<=2047 then 2 else if 55296<=z/\z<=57343 then-1 else if z<=65535 then 3 else if z<=1114111 then 4 else-1
def ADc (a:Base S L) {h:Y} {z:Nat}:Bk S L 1 230 [.int .i32 z] h λw J=>J=h/\w=Vi (W3 z):=
 Fm (fn:=f230) a (by kernel_rfl) B λd b=>by
  have Da:∀v:Int,v=W3 z->(h=h/\(Vi v:Aa)=Vi (W3 z)):=λv e=>⟨B,Cs _ e⟩;refine⟨Dc B,?_⟩
  repeat' first
   |exact Da _ (by unfold W3;(repeat' split)<;>first|rfl|omega)
   |apply Bz<;>intro _
   |apply Ad<;>intro _
def Adl (S:A9) (L e:Nat) (fv:Aa):Prop:=∃g,fv=.func (.func g) #[] #[]/\∀(z:Nat) (h:Y),z<=1114111->Bk S L e g [.int .i32 z] h λw J=>J=h/\∃r:Int,w=.int .i32 r/\-2147483648<=r/\r<=2147483647
def Axp (a:Base S L):Adl S L 2 (PU 67):=⟨_,rfl,λz h b=>Fm (fn:=f67) a (by kernel_rfl) B λd e=>by
 refine⟨Dc B,_,c68 a d (G),?_⟩;rintro _ h ⟨rfl,c,rfl,_,_⟩
 repeat' first
  |exact⟨rfl,_,rfl,G,G⟩
  |exact⟨Pq,rfl,_,rfl,G,G⟩
  |refine Ad (λ_=>?_) (λ_=>?_)⟩
def Aog (a:Base S L):Adl S L 2 (PU 82):=⟨_,rfl,λz h b=>Fm (fn:=f82) a (by kernel_rfl) B λd e=>by
 refine⟨Dc B,_,c68 a d (G),?_⟩;rintro _ h ⟨rfl,c,rfl,_,_⟩;exact Ad (λ_=>⟨Pq,B,_,B,G,G⟩) (λ_=>⟨B,_,B,G,G⟩)⟩
def Azg (a:Base S L):Adl S L 2 (PU 83):=⟨_,rfl,λz h b=>Fm (fn:=f83) a (by kernel_rfl) B λd e=>by
 refine⟨Dc B,Ad (λ_=>⟨B,_,B,by decide,by decide⟩) (λ_=>⟨_,c68 a d (G),?_⟩)⟩;rintro _ h ⟨rfl,c,rfl,_,_⟩;exact Ad (λ_=>⟨Pq,B,_,B,G,G⟩) (λ_=>⟨B,_,B,G,G⟩)⟩
def Adc (m:Nat) (x:Lc):Nat->Option Lc:=λj=>bif Am j m then I x else Z
def Xa:DC->DC
 |.seq a _=>a
 |_=>.skip
def GY:DC->DC
 |.seq _ b=>b
 |_=>.skip
def Aiz {S:A9} {L:Nat} {d:Nat} {f:Au} {fn:BC} {args:AH} {h:Y} {Q:Aa->Y->Prop} {c:DC} (c1 i:DC) {m:Nat} {x:Lc} (w:Ax.fn.get f=I fn) (z:fn.body=I c) (C:S.ov f=Z) (D:S.nd f=Z) (E:S.hk f=I (Adc m x))
 (H:∀(l:Be) (K:Kt) (fr:Fr) (h:Y),Qq Ax l L Z (Adc m x) (IC c) 0 K fr h=B7 Ax l L Z c1 {n:=λfr h=>(match x fr h with|some (a,J)=>B7 Ax l L Z i K a J|none=>Z),x:=K.x,r:=K.r,p:=K.p} fr h)
 (o:As->Y->Prop) (b:args.length<=fn.ntmps)
 (M:∀n,d<=n->J2 Ax (B8 Ax S L n) L fn.ntmps c1 (kp (λA h=>∃g,Sub g A/\o g h) (λ_ _ _=>False) (λA h=>Ex Ax A h fn.results.toList (λvs=>Q (Ff vs) h))) (PJ args 0) h)
 (N:∀n,d<=n->∀A h,o A h->∃s,(∀fr,Gx A fr->fr.sz=fn.ntmps->∃a,x fr h=I (a,h)/\Gx s a/\a.sz=fr.sz/\a.ds=fr.ds)/\
  J2 Ax (B8 Ax S L n) L fn.ntmps i (kp (λA h=>Ex Ax A h fn.results.toList (λvs=>Q (Ff vs) h)) (λ_ _ _=>False) (λA h=>Ex Ax A h fn.results.toList (λvs=>Q (Ff vs) h))) s h):Bk S L (d+1) f args h Q:=by
 intro n ab;obtain⟨q,rfl⟩:∃q,n=q+1:=⟨n-1,G⟩;refine P1.cd C D ?_
 let F:=Qt Ax S fn
 have e:∀k kp,DY Ax S (B8 Ax S L q) L f args h k kp=B7 Ax (B8 Ax S L q) L Z c1 {n:=λfr h=>(match x fr h with|some (a,J)=>B7 Ax (B8 Ax S L q) L Z i (F k kp) a J|none=>Z),x:=(F k kp).x,r:=(F k kp).r,p:=(F k kp).p} ⟨T.laid args 0 .nil,fn.ntmps,[]⟩ h:=λk kp=>by
  have O:GA args fn.ntmps=I ⟨T.laid args 0 .nil,fn.ntmps,[]⟩:=by
   unfold GA;rw[show Ar args.length fn.ntmps=Ag from Aq b];rfl
  unfold DY;rw[w];simp only[z,O];unfold Ss;simp only[E];exact H _ _ _ _
 rw[funext λy:(Aa->Y->RR)×(Aa->Y->RR)=>e y.1 y.2];refine La W0 R3 L _ _ _ _ _ () _ h (M q G) (TB b) B B ⟨λa J _ A u P r ⟨g,R,j⟩=>?_,λ_ _ _ _ _ _ _ _ c=>c.elim,Acv.r,λ_ _ _ _ _ _ _ _ c=>c.elim⟩;obtain⟨V,W,X⟩:=N q G g J j;obtain⟨aa,x1,x2,x3,x4⟩:=W a (λt v b=>r t v (R t v b)) u;simp only[x1];exact La W0 R3 L _ _ _ _ V () aa J X x2 (x3.trans u) (x4.trans P) Acv
def AAn:Aa->Bool
 |.slice Z _ _=>Ag
 |_=>Ah
def Wl {h:Y} {N b:Nat} {v:Aa} {bs:Bl} (H:Ey h N b v bs) {A:As} (q:look A 5=I (AG b 0)) (s:look A 64=Z) {sz:Nat} (z:65<sz):
 ∀fr,Gx A fr->fr.sz=sz->∃d,HG 5 64 65 1 fr h=I (d,h)/\Gx ((65,.bool (AAn v))::A) d/\d.sz=fr.sz/\d.ds=fr.ds:=by
 intro fr r C;have i:=r 5 _ q;obtain⟨c,n,e,lo,U,x,hb,j⟩:∃c n e lo U x,h.t.get b=I (.cells c n e lo U x)/\c.get 1=I v:=by
  rcases H.c with⟨_,c,h1,f⟩|⟨_,c,h1,f⟩
  .exact⟨_,_,_,_,_,_,h1,f 1 _ B⟩
  .exact⟨_,_,_,_,_,_,h1,f 1 _ B⟩
 have l:AD 64 fr.sz=true:=by rw[AK];omega
 have m:AD 65 fr.sz=true:=by rw[AK];omega
 have o:∀w:Aa,Gx ((65,w)::A) ⟨(UT fr.tm 64).ins 65 w,fr.sz,fr.ds⟩:=λw t u a=>by
  rw[Ev.T.dA];replace a:(bif Am 65 t then I w else look A t)=I u:=a
  by_cases g:t=65
  .subst g;rw[Bi B];exact a
  .rw[Bm g,V8]
   rw[show Am 65 t=Ah from Bool.eq_false_iff.2 λh=>g (Af h).symm] at a;by_cases p:t=64
   .subst p;rw[I0,s] at a;cases a
   .rw[Bm p];exact r t u a
 rcases H.o with⟨rfl,_⟩|⟨D,k,E,y,rfl,_,_,F,_⟩
 .exact⟨_,by unfold HG;simp[i,AG,hb,j,l,m];rfl,o _,B,B⟩
 .exact⟨_,by unfold HG;simp[i,AG,hb,j,l,m,show Ar 1 k=Ag from Aq G];rfl,o _,B,B⟩
def pbc {a:Type} {P:a->Prop} {c:Bool} {x y:a} (h1:c=Ag->P x) (b:c=Ah->P y):P (bif c then x else y):=by
 cases c
 .exact b B
 .exact h1 rfl
def Aoq (b c d:Nat) (p:Nat×Nat):Prop:=p.1<=1114111/\(p.1=65533\/(W3 p.1=p.2/\(p.2=1\/(b/64=2/\(p.2=2\/(c/64=2/\(p.2=3\/(d/64=2/\p.2=4))))))))
def Aln (a b c d:Nat):Aoq b c d (ZN a b c d):=by
 have e:Aoq b c d (65533,1):=⟨by decide,.inl B⟩;refine pbc (λh=>?_) λh=>pbc (λh=>pbc (λk=>?_) λ_=>e) λh=>pbc (λh=>pbc (λk=>?_) λ_=>e) λh=>pbc (λh=>pbc (λk=>?_) λ_=>e) λ_=>e
 .rw[AK] at h
  exact⟨by show a<=_;omega,.inr ⟨by show W3 a=_;rw[W3,Bi G];rfl,.inl B⟩⟩
 .rw[An] at h
  have h1:=Af h.2;have k:=Ac k;exact⟨by show a%32*64+b%64<=_;omega,.inr ⟨by show W3 (a%32*64+b%64)=_;rw[W3,Bm G,Bi G];rfl,.inr ⟨h1,.inl B⟩⟩⟩
 .rw[An,An] at h
  rw[An,Dm,AK] at k;have h1:=Af h.1.2;have j:=Af h.2;have f:=Ac k.1;have g:=k.2.imp id Ac;obtain⟨z,i⟩:∃z,z=a%16*4096+b%64*64+c%64:=⟨_,B⟩;rw[←i] at f g⊢;exact⟨by show z<=_;omega,.inr ⟨by show W3 z=_;rw[W3,Bm G,Bm G,Bm G,Bi G];rfl,.inr ⟨h1,.inr ⟨j,.inl B⟩⟩⟩⟩
 .rw[An,An,An] at h
  rw[An] at k;have f:=Ac k.1;have g:=Ac k.2;obtain⟨z,i⟩:∃z,z=a%8*262144+b%64*4096+c%64*64+d%64:=⟨_,B⟩;rw[←i] at f g⊢;exact⟨by show z<=_;omega,.inr ⟨by show W3 z=_;rw[W3,Bm G,Bm G,Bm G,Bm G,Bi G];rfl,.inr ⟨Af h.1.1.2,.inr ⟨Af h.1.2,.inr ⟨Af h.2,B⟩⟩⟩⟩⟩
def T9 {l:Bl} (i:0<l.length):(FF l).1<=1114111/\((FF l).1≠65533->W3 (FF l).1=(FF l).2/\(FF l).2<=l.length):=by
 obtain⟨h1,a⟩:=Aln (b1 l) (b1 (l.drop 1)) (b1 (l.drop 2)) (b1 (l.drop 3));have len:∀k,b1 (l.drop k)/64=2->k<l.length:=λk b=>by
  rcases A8 k l.length with h|h
  .exact h
  .rw[Ef h] at b;cases b
 refine⟨h1,λc=>?_⟩;rcases a with a|⟨a,d⟩
 .exact Cf a c
 refine⟨a,?_⟩;show(ZN _ _ _ _).2<=_;rcases d with h|⟨e,h|⟨f,h|⟨g,h⟩⟩⟩
 .omega
 .have:=len 1 e;omega
 .have:=len 2 f;omega
 .have:=len 3 g;omega
structure MD (S:A9):Prop where
 ov:S.ov 161=Z
 nd:S.nd 161=Z
 hk:S.hk 161=I (Adc 4 (HG 5 64 65 1))
def Aqf:Code:=match f161.body with
 |some c=>c
 |none=>.skip
def Qc (a:Int):(EY ((s.data.toList.drop a.toNat).take (s.size-a.toNat))).size=s.size-a.toNat:=by
 show(Ana _ _).length=_;have e:s.data.toList.length=s.size:=rfl;rw[Cg,AV,e];omega
def Ale (a:Int):(EY ((s.data.toList.drop 0).take (a.toNat-0))).size<=a.toNat:=by
 show(Ana _ _).length<=_;rw[Cg];omega
def Azq (c:Base S L) (HB:MD S) (F:Ce h) (M:Adl S L 2 fv) (hs:s.size<=1000000):Bk S L 5 161 [fv,.string s] h λw J=>AA h J/\∃t:Bd,w=.string t/\t.size<=4*s.size+4:=by
 obtain⟨g,rfl,M⟩:=M;have hL:=c.aI;refine Aiz (fn:=f161) (YC 3 Aqf) (.seq (GY (Xa (Vf 3 Aqf))) (Vf 4 Aqf)) Kq B HB.ov HB.nd HB.hk (λ_ _ _ _=>by kernel_rfl)
  (λA a=>∃(t:Bd) (b:Nat) (v:Aa) (bs:Bl),A=[(0,.func (.func g) #[] #[]),(1,.string t),(5,AG b 0)]/\Sep h a [RK h.nx b v bs]/\bs.length+4*t.size<=4*s.size+4) (Dc B) (λd aa=>?_) (λd aa=>?_)
 .obtain⟨u,y1,s1⟩:=(Sep.nil h).a3
  obtain⟨P,s2⟩:=s1.bt s;refine⟨_,_,y1 _,_,_,P,λy A a=>∃p:Nat,A=[(0,.func (.func g) #[] #[]),(1,.string s),(5,AG h.nx 0),(14,AG u.nx 0)]/\y=s.size-p/\Sep h a [aB u.nx (.str s p),RK h.nx h.nx (.slice Z 0 0) []],
   ⟨_,_,Sq,G,0,B,B,s2⟩,?_⟩
  rintro y A a ⟨p,rfl,rfl,m⟩ ab;rcases m.bL (i:=0) B with⟨Q,w,z,K,⟨ad,hw,o⟩,R,f⟩|⟨Q,R⟩;rotate_left
  .exact⟨_,_,R,_,Sq,s,_,_,[],B,m.drop 1,by show 0+_<=_;omega⟩
  obtain⟨d1,d2⟩:=T9 (by rw[AV];show 0<s.size-p;omega);rw[←o,←hw,AV] at d2;rw[←o] at d1;have af:s.data.toList.length=s.size:=rfl;have C:∀{A:As} {J:Y},Sub [(0,.func (.func g) #[] #[]),(1,.string s),(5,AG h.nx 0),(14,AG u.nx 0)] A->AA K J->∃m' D,Sub D A/\m'<s.size-p/\∃p:Nat,D=[(0,.func (.func g) #[] #[]),(1,.string s),(5,AG h.nx 0),(14,AG u.nx 0)]/\m'=s.size-p/\Sep h J [aB u.nx (.str s p),RK h.nx h.nx (.slice Z 0 0) []]:=λT x=>⟨_,_,T,(show s.size-(p+w)<_ by omega),p+w,B,B,f.ext x⟩;refine⟨_,_,R,_,M z K d1 d G,?_⟩;rintro _ K ⟨rfl,r,rfl,hr⟩;refine Bz (λj=>Ad (λE=>C (Sq) (AA.refl _)) (λE=>?_)) (λj=>?_)
  all_goals
   refine Bz (λk3=>⟨_,_,Cs (CN _) (sLo G G),_,AEf c (F.ext f.e) (by rw[Qc];omega) d G,?_⟩) (λk3=>⟨_,ADc c d G,?_⟩);rintro _ h5 ⟨x5,z2,n,rfl,ag,ae⟩;rw[Qc] at ae;have f:=f.ext x5;have hW:0<=n/\(p:Int)+n<=s.size:=G;refine Ad (λk4=>Ad (λk5=>C (Sq) x5) (λk5=>?_)) (λk4=>?_);rotate_left;rotate_left;rintro _ K ⟨rfl,rfl⟩;have hW:0<=W3 z/\(p:Int)+W3 z<=s.size:=G
   all_goals
    refine⟨Pq,_,Aut c (f.bl (i:=1) B) f.e.nx G d G,?_⟩;rintro _ h7 k;obtain⟨v7,H⟩:=f.bf (i:=1) B k;have o:=Ale (s:=s) (p:Int);refine⟨_,_,Cs (CN _) (sHi G G),_,c79 c (H.bl (i:=1) B) H.e.nx (by show 0+_<=_;omega) d G,?_⟩;rintro _ h8 w8;obtain⟨v8,N⟩:=H.bf (i:=1) B w8;have hb:([]++(EY ((s.data.toList.drop 0).take ((p:Int).toNat-0))).data.toList).length<=p:=by rw[IW];exact Ao o G
    refine Bz (λk6=>⟨_,c80 c (N.bl (i:=1) B) N.e.nx G d G,?_⟩) (λk6=>?_)
    .rintro _ h9 ⟨cs,V,_,_,w9⟩
     obtain⟨v9,s9⟩:=N.bf (i:=1) B w9;exact⟨Pq,_,_,Cs (CN _) (sLo G G),_,Sq,_,_,_,_,B,s9.drop 1,by rw[Qc,Aj];omega⟩
    .exact⟨Pq,_,_,Cs (CN _) (sLo G G),_,Sq,_,_,_,_,B,N.drop 1,by rw[Qc];omega⟩
 .rintro A a ⟨t,b,v,bs,rfl,m,hl⟩
  refine⟨_,Wl (m.bl (i:=0) B) B B (by decide),Ad (λj=>⟨m.e,t,B,G⟩) (λj=>?_)⟩;obtain⟨P,f⟩:=m.bt t;refine⟨_,_,P,λy A hq=>∃(p:Nat) (v:Aa) (bs:Bl),A=[(0,.func (.func g) #[] #[]),(5,AG b 0),(68,AG a.nx 0)]/\y=t.size-p/\bs.length+4*(t.size-p)<=4*s.size+4/\Sep h hq [aB a.nx (.str t p),RK h.nx b v bs],
   ⟨_,_,Sq,G,0,_,_,B,B,hl,f⟩,?_⟩
  rintro y A hq ⟨p,v,bs,rfl,rfl,hl,O⟩ ab;rcases O.bL (i:=0) B with⟨Q,w,z,W,⟨ad,hw,o⟩,X,q⟩|⟨Q,X⟩
  .obtain⟨d1,_⟩:=T9 (by rw[AV];show 0<t.size-p;omega)
   rw[←o] at d1;refine⟨_,_,X,_,M z W d1 d G,?_⟩;rintro _ W ⟨rfl,r,rfl,hr⟩;have C:∀{A:As} {J:Y} {cs:Bl},Sub [(0,.func (.func g) #[] #[]),(5,AG b 0),(68,AG a.nx 0)] A->cs.length<=4->Gu W J h.nx b v (bs++cs)->∃m' D,Sub D A/\m'<t.size-p/\∃(p:Nat) (v:Aa) (bs:Bl),D=[(0,.func (.func g) #[] #[]),(5,AG b 0),(68,AG a.nx 0)]/\m'=t.size-p/\bs.length+4*(t.size-p)<=4*s.size+4/\Sep h J [aB a.nx (.str t p),RK h.nx b v bs]:=λT V k=>by
    obtain⟨v7,H⟩:=q.bf (i:=1) B k;exact⟨_,_,T,(show t.size-(p+w)<_ by omega),p+w,_,_,B,B,by rw[Aj];omega,H⟩
   refine Ad (λj=>Ad (λE=>?_) (λE=>?_)) (λj=>⟨_,_,CG (l:=[(0,_),(5,_),(68,_)]) ⟨B,B,B,trivial⟩,(show t.size-(p+w)<_ by omega),p+w,_,_,B,B,G,q⟩)
   .have j:=Fp j
    have E:=Fp E;refine⟨_,.inl ⟨Pq,B⟩,?_⟩;obtain⟨x,hx⟩:∃x:UInt8,r=(x.toNat:Int):=⟨UInt8.ofNat r.toNat,by rw[UInt8.toNat_ofNat'];omega⟩;subst hx;exact⟨_,AEi c (q.bl (i:=1) B) q.e.nx G d G,λ_ J k=>C (Sq) (Ac B) k⟩
   .exact⟨_,c80 c (q.bl (i:=1) B) q.e.nx G d G,λ_ J ⟨cs,V,_,_,k⟩=>C (Sq) V.2 k⟩
  .refine⟨_,_,X,_,c81 c (O.bl (i:=1) B) G d G,?_⟩
   rintro _ g ⟨rfl,c6⟩;exact⟨O.e.then c6 λi U=>(O.bl (i:=1) B).o.ge i U,_,B,by show bs.length<=_;omega⟩
def VS (n:Nat) (v:Aa):Prop:=∃t:Bd,v=.string t/\t.size<=n
def c66 (a:Base5 S L) (HB:MD S) {h:Y} (F:Ce h) {fv:Aa} (M:Adl S L 2 fv) {s:Bd} (c:s.size<=1000000):Bk S L 7 66 [.string s,fv] h λw J=>AA h J/\VS (4*s.size+4) w:=
 Cn f66 a.toBase λd f _=>by
  refine⟨_,c77 a F G d G,?_⟩;rintro _ h1 ⟨b,rfl⟩;refine⟨_,_,B,Ad (λ_=>⟨b,s,B,G⟩) (λ_=>⟨_,Azq a.toBase HB (F.ext b) M c d G,?_⟩)⟩;rintro _ g ⟨e,q⟩;exact⟨b.trans e,q⟩
def Zag (i:Nat) (s:Bd):Prop:=(i=27\/i=42\/i=44)/\s.size<=200000\/i=43/\s.size<=1000
def Zae (i:Nat) (s:Bd):Nat:=if i=43 then 1100000 else 4*s.size+4
def Za9 (i:Nat):Bl:=if i<31 then [239,189,UInt8.ofNat (161+i)] else [239,190,UInt8.ofNat (97+i)]
def Zbw:Bo:=[12290,12300,12301,12289,12539,12530,12449,12451,12453,12455,12457,12515,12517,12519,12483,12540,12450,12452,12454,12456,12458,12459,12461,12463,12465,12467,12469,12471,12473,12475,12477,12479,12481,12484,12486,12488,12490,12491,12492,12493,12494,12495,12498,12501,12504,12507,12510,12511,12512,12513,12514,12516,12518,12520,12521,12522,12523,12524,12525,12527,12531]
def Zbx:List (Nat×Bl):=Zbw.mapIdx (λi r=>(r,Za9 i))++((18::(List.range' 21 15++List.range' 41 5)).map λi=>(if i=18 then 12532 else Zbw.getD i 0+1,Za9 i++[239,190,158]))++(List.range' 41 5).map λi=>(Zbw.getD i 0+2,Za9 i++[239,190,159])
def Hp:List MapEntry:=Zbx.mapIdx λi p=>⟨.int .i32 (p.1:Int),.string ⟨⟨p.2⟩⟩,i⟩
def Zab (S:A9) (L:Nat) (h:Y):Prop:=∀{J:Y},AA h J->Bk S L 1 78 [] J λw g=>w=.map (I J.nx)/\g=J.new (.map Hp 87)
structure Pw (S:A9) (L:Nat) (DA:Nat->Bd->Bd) (h:Y):Prop where
 kan:∀{J:Y} {s:Bd} (i:Nat),AA h J->Zag i s->Bk S L 1 i [.string s] J λw g=>AA J g/\w=.string (DA i s)
 ksz:∀{i:Nat} {s:Bd},Zag i s->(DA i s).size<=Zae i s
 kfm:Zab S L h
def Pw.ext {DA:Nat->Bd->Bd} (K:Pw S L DA h) (x:AA h J):Pw S L DA J:=⟨λi y=>K.kan i (x.trans y),K.ksz,λy=>K.kfm (x.trans y)⟩
def Zaa (fn:BC) {d:Nat} (s:1125899906842624<=L) (j:∀a,(match S.ov f with|some g=>g a args h|none=>Z)=Z) (i:S.nd f=Z/\S.hk f=Z)
 (H:∀n,d<=n->Adq Ax (B8 Ax S L n) L fn args h Q) (l:Ax.fn.get f=I fn:=by kernel_rfl) (b:Ar args.length fn.ntmps=true:=by rfl):Bk S L (d+1) f args h Q:=λn t=>by
 obtain⟨m,rfl⟩:∃m,n=m+1:=⟨n-1,G⟩;have c:=H m G;unfold Adq at c;split at c
 case h_2=>cases c
 rename_i o;have b:=Ac b;have p:P1 Q λy=>DY Ax S (B8 Ax S L m) L f args h y.1 y.2:=by simp only[QM l i.2 o b];exact La W0 R3 L _ _ _ _ _ () _ h c (TB b) rfl rfl Acv
 cases e0:S.ov f with
 |none=>exact p.imp λ_ h=>h.imp λ_ ⟨q,e⟩=>⟨q,λk kp=>by simp only[B8,e0,ndK,i.1];exact e k kp⟩
 |some g=>
  have r:g (B8 Ax S L m) args h=none:=by
   have:=j (B8 Ax S L m);rw[e0] at this;exact this
  exact p.imp λ_ h=>h.imp λ_ ⟨q,e⟩=>⟨q,λk kp=>by simp only[B8,e0,r,ndK,i.1];exact e k kp⟩
def Zad (S:A9):Prop:=∀i∈[27,42,43,44],(∀a args h,(match S.ov i with|some g=>g a args h|none=>Z)=Z)/\S.nd i=Z/\S.hk i=Z
def c27 (B:Base5 S L) (HB:MD S) (a:Zad S) (F:Ce h) (c:s.size<=1000000) {i:Nat} (e:i=27\/i=42\/i=44):Bk S L 8 i [.string s] h λw J=>AA h J/\VS (4*s.size+4) w:=by
 rcases e with rfl|rfl|rfl
 ·exact Zaa f27 B.aI (λ_=>(a 27 (by simp)).1 _ _ _) (a 27 (by simp)).2 λd b=>⟨_,c66 B HB F (Axp B.toBase) c d G,λ_ _ h=>h⟩
 ·exact Zaa f42 B.aI (λ_=>(a 42 (by simp)).1 _ _ _) (a 42 (by simp)).2 λd b=>⟨_,c66 B HB F (Aog B.toBase) c d G,λ_ _ h=>h⟩
 ·exact Zaa f44 B.aI (λ_=>(a 44 (by simp)).1 _ _ _) (a 44 (by simp)).2 λd b=>⟨_,c66 B HB F (Azg B.toBase) c d G,λ_ _ h=>h⟩
def Qv (v:Aa):Prop:=∃z:Int,v=.int .i32 z
def YF:K8 Ax 21 Qv:=by
 rintro _ ⟨a,rfl⟩;refine⟨B,?_⟩;rintro _ ⟨b,rfl⟩;refine⟨a==b,B,λh=>?_⟩;obtain rfl:=eq_of_beq h;show(O9 .i32 .i32&&decide (a=a))=Ag;rw[decide_eq_true B];rfl
def Za2:(Hp.all λe=>match e.key,e.val with|.int .i32 _,.string x=>Ar x.size 1000|_,_=>Ah)=true:=by kernel_rfl
def Za1 {e:Ap} (a:e∈Hp):∃z x,e.key=.int .i32 z/\e.val=.string x/\x.size<=1000:=by
 have:=List.all_eq_true.1 Za2 e a;split at this
 ·rename_i z x h1 b;exact⟨z,x,h1,b,Ac this⟩
 ·cases this
def Zao:Fc 87 0 Hp=true:=by kernel_rfl
def Zal (h:Y):(PW h.nx Qv (VS 1000) 500).holds (h.new (.map Hp 87)):=
 ⟨⟨by rw[Ck];omega,Hp,87,by rw[CK,if_pos rfl],λe a=>by obtain⟨z,x,h1,b,c⟩:=Za1 a;exact⟨⟨z,h1⟩,x,b,c⟩,Zao⟩,Hp,87,by rw[CK,if_pos rfl],Ac (by kernel_rfl)⟩
def c43 (B:Base5 S L) (V:Zad S) (FW:Zab S L h) (F:Ce h) {s:Bd} (hs:s.size<=1000):Bk S L 7 43 [.string s] h λw J=>AA h J/\VS 1100000 w:=
 Zaa f43 B.aI (λ_=>(V 43 (by simp)).1 _ _ _) (V 43 (by simp)).2 λd hd'=>by
  have hL:=B.aI;refine⟨_,c77 B F G d G,?_⟩;rintro _ h1 ⟨D,rfl⟩;refine⟨_,_,rfl,Ad (λ_=>⟨D,s,rfl,G⟩) (λ_=>⟨_,FW D d G,?_⟩)⟩;rintro _ _ ⟨rfl,rfl⟩;obtain⟨r,hr⟩:∃r,r=h1.nx:=⟨_,rfl⟩;have E:=((Sep.nil h).ext D).add (a:=PW h1.nx Qv (VS 1000) 500) (AA.new _ (.map Hp 87)) (Zal h1) λi H=>A2 (show i=h1.nx from H).symm;rw[←hr] at E⊢;obtain⟨f,K⟩:∃x,x=h1.new (.map Hp 87):=⟨_,rfl⟩;rw[←K] at E⊢;obtain⟨m,y1,s3⟩:=E.a3;obtain⟨y2,s4⟩:=s3.bt s;refine⟨_,_,y1 _,_,_,y2,λμ A X=>∃(p:Nat) (v:Aa) (bs:Bl),A=[(3,.map (I r)),(4,AG f.nx 0),(15,AG m.nx 0)]/\μ=s.size-p/\bs.length<=1000*p/\p<=s.size+3/\Sep h X [aB m.nx (.str s p),RK h.nx f.nx v bs,PW r Qv (VS 1000) 500],
   ⟨_,_,Sq,G,0,_,[],rfl,rfl,Ae _,G,s4⟩,?_⟩
  rintro μ A X ⟨p,v,bs,rfl,rfl,hb,hp,q⟩ hLt;rcases q.bL (i:=0) rfl with⟨N,w,z,C,⟨hw1,hw,hz⟩,O,j⟩|⟨N,O⟩
  ·have hw4:w<=4:=by rw[hw];exact TI _ _ _ _
   obtain⟨d1,_⟩:=T9 (l:=s.data.toList.drop p) (by rw[AV];show 0<s.size-p;omega);rw[←hz] at d1;obtain⟨g,P,M⟩:=Aog (L:=L) B.toBase;have P:Value.func (.func 82) #[] #[]=.func (.func g) #[] #[]:=P;cases P;refine⟨_,_,O,_,M z C d1 d G,?_⟩;rintro _ C ⟨rfl,y,rfl,_⟩;obtain⟨u,b,Q,l2,l3⟩:=QH (τ:=Ax) (t:=174) (kt:=21) (et:=9) Kq YF (z:=.string ⟨#[]⟩) Kq (j.cz (i:=2) rfl) (k:=.int .i32 y) ⟨_,rfl⟩ Ag;have Q:BW Ax 174 (.map (I r)) (.int .i32 y) Ag C=I (.tuple #[u,.bool b]):=Q;refine⟨_,_,congrArg (CN _) Q,?_⟩;have c:∀{A:As} {J:Y} {R:Bl},Sub [(3,.map (I r)),(4,AG f.nx 0),(15,AG m.nx 0)] A->R.length<=1000->Gu C J h.nx f.nx v (bs++R)->∃m' A0,Sub A0 A/\m'<s.size-p/\∃(p:Nat) (v:Aa) (bs:Bl),A0=[(3,.map (I r)),(4,AG f.nx 0),(15,AG m.nx 0)]/\m'=s.size-p/\bs.length<=1000*p/\p<=s.size+3/\Sep h J [aB m.nx (.str s p),RK h.nx f.nx v bs,PW r Qv (VS 1000) 500]:=λU hc n=>by
    obtain⟨v7,s7⟩:=j.bf (i:=1) rfl n;exact⟨_,_,U,(show s.size-(p+w)<_ by omega),p+w,_,_,rfl,rfl,by rw[Aj];omega,G,s7⟩
   cases b
   ·exact⟨_,c80 B.toBase (j.bl (i:=1) rfl) j.e.nx G d G,λ_ J ⟨R,hc,_,_,n⟩=>c (Sq) G n⟩
   ·obtain⟨x,rfl,hx⟩:=l2 rfl;exact⟨_,c79 B.toBase (j.bl (i:=1) rfl) j.e.nx G d G,λ_ J n=>c (Sq) hx n⟩
  ·refine⟨_,_,O,_,c81 B.toBase (q.bl (i:=1) rfl) G d G,?_⟩;rintro _ g ⟨rfl,c6⟩;exact⟨q.e.then c6 λi H=>(q.bl (i:=1) rfl).o.ge i H,_,rfl,by show bs.length<=_;omega⟩
def ZJ:Bl:=[227,129,139,227,129,141]
section
variable{α:Type} {kt:Ai} {kv vv:α->Aa} {Q:α->α->Bool}
structure Acl (kt:Ai) (kv:α->Aa) (Q:α->α->Bool):Prop where
 eq:∀a b,IZ Ax Op.maxDepth kt (kv a) (kv b)=I (Q a b)
 iff:∀a b,Q a b=Ag↔kv a=kv b
 self:∀a,Cy (kv a) (kv a)=Ag
 ty:∀a,Do Ax 5 kt (kv a)=Ag
def TA (kv vv:α->Aa) (h:Y) (r:Nat) (l:List α):Prop:=r<h.nx/\∃b ck,h.t.get r=I (.map b ck)/\Fc ck 0 b=Ag/\b.map (λe:Ap=>(e.key,e.val))=l.map λa=>(kv a,vv a)
def aG (kv vv:α->Aa) (r:Nat) (l:List α):Ct:={
 am:=λi=>i=r
 holds:=λh=>TA kv vv h r l
 aH:=λc a o=>⟨AC o.1 c.nx,by rw[c.t r o.1 (a r B)];exact o.2⟩
 lt:=λo i U=>by rw[U];exact o.1
 bk:=λo=>by unfold TA;rw[CL,DF];exact o}
def KT (Q:α->α->Bool) (x:α):List α->List α
 |[]=>[x]
 |y::l=>if Q x y=Ag then x::l else y::KT Q x l
def Aei (K:Acl kt kv Q) (x:α):∀(g:List Ap) (l:List α) (i ck:Nat),g.map (λe:Ap=>(e.key,e.val))=l.map (λa=>(kv a,vv a))->
 (CE Ax kt (kv x) g i=I Z/\l.find? (Q x)=Z/\(g++[({key:=kv x,val:=vv x,born:=ck}:Ap)]).map (λe:Ap=>(e.key,e.val))=(KT Q x l).map λa=>(kv a,vv a))\/
 ∃j e m,CE Ax kt (kv x) g i=I (I (i+j,e))/\e.val=vv m/\l.find? (Q x)=I m/\Cy e.key (kv x)=Ag/\(Cu g j λe=>{e with key:=kv x,val:=vv x}).map (λe:Ap=>(e.key,e.val))=(KT Q x l).map λa=>(kv a,vv a)
 |[],[],i,ck,_=>.inl Jq
 |[],_::_,_,_,h=>by cases h
 |_::_,[],_,_,h=>by cases h
 |
  e::g,m::l,i,ck,h=>by
  simp[Bp,List.cons.injEq,Prod.mk.injEq] at h;obtain⟨⟨h1,b⟩,c⟩:=h;rw[CE,h1,K.eq x m,KT];cases d:Q x m with
  |
   true=>
   refine .inr ⟨0,e,m,B,b,Jq,?_,?_⟩
   .rw[h1,←(K.iff _ _).1 d];exact K.self x
   .simp[Cu,c]
  |
   false=>
   rw[List.find?_cons_of_neg Jq];rcases Aei K x g l (i+1) ck c with⟨n,k,o⟩|⟨j,f,p,n,k,q,r,s⟩
   .refine .inl ⟨n,k,?_⟩
    simp[BE,if_false,KB,Bp,h1,b,o]
   .refine .inr ⟨j+1,f,p,Jq,k,q,r,?_⟩
    simp[BE,if_false,Cu,Bp,h1,b,s]
def TA.look (K:Acl kt kv Q) {et:Ai} {z:Aa} (a:Ax.ds.get t=I (.map kt et)) (b:CP Ax et=I z) {l:List α} (m:TA kv vv h r l) (x:α):
 BW Ax t (.map (I r)) (kv x) Ag h=I (.tuple #[match l.find? (Q x) with|some y=>vv y|none=>z,.bool (l.find? (Q x)).isSome]):=by
 obtain⟨_,g,ck,h1,_,c⟩:=m;unfold BW;rcases Aei K x g l 0 0 c with⟨d,f,_⟩|⟨j,e,m,d,f,i,_⟩
 .simp only[a,K.ty,D1,h1,d,b,f];rfl
 .simp only[a,K.ty,D1,h1,d,f,i];rfl
def TA.ah (K:Acl kt kv Q) {et:Ai} (a:Ax.ds.get t=I (.map kt et)) {l:List α} (m:TA kv vv h r l) (x:α):∃J,BH Ax t (.map (I r)) (kv x) (vv x) h=I J/\TA kv vv J r (KT Q x l)/\Er r h J:=by
 obtain⟨b,g,ck,h1,c,d⟩:=m;unfold BH;rcases Aei K x g l 0 ck d with⟨i,_,k⟩|⟨j,e,m,i,_,_,n,o⟩
 .exact⟨h.put r (.map (g++[({key:=kv x,val:=vv x,born:=ck}:Ap)]) (ck+1)),by simp[a,K.ty,D1,h1,i],⟨by rw[Cc];exact b,_,_,by rw[BQ,Bi B],Kd _ _ g ck 0 c (Al _),k⟩,Er.put _ _ _⟩
 .rw[Ba] at i
  exact⟨h.put r (.map (Cu g j λe=>{e with key:=kv x,val:=vv x}) ck),by simp[a,K.ty,D1,h1,i,n],⟨by rw[Cc];exact b,_,_,by rw[BQ,Bi B],Kc (f:=λe=>{e with key:=kv x,val:=vv x}) (λ_=>rfl) g _ ck 0 c,o⟩,Er.put _ _ _⟩
end
def Zb6 {α:Type} {Q:α->α->Bool} {x:α}:∀{l:List α},(∀y∈l,Q x y=Ah)->KT Q x l=l++[x]
 |[],_=>rfl
 |y::l,h=>by rw[KT,h y (by simp),if_neg (by simp),Zb6 λz a=>h z (by simp[a])];rfl
def Sep.upG {α:Type} {kt et:Ai} {kv vv:α->Aa} {Q:α->α->Bool} (K:Acl kt kv Q) (b:Ax.ds.get t=I (.map kt et)) {l:List Ct} {xs:List α} (s:Sep h0 h l) (a:l[i]?=I (aG kv vv r xs)) (x:α):∃J,BH Ax t (.map (I r)) (kv x) (vv x) h=I J/\Sep h0 J (l.set i (aG kv vv r (KT Q x xs))):=by
 obtain⟨J,e,m,u⟩:=TA.ah K b (s.2.1 i _ a).1 x;exact⟨J,e,s.ah a u.ae m λx c=>.inl c⟩
abbrev KI:=Bd×Bd
def Pi (p:KI):Value:=.string p.1
def Q7 (p:KI):Value:=.string p.2
def LT (a b:KI):Bool:=Gp a.1.data.toList b.1.data.toList
def Zb0 {a b:KI}:LT a b=Ag↔a.1=b.1:=CJ
def Zbm:Acl 9 Pi LT:=⟨λ_ _=>rfl,λa b=>Zb0.trans ⟨λh=>by unfold Pi;rw[h],λh=>by injection h⟩,λa=>CJ.2 rfl,λ_=>rfl⟩
def Id (e:Ap):KI:=match e.key,e.val with
 |.int _ z,.string x=>(x,Utf8.encode z)
 |_,_=>(⟨#[]⟩,⟨#[]⟩)
def Zbp:List KI:=[(⟨#[239,190,158]⟩,⟨#[227,130,155]⟩),(⟨#[239,190,159]⟩,⟨#[227,130,156]⟩)]
def NB:List KI:=Zbp++Hp.map Id
def Zau:List KI->Bool
 |[]=>Ag
 |a::l=>l.all (λb=>!LT a b)&&Zau l
def Zav:∀{l:List KI},Zau l=Ag->l.Pairwise λa b=>a.1≠b.1
 |[],_=>.nil
 |a::l,h=>by
  unfold Zau at h;rw[An] at h;exact .cons (λb c e=>by have:=List.all_eq_true.1 h.1 b c;rw[Zb0.2 e] at this;cases this) (Zav h.2)
def Zat:NB.Pairwise λa b=>a.1≠b.1:=Zav (by kernel_rfl)
def Zb4:(NB.all λp=>Ar p.2.size 8)=true:=by kernel_rfl
def Zby {α:Type} {R:α->α->Prop} (c:∀a b,R a b->R b a):∀{l:List α} {a b:α},l.Pairwise R->a∈l->b∈l->a=b\/R a b
 |_::_,a,b,.cons h1 h2,ha,hb=>by
  rcases List.mem_cons.1 ha with rfl|p<;>rcases List.mem_cons.1 hb with rfl|q
  ·exact .inl rfl
  ·exact .inr (h1 _ q)
  ·exact .inr (c _ _ (h1 _ p))
  ·exact Zby c h2 p q
def Zbl {a b:KI} (c:a∈NB) (d:b∈NB) (e:a.1=b.1):a=b:=(Zby (λ_ _ h=>h.symm) Zat c d).resolve_right λh=>h e
def Zay {e c:Ap} (h:e∈Hp) (J:c∈Hp) (g:(Id e).1=(Id c).1):e=c:=by
 have d:(Hp.map Id).Pairwise λa b=>a.1≠b.1:=(List.pairwise_append.1 Zat).2.1;exact (Zby (R:=λa b=>(Id a).1≠(Id b).1) (λ_ _ h=>h.symm) ((List.pairwise_map (f:=Id) (R:=λa b:KI=>a.1≠b.1)).1 d) h J).resolve_right λh=>h g
def OB (t:Bd):Option KI:=NB.find? (LT (t,⟨#[]⟩))
def Zbr {l:List KI} (c:∀p,p∈l↔p∈NB) (t:Bd):l.find? (LT (t,⟨#[]⟩))=OB t:=by
 unfold OB;cases h1:l.find? (LT (t,⟨#[]⟩)) with
 |none=>exact (List.find?_eq_none.2 λp d=>List.find?_eq_none.1 h1 p ((c p).2 d)).symm
 |some y=>
  cases h2:NB.find? (LT (t,⟨#[]⟩)) with
  |none=>exact absurd (List.find?_some h1) (List.find?_eq_none.1 h2 y ((c y).1 (List.mem_of_find?_eq_some h1)))
  |some y'=>
   have a:t=y.1:=Zb0.1 (List.find?_some h1);have b:t=y'.1:=Zb0.1 (List.find?_some h2);rw[Zbl ((c y).1 (List.mem_of_find?_eq_some h1)) (List.mem_of_find?_eq_some h2) (a.symm.trans b)]
def Zbs {t:Bd} {y:KI} (h:OB t=I y):y.2.size<=8:=Ac (List.all_eq_true.1 Zb4 y (List.mem_of_find?_eq_some h))
def Zb1 (l:AH) (k:Nat):Int:=match l[k]? with|some (.int _ z)=>z|_=>0
def Zb2 (l:AH) (k:Nat):Bd:=match FU ((l.drop k).take 2) with|some b=>⟨⟨b⟩⟩|none=>⟨#[]⟩
def Xe (l:AH) (k:Nat):Nat×Bl:=match (if k+1<l.length then OB (Zb2 l k) else Z) with
 |some y=>(k+2,y.2.data.toList)
 |none=>(k+1,match OB (Utf8.encode (Zb1 l k)) with|some y=>y.2.data.toList|none=>Wq (Zb1 l k))
def Fd (l:AH):Nat->Nat×Bl
 |0=>(0,[])
 |n+1=>if (Fd l n).1<l.length then ((Xe l (Fd l n).1).1,(Fd l n).2++(Xe l (Fd l n).1).2) else Fd l n
def Zbb {l:AH} {n:Nat} (h:l.length<=(Fd l n).1):∀d,Fd l (n+d)=Fd l n
 |0=>rfl
 |d+1=>by rw[←DD,Fd,Zbb h d,if_neg G]
def Zbc {l:AH} {n m:Nat} (h:l.length<=(Fd l n).1) (J:l.length<=(Fd l m).1):Fd l n=Fd l m:=by
 rcases Nat.le_total n m with a|a<;>obtain⟨d,rfl⟩:=Nat.le.dest a
 ·exact (Zbb h d).symm
 ·exact Zbb J d
open Classical in
def Li (s:Bd):Bd:=if FH s=Ag then (if h:∃n,(CA s.size s.data.toList).length<=(Fd (CA s.size s.data.toList) n).1 then ⟨⟨(Fd (CA s.size s.data.toList) (Classical.choose h)).2⟩⟩ else s) else s
def Za7 {s:Bd} {n:Nat} (a:FH s=Ag) (h:(CA s.size s.data.toList).length<=(Fd (CA s.size s.data.toList) n).1):Li s=⟨⟨(Fd (CA s.size s.data.toList) n).2⟩⟩:=by
 have e:∃n,(CA s.size s.data.toList).length<=(Fd (CA s.size s.data.toList) n).1:=⟨n,h⟩;unfold Li;rw[if_pos a,dif_pos e,Zbc (Classical.choose_spec e) h]
def c41 (B:Base5 S L) (FW:Zab S L h) (F:Ce h) (hs:s.size<=1000):PE S L 7 41 [.string s] h λw J=>AA h J/\w=.string (Li s)/\(Li s).size<=10000:=
 GU (fn:=f41) B.toBase Kq rfl λd hd'=>by
  have hL:=B.aI;refine⟨Dc rfl,_,(c77 B F G d G).any,?_⟩;rintro _ h1 ⟨x1,rfl⟩;refine⟨_,_,rfl,Ad (λk0=>?_) (λk0=>?_)⟩
  ·have e:Li s=s:=by unfold Li;rw[if_neg (by simpa using k0)]
   rw[e];exact⟨x1,rfl,G⟩
  have hv:FH s=true:=by simpa using k0
  obtain⟨b,D⟩:∃b,b=h1.nx:=⟨_,rfl⟩;have s1:Sep h (h1.new (.map [] 0)) [aG Pi Q7 b []]:=((Sep.nil h).ext x1).add (a:=aG Pi Q7 b []) (AA.new _ _) ⟨by rw[D,Ck];omega,[],0,by rw[D,CK,if_pos rfl],rfl,rfl⟩ λi R=>A2 (D.symm.trans (show i=b from R).symm);obtain⟨h2,u2,s2⟩:=s1.upG (t:=173) (et:=9) (i:=0) Zbm Kq rfl (⟨#[239,190,158]⟩,⟨#[227,130,155]⟩);obtain⟨h3,u3,s3⟩:=s2.upG (t:=173) (et:=9) (i:=0) Zbm Kq rfl (⟨#[239,190,159]⟩,⟨#[227,130,156]⟩);have e3:KT LT (⟨#[239,190,159]⟩,⟨#[227,130,156]⟩) (KT LT (⟨#[239,190,158]⟩,⟨#[227,130,155]⟩) [])=Zbp:=by kernel_rfl
  have s3:Sep h h3 [aG Pi Q7 b (KT LT (⟨#[239,190,159]⟩,⟨#[227,130,156]⟩) (KT LT (⟨#[239,190,158]⟩,⟨#[227,130,155]⟩) []))]:=s3;rw[e3] at s3;rw[D] at u2 u3;refine⟨_,_,congrArg Nb u2,_,_,congrArg Nb u3,_,(FW s3.e d G).any,?_⟩;rw[←D];rintro _ _ ⟨rfl,rfl⟩;obtain⟨r,hr⟩:∃r,r=h3.nx:=⟨_,rfl⟩;have s4:=s3.add (a:=aB h3.nx (.map Hp 87)) (AA.new _ (.map Hp 87)) ⟨by rw[Ck];omega,by rw[CK,if_pos rfl]⟩ λi R=>A2 (show i=h3.nx from R).symm;rw[←hr] at s4⊢;generalize h3.new (.map Hp 87)=h4 at s4⊢;have h87:Hp.length=87:=by kernel_rfl
  obtain⟨h5,y5,s5⟩:=s4.cN (τ:=Ax) (t:=174) (kt:=21) (et:=9) Kq (i:=0) rfl (λx=>Iff.rfl) (s4.2.1 0 _ rfl).1.2 Zao;refine⟨_,_,y5,λμ A DD K=>∃M:List Ap,A=[(0,.string s),(3,.map (I b)),(20,AG h4.nx 0)]/\DD=[]/\μ=Hp.length-M.length/\Sep h K [Yu h4.nx r Hp M,aG Pi Q7 b (Zbp++M.map Id)],
   ⟨_,_,Sq,G,[],rfl,rfl,rfl,s5⟩,?_⟩
  rintro μ A DD N ⟨M,rfl,rfl,rfl,s6⟩ hLt;refine s6.cO (i:=0) rfl (λhall=>?_) (λe he hn h7 O=>?_);rotate_left
  ·obtain⟨z,x,hk,hx,_⟩:=Za1 he;have ent:=QO (O.it (i:=0) rfl);have:=(O.it (i:=0) rfl).len;rw[Aj,Br] at this;have ep:Id e=(x,Utf8.encode z):=by unfold Id;rw[hk,hx]
   have E:=(s6.it (i:=0) rfl).sub;obtain⟨h8,u8,s8⟩:=O.upG (t:=173) (et:=9) (i:=1) Zbm Kq rfl (x,Utf8.encode z);rw[Zb6 λy V=>Bool.eq_false_iff.2 λP=>?_,←ep,KA,show M.map Id++[Id e]=(M++[e]).map Id by simp] at s8;rotate_left
   ·have P:(Id e).1=y.1:=by rw[ep];exact Zb0.1 P
    have he9:Id e∈NB:=List.mem_append_right _ (Gn he);rcases List.mem_append.1 V with V|V
    ·exact (List.pairwise_append.1 Zat).2.2 y V _ (Gn he) P.symm
    ·obtain⟨e',he',rfl⟩:=List.mem_map.1 V;exact hn (Zay he (E e' he') P▸he')
   rw[hk,hx] at ent⊢;exact⟨_,_,congrArg (CN _) ent,_,rfl,_,_,congrArg Nb u8,_,_,Sq,(by rw[Aj,Br];omega:Hp.length-(M++[e]).length<_),_,rfl,rfl,rfl,s8⟩
  have E:=(s6.it (i:=0) rfl).sub;have hm:∀p,p∈Zbp++M.map Id↔p∈NB:=λp=>by
   unfold NB;simp only[List.mem_append,List.mem_map];exact or_congr Iff.rfl ⟨λ⟨e,h,q⟩=>⟨e,E e h,q⟩,λ⟨e,h,q⟩=>⟨e,hall e h,q⟩⟩
  have lk:=Zbr hm;generalize Zbp++M.map Id=lF at s6 lk;obtain⟨l,hl⟩:∃l,l=CA s.size s.data.toList:=⟨_,rfl⟩;obtain⟨r1,r2⟩:=LJ s.size s.data.toList;have Da:∀{n:Nat} {k:Nat} {bs:Bl},Fd l n=(k,bs)->l.length<=k->Li s=⟨⟨bs⟩⟩:=λe hk=>by
   rw[hl] at e hk;rw[Za7 hv (n:=_) (by rw[e];exact hk),e]
  rw[←hl] at r1 r2;have cv:Ea Ax 9 176 (.string s) N=I (.slice (I ⟨N.nx,0,Z⟩) l.length l.length,HY N 21 l):=by rw[hl];rfl
  have O:=(s6.drop 1:Sep h N [aG Pi Q7 b lF]).add (a:=aO N.nx 21 l) (AA.a4 N 21 l) (Own.a4 N 21 l) λi R=>A2 R.symm;obtain⟨Q,P⟩:∃q,q=N.nx:=⟨_,rfl⟩;rw[←P] at O cv;obtain⟨g1,y1,s8⟩:=O.a3;refine⟨_,_,cv,_,_,y1 _,?_⟩;generalize(HY N 21 l).nx=bb at s8;refine⟨λμ A DD K=>∃(k n:Nat) (v:Aa) (bs:Bl),A=[(3,.map (I b)),(6,.slice (I ⟨Q,0,Z⟩) l.length l.length),(7,AG bb 0),(8,.int .i64 k)]/\DD=[]/\μ=l.length-k/\k<=l.length/\bs.length<=8*k/\Fd l n=(k,bs)/\Sep h K [RK h.nx bb v bs,aO Q 21 l,aG Pi Q7 b lF],
   ⟨_,_,Sq,G,0,0,_,[],rfl,rfl,rfl,Al _,Ae _,rfl,s8⟩,?_⟩
  rintro μ A DD K ⟨k,n,v,bs,rfl,rfl,rfl,hk,hb,hn9,f⟩ hLt;refine Ad (λk1=>?_) (λk1=>⟨_,(c81 B.toBase (f.bl (i:=0) rfl) G d G).any,?_⟩);rotate_left
  ·rintro _ g ⟨rfl,c6⟩;have:=of_decide_eq_false k1;rw[Da hn9 G];exact⟨f.e.then c6 λi R=>(f.bl (i:=0) rfl).o.ge i R,rfl,by show bs.length<=_;omega⟩
  have k1:=of_decide_eq_true k1;have X:k<l.length:=G;have rd:Rd K (.slice (I ⟨Q,0,Z⟩) l.length l.length) 1 l.length l:=Own.dB (k:=1) (f.dD (i:=1) rfl) G;have H:∀{A:As} {J:Y} {cs:Bl} {k':Nat},Sub [(3,.map (I b)),(6,.slice (I ⟨Q,0,Z⟩) l.length l.length),(7,AG bb 0),(8,.int .i64 k')] A->k<k'->k'<=l.length->cs.length<=8->Xe l k=(k',cs)->Gu K J h.nx bb v (bs++cs)->∃m' A0,Sub A0 A/\m'<l.length-k/\∃(k n:Nat) (v:Aa) (bs:Bl),A0=[(3,.map (I b)),(6,.slice (I ⟨Q,0,Z⟩) l.length l.length),(7,AG bb 0),(8,.int .i64 k)]/\([]:Bo)=[]/\m'=l.length-k/\k<=l.length/\bs.length<=8*k/\Fd l n=(k,bs)/\Sep h J [RK h.nx bb v bs,aO Q 21 l,aG Pi Q7 b lF]:=λE h1 h2 hc P w7=>by
   obtain⟨v7,O⟩:=f.bf (i:=0) rfl w7;exact⟨_,_,E,(show l.length-_<_ by omega),_,n+1,_,_,rfl,rfl,rfl,h2,by rw[Aj];omega,by rw[Fd,hn9];simp only[];rw[if_pos X,P],O⟩
  have Aoa:∀{t:Bd} {y:KI},OB t=I y->BW Ax 173 (.map (I b)) (.string t) Ag K=I (.tuple #[Q7 y,.bool Ag]):=λ{t y} e=>by
   have:=TA.look (t:=173) (et:=9) (z:=.string ⟨#[]⟩) Zbm Kq Kq (f.2.1 2 _ rfl).1 (t,⟨#[]⟩);rw[lk t,e] at this;exact this
  have Ayk:∀{t:Bd},OB t=Z->BW Ax 173 (.map (I b)) (.string t) Ag K=I (.tuple #[.string ⟨#[]⟩,.bool Ah]):=λ{t} e=>by
   have:=TA.look (t:=173) (et:=9) (z:=.string ⟨#[]⟩) Zbm Kq Kq (f.2.1 2 _ rfl).1 (t,⟨#[]⟩);rw[lk t,e] at this;exact this
  obtain⟨A3,c3,z,e3,cz⟩:=rd.rune r2 (k:=k) G;cases e3;have hz:Zb1 l k=z:=by
   obtain⟨z',hz'⟩:=r2 l[k] (Bu X);have h1:l[k]?=I (.int .i32 z'):=by rw[Ab X,hz']
   have:=(ld (τ:=Ax) (t:=21) rfl cz).symm.trans (Dz (ld rfl ((f.dD (i:=1) rfl).cell h1)) (by show 0+k*1+0=k;omega));cases this;unfold Zb1;rw[h1]
  refine⟨Pq,Bz (λk2=>?_) (λk2=>?_)⟩;obtain⟨v',e1,rd2,_⟩:=Rd.slice (τ:=Ax) (t:=176) (k:=1) Kq rd (lo:=I (.int .i64 k)) (U:=I (.int .i64 ((k:Int)+2))) (l:=k) (m:=k+2) rfl rfl G G;obtain⟨A',c',rfl⟩:∃A c,v'=.slice A (k+2-k) c:=by obtain⟨_,A,c,e,_⟩:=rd2;exact⟨A,c,e⟩
  obtain⟨t,e2,_,e4⟩:=Zi rd2 λu hu=>r2 u (List.mem_of_mem_drop (List.mem_of_mem_take hu));have et:Zb2 l k=t:=by
   have e4:=e4 G;rw[BJ,BJ,show k+2-k=2 by omega] at e4;unfold Zb2;rw[e4]
  rcases j:OB t with _|y;rotate_left
  ·have V:=Zbs j;refine⟨Pq,_,_,congrArg (CN _) e1,_,e2,_,_,congrArg (CN _) (Aoa j),_,(c79 B.toBase (f.bl (i:=0) rfl) f.e.nx G d G).any,λ_ J w7=>⟨Pq,Pq,H (k':=k+2) (Sq) G G (Zbs j) (by unfold Xe;rw[if_pos G,et,j]) w7⟩⟩
  rotate_left;refine⟨Pq,_,_,congrArg (CN _) e1,_,e2,_,_,congrArg (CN _) (Ayk j),?_⟩
  all_goals
   have st:Xe l k=(k+1,match OB (Utf8.encode z) with|some y=>y.2.data.toList|none=>Wq z):=by
    unfold Xe;rw[hz]
    first|rw[if_neg G]|rw[if_pos G,et,j]
   have la:∀{v},Bw Ax 21 K Q (0+k*1+0)=I v->Bw Ax 21 K Q (0+(k:Int).toNat*1)=I v:=λh=>Dz h (by show 0+(k:Int).toNat*1=0+k*1+0;omega);rcases C:OB (Utf8.encode z) with _|y
   ·rw[C] at st;exact⟨G,_,la (ld rfl cz),_,rfl,_,_,congrArg (CN _) (Ayk C),G,_,la (ld rfl cz),_,(c80 B.toBase (f.bl (i:=0) rfl) f.e.nx G d G).any,λ_ J ⟨cs,hc,_,hka,w7⟩=>⟨Pq,H (k':=k+1) (Sq) G G G (by rw[st,hka]) w7⟩⟩
   ·rw[C] at st;have V:=Zbs C;exact⟨G,_,la (ld rfl cz),_,rfl,_,_,congrArg (CN _) (Aoa C),_,(c79 B.toBase (f.bl (i:=0) rfl) f.e.nx G d G).any,λ_ J w7=>⟨Pq,H (k':=k+1) (Sq) G G (Zbs C) st w7⟩⟩
def Za8:Li ⟨⟨ZJ⟩⟩=⟨⟨ZJ⟩⟩:=by
 by_cases hv:FH ⟨⟨ZJ⟩⟩=Ag
 ·exact(Za7 (n:=2) hv (Ac (by kernel_rfl))).trans (by kernel_rfl)
 ·unfold Li;rw[if_neg hv]
section
variable{α:Type} {kt:Ai} {kv vv:α->Aa} {Q:α->α->Bool}
def YG {a:Type} (Cr:a->AH) (xs:List a):AH:=match xs with
 |[]=>[.pointer Z]
 |x::xs=>(x::xs).flatMap Cr
def Y7 {d:Type} {Cr:d->AH} (g:∀a,(Cr a).length=k/\(Cr a).all plainCell=Ag) {h:Y} {xs:List d} (o:AS h N e k v xs.length (xs.flatMap Cr)) (i:xs=[]->v=.slice Z 0 0):MB h N e k v=I (xs.length,YG Cr xs):=by
 cases xs with
 |nil=>rw[i B];rfl
 |
  cons x xs=>
  obtain⟨t,⟨_,j⟩|⟨b,c,A,rfl,l,m,w,n⟩⟩:=o
  .cases j
  obtain⟨z,y,p,f⟩:=n.bx (off:=0) (k:=(x::xs).length*k) Jq;have q:((x::xs).flatMap Cr).all plainCell=true:=List.all_eq_true.2 λu r=>by
   obtain⟨a,_,s⟩:=List.mem_flatMap.1 r;exact List.all_eq_true.1 (g a).2 u s
  rw[Ajb,UR G,Bj G] at f;unfold MB;simp only[p,Aq l,show Am e e=Ag from Mi e,Aq (show 0+c*k<=(((x::xs).flatMap Cr)++A).length by omega),Aq m,Mh,D1,f,q];rfl
def Agc {b:Type} {Cr:b->AH} {f:Nat} {h:Y} {xs:List b} (g:Ax.fn.get f=I fn) (j:S.hk f=Z) (l:S.ov f=Z) (o:S.nd f=I e) (U:(match Ax.aj.get e with|some i=>Am i.size k|none=>Ah)=Ag)
 (p:∀a,(Cr a).length=k) (r:∀xs:List b,Dv (YG Cr xs) (YG Cr xs)=Ag)
 (c:∀n,d<=n->MT Ag Ax (B8 Ax S L n) L fn args h.ad λv J=>J.lo.ag h.nx=Ag/\MB J h.nx e k v=I (xs.length,YG Cr xs)):Bk S L (d+1) f args h λw J=>AA h J/\AS J h.nx e k w xs.length (xs.flatMap Cr):=by
 intro n A;obtain⟨m,rfl⟩:∃q,n=q+1:=⟨n-1,G⟩;obtain⟨i,s,t⟩:∃i,Ax.aj.get e=I i/\i.size=k:=by
  split at U
  .exact⟨_,by assumption,Af U⟩
  .cases U
 subst t;refine(Axf g j l o s (r xs) (λh0=>by rw[BO h0];rfl) (c m G)).mono λw J u=>?_;rcases u with⟨h0,rfl,rfl⟩|⟨h0,rfl,rfl⟩
 .rw[BO h0]
  exact⟨AA.refl _,AS.nil _ _ _ _⟩
 .cases xs with
  |nil=>exact Cf B h0
  |
   cons x xs=>
   refine⟨AA.a4 _ _ _,Own.bN (Own.a4 _ _ _) ?_ Jq⟩;have:∀ys:List b,(ys.flatMap Cr).length=ys.length*i.size:=λys=>by
    induction ys with
    |nil=>simp
    |cons y ys z=>rw[Dg,Aj,p,z,AO,Dw,Nat.one_mul];omega
   exact this _
end
def Zcg (n:Nat) (v:Aa) (xs:AH):Ct:=
⟨BY v,λh=>Rd h v 1 n xs/\∀i,BY v i->i<h.nx,λc b o=>⟨o.1.ae c b,λi a=>AC (o.2 i a) c.nx⟩,λo=>o.2,λo=>⟨o.1.aa,λi a=>by rw[CL];exact o.2 i a⟩⟩
def R0 (S:A9) (L:Nat) (SP:Bd->Int->BZ) (h:Y):Prop:=∀{J:Y} {s:Bd} {day:Int},AA h J->s.size<=200000->Bk S L 1 26 [.string s,Vi day] J λw g=>AA J g/\(Zcg (SP s day).length w (AR (SP s day))).holds g/\(∀i,BY w i->J.nx<=i)/\(SP s day).length<=2000
open Classical in
def H8 (o:BZ) (x:Bd):BZ:=if x∈o then o else o++[x]
def S6 (DA:Nat->Bd->Bd) (s:Bd):BZ:=[DA 27 (Li s),DA 42 (Li s),DA 43 s,DA 44 s].foldl H8 []
def Zcm (DA:Nat->Bd->Bd) (SP:Bd->Int->BZ) (a:Bd) (day:Int) (mo:Nat) (b:BZ):List Eu:=(S6 DA a).foldl (Gz mo 3) ((SP (DA 27 a) day).foldl (Gz mo 2) ((SP a day).foldl (Gz mo 2) (b.foldl (Gz mo 1) [])))
def Za3 (xs:BZ):xs.flatMap (λs=>[Value.string s])=AR xs:=by
 induction xs with
 |nil=>rfl
 |cons x xs ih=>rw[Dg,ih];rfl
def Zb3:∀xs:BZ,Dv (AR xs) (AR xs)=Ag
 |[]=>rfl
 |x::xs=>by
  show(Gp x.data.toList x.data.toList&&Dv (AR xs) (AR xs))=Ag;rw[Zb3 xs,CJ.2 rfl];rfl
def Zas:∀(l o:BZ),(l.foldl H8 o).length<=o.length+l.length
 |[],_=>Ae _
 |x::l,o=>by
  have h:=Zas l (H8 o x);have a:(H8 o x).length<=o.length+1:=by
   unfold H8;split
   ·exact Yr _
   ·rw[Aj];exact Ae _
  show(l.foldl H8 (H8 o x)).length<=_;rw[AO];omega
def c15 (B:Base5 S L) (C:S.ov 15=Z/\S.nd 15=I 9/\S.hk 15=Z) {DA:Nat->Bd->Bd} (K:Pw S L DA h) (F:Ce h) {s:Bd} (M:s.size<=1000):Bk S L 9 15 [.string s] h λw J=>AA h J/\AS J h.nx 9 1 w (S6 DA s).length (AR (S6 DA s))/\(S6 DA s).length<=4:=by
 refine(Agc (fn:=f15) (e:=9) (k:=1) (Cr:=λs=>[Value.string s]) (xs:=S6 DA s) Kq C.2.2 C.1 C.2.1 Kq (λ_=>rfl) (λxs=>?_) λd V=>?_).mono λw J ⟨x,o⟩=>⟨x,by rw[Za3] at o;exact o,Zas _ _⟩
 ·cases xs with
  |nil=>rfl
  |cons x xs=>
   show Dv ((x::xs).flatMap _) ((x::xs).flatMap _)=Ag;rw[Za3];exact Zb3 _
 have hL:=B.aI;have K:=K.ext (AA.ad h);have F:=F.ext (AA.ad h);obtain⟨H0,D⟩:∃H0,H0=h.ad:=⟨_,rfl⟩;have E:h.nx=H0.nx:=by rw[D];rfl
 rw[←D] at K F⊢;rw[E];refine⟨Dc rfl,_,c41 B K.kfm F M d G,?_⟩;rintro _ h1 ⟨N,rfl,ht⟩;refine⟨_,(K.kan 27 N (.inl ⟨.inl rfl,G⟩) d G).any,?_⟩;rintro _ h2 ⟨p,rfl⟩;have p:=N.trans p;refine⟨_,(K.kan 42 p (.inl ⟨.inr (.inl rfl),G⟩) d G).any,?_⟩;rintro _ h3 ⟨q,rfl⟩;have q:=p.trans q;refine⟨_,(K.kan 43 q (.inr ⟨rfl,M⟩) d G).any,?_⟩;rintro _ h4 ⟨r,rfl⟩;have r:=q.trans r;refine⟨_,(K.kan 44 r (.inl ⟨.inr (.inr rfl),G⟩) d G).any,?_⟩;rintro _ O ⟨H,rfl⟩;have H:=r.trans H;obtain⟨f,j⟩:∃f,f=[DA 27 (Li s),DA 42 (Li s),DA 43 s,DA 44 s]:=⟨_,rfl⟩;have X:f.length=4:=by rw[j];rfl
 have hf:S6 DA s=f.foldl H8 []:=by rw[j];rfl
 rw[hf];have P:=(((Sep.nil H0).ext H).cE 4 (ss:=[DA 27 (Li s),DA 42 (Li s),DA 43 s,DA 44 s]) rfl).add (a:=aS H0.nx 9 1 (.slice Z 0 0) 0 (AR [])) (AA.refl _) (AS.nil _ _ _ _) λi hi=>hi.elim;refine⟨_,_,Awt _ _ _ _ _,?_⟩;rw[←j] at P⊢;refine⟨λμ A Q R=>∃(k:Nat) (v:Aa),A=[(3,v),(17,.slice (I ⟨O.nx,0,Z⟩) 4 4),(18,.int .i64 4),(19,.int .i64 k)]/\Q=[]/\μ=4-k/\k<=4/\((f.take k).foldl H8 []=[]->v=.slice Z 0 0)/\Sep H0 R [aS H0.nx 9 1 v ((f.take k).foldl H8 []).length (AR ((f.take k).foldl H8 [])),aS H0.nx 9 1 (.slice (I ⟨O.nx,0,Z⟩) 4 4) 4 (AR f)],
  ⟨_,_,Sq,G,0,_,rfl,rfl,rfl,Al _,λ_=>rfl,P⟩,?_⟩
 rintro μ A Q R ⟨k,v,rfl,rfl,rfl,hk,y,s⟩ hLt;refine Ad (λl=>?_) (λl=>?_);rotate_left
 ·have l:=of_decide_eq_false l;rw[Bj G] at y s;refine⟨?_,Y7 (Cr:=λs=>[Value.string s]) (λ_=>⟨rfl,rfl⟩) (by rw[Za3];exact s.sl (i:=0) rfl) y⟩;have x:=s.e;rw[D] at x⊢;exact x.ag
 have l:=of_decide_eq_true l;have m:k<f.length:=G;have g:(f.take (k+1)).foldl H8 []=H8 ((f.take k).foldl H8 []) f[k]:=by rw[A5 m,K1];rfl
 have U:=Zas (f.take k) [];rw[Cg,Acd] at U;generalize(f.take k).foldl H8 []=ss at U s g y;have o:=s.sl (i:=0) rfl;obtain⟨A1,c1,rfl⟩:∃A c,v=.slice A ss.length c:=by obtain⟨_,A,c,e,_⟩:=o.rd;exact⟨A,c,e⟩
 obtain⟨b,c,e,_,cl⟩:=(s.sl (i:=1) rfl).cell (i:=k) (Dl m);cases e;generalize f[k]=u at cl g;refine⟨G,_,Dz (ld rfl cl) (by show 0+(k:Int).toNat*1=_;omega),_,(c45 B.toBase o.rd G d G).any,?_⟩;rintro _ h9 ⟨rfl,b2,rfl,n⟩;refine⟨_,_,rfl,Ad (λz=>?_) (λz=>?_)⟩
 ·have g:(f.take (k+1)).foldl H8 []=ss++[u]:=by rw[g];unfold H8;rw[if_neg λh=>by rw[n.2 h] at z;cases z]
  obtain⟨v',J,t5,s5⟩:=s.ba (st:=55) (t2:=55) (e:=9) (k:=1) Kq (i:=0) rfl (ys:=[.string u]) rfl rfl s.e.nx G (n':=(ss++[u]).length) (xs':=AR (ss++[u])) (by simp) (by simp[AR]);exact⟨_,_,Iv (τ:=Ax) (t:=55) (e:=9) (k:=1) Kq (.string u) rfl rfl (by decide) _,_,_,t5,Pq,_,_,Sq,(by omega:4-(k+1)<_),k+1,_,rfl,rfl,rfl,G,λh=>by rw[g] at h;simp at h,by rw[g];exact s5⟩
 ·have g:(f.take (k+1)).foldl H8 []=ss:=by rw[g];unfold H8;rw[if_pos (n.1 (by cases b2;cases z;rfl))]
  exact⟨Pq,_,_,Sq,(by omega:4-(k+1)<_),k+1,_,rfl,rfl,rfl,G,by rw[g];exact y,by rw[g];exact s⟩
def Sep.cS {h0 h:Y} {l:List Ct} {v w:Aa} {ss a:BZ} (s:Sep h0 h l) {i:Nat} (U:l[i]?=I (aS h0.nx 9 1 v ss.length (AR ss))) (r:Rd h w 1 a.length (AR a)) (hb:ss.length+a.length<=1000000):
 ∃v' J,Bx Ax .append [55,55] [v,w] h=I (v',J)/\Sep h0 J (l.set i (aS h0.nx 9 1 v' (ss++a).length (AR (ss++a)))):=by
 obtain⟨b,c1,rfl⟩:∃A c,w=.slice A a.length c:=by obtain⟨_,A,c,e,_⟩:=r;exact⟨A,c,e⟩
 obtain⟨v',J,d,f,g,j⟩:=UN (τ:=Ax) (st:=55) (t2:=55) (e:=9) (k:=1) Kq (s.sl U) (x:=.slice b a.length c1) r.bu r.src (by rw[CM];omega) (by unfold AR;rw[List.all_map];exact List.all_eq_true.2 λ_ _=>rfl) s.e.nx G;refine⟨v',J,d,s.ah U g ?_ j⟩;show AS J h0.nx 9 1 v' (ss++a).length (AR (ss++a));rw[Aj,show AR (ss++a)=AR ss++AR a from BS];exact f
def Sep.cu {τ:Bb} {t K:Nat} (d:ZX τ t K=Ag) {h0 h:Y} {l:List Ct} (s:Sep h0 h l) {i b e:Nat} {xs vs:AH} (U:l[i]?=I (aO b e xs)) (c:vs.length=K) (a:xs.length=K) (h1:vs.all one=Ag):
 ∃J,BA τ t h b 0 (.agg ⟨vs⟩)=I J/\Sep h0 J (l.set i (aO b e vs)):=by
 obtain⟨J,f,o,u⟩:=(s.dD U).bD (i:=0) d c G h1;have:=JB vs [] xs (c.trans a.symm);simp only[IW,Acd] at this;rw[this] at o;exact⟨J,f,s.ah U u.ae o λx a=>.inl a⟩
def Own.cI {h:Y} {b e n k:Nat} {ys:AH} (o:Own h b e ys) (a:ys.length=n*k):Rd h (.slice (I ⟨b,0,I 0⟩) n n) k n ys:=
 Own.cV (pre:=[]) (post:=[]) (by simpa using o) a (Ae _)
def J26 (h:Y) (A:As) (a:Y):Prop:=∃(v:Aa) (ss:BZ) (t:Bd) (b:Nat) (ys:AH),A=[(5,v),(6,.string t),(8,AG b 0)]/\ss.length<=30/\TT Apu 12 ys/\Sep h a [aO b 150 ys,aS h.nx 9 1 v ss.length (AR ss)]
def c26 (B:Base5 S L) {DA:Nat->Bd->Bd} {h:Y} (k0:∀l args h,(match S.ov 26 with|some g=>g l args h|none=>Z)=Z) (c:S.nd 26=Z/\S.hk 26=Z) (K:Pw S L DA h) (q:Jx h) (U:Mo h) {s:Bd} (hs:s.size<=200000) {day:Int}:Bk S L 11 26 [.string s,.int .i64 day] h λw J=>AA h J/\Pb h J 2000 w:=
 Zcn (fn:=f26) (λ_=>k0 _ _ _) c Kq 5 (J26 h) λd hd'=>by
  have hL:=B.aI;refine⟨Dc rfl,⟨_,c59 B.toBase U G d G,?_⟩,?_⟩
  ·rintro v h1 ⟨o,ss,V,hl1⟩;refine⟨_,K.kan 27 o (.inl ⟨.inl rfl,hs⟩) d G,?_⟩;rintro _ h2 ⟨y,rfl⟩;generalize DA 27 s=t;refine⟨_,c60 B.toBase d G,?_⟩;rintro _ h3 ⟨x3,C,rfl,p⟩;refine⟨_,c61 B.toBase d G,?_⟩;rintro _ h4 ⟨x4,ys,rfl,f⟩;have m:=(((Sep.nil h).add (a:=aS h.nx 9 1 v ss.length (AR ss)) o V V.ai).ext (y.trans x3)).ext x4;obtain⟨g5,X,s5⟩:=m.al (t:=146) (z:=.agg ⟨cs0 6 (.int .i64 0)⟩) Kq;obtain⟨g6,y6,D⟩:=s5.al (t:=150) (z:=.agg ⟨cs0 12 (.string ⟨#[]⟩)⟩) Kq;obtain⟨b1,E⟩:∃b,b=h4.nx:=⟨_,rfl⟩;obtain⟨k,F⟩:∃b,b=g5.nx:=⟨_,rfl⟩;rw[←E] at X s5 D;rw[←F] at y6 D;obtain⟨g7,y7,s7⟩:=D.cu (τ:=Ax) (t:=146) (K:=12) Kq (i:=1) rfl p.1 rfl p.2.1;obtain⟨g8,y8,r⟩:=s7.cu (τ:=Ax) (t:=150) (K:=24) Kq (i:=0) rfl f.1 rfl f.2.1;have r:Sep h g8 [aO k 150 ys,aO b1 146 C,aS h.nx 9 1 v ss.length (AR ss)]:=r;refine⟨_,_,X _,_,_,y6 _,_,y7,_,y8,_,_,rfl,_,Aoy (R:=Awy) B.toBase ((r.dD (i:=1) rfl).cI p.1) (by decide) p (λu ⟨z,e,_⟩=>by rw[e];rfl) ⟨0,rfl,by decide,by decide⟩ (.inl ⟨rfl,rfl,rfl⟩) d G,?_⟩;rintro _ h9 ⟨x9,u,b,rfl,z,rfl,hz⟩;have x:=r.ext x9;have j:∀{A:As},Sub [(5,v),(6,.string t),(8,AG k 0)] A->∃A0,Sub A0 A/\J26 h A0 h9:=λH=>⟨_,H,v,ss,t,k,ys,rfl,G,f,(x.perm (l':=[aO b1 146 C,aO k 150 ys,aS h.nx 9 1 v ss.length (AR ss)]) (.swap ..)).drop 1⟩;cases b
   ·exact j (Sq)
   refine Ad (λc=>Ad (λM=>?_) (λM=>?_)) (λc=>?_)
   ·have c:=of_decide_eq_true c;have M:=of_decide_eq_true M;refine⟨Pq,_,c63 B.toBase (q.ext x.e) (U.ext x.e) d G,?_⟩;rintro w h10 ⟨N,n,O,hl10⟩;obtain⟨v',J,P,Q⟩:=(x.ext N).cS (i:=2) rfl O.rd G;refine⟨_,_,P,_,Sq,v',ss++n,t,k,ys,rfl,by rw[Aj];omega,f,(Q.perm (l':=[aO b1 146 C,aO k 150 ys,aS h.nx 9 1 v' (ss++n).length (AR (ss++n))]) (.swap ..)).drop 1⟩
   ·exact j (Sq)
   ·exact j (Sq)
  ·rintro A hh ⟨v,ss,t,b,ys,rfl,hl,f,s⟩;refine⟨_,_,rfl,_,Aoy (R:=Apu) B.toBase ((s.dD (i:=0) rfl).cI f.1) (by decide) f (λu ⟨z,e,_⟩=>by rw[e];rfl) ⟨_,rfl,by decide⟩ (.inr ⟨rfl,rfl,rfl⟩) d G,?_⟩;rintro _ h1 ⟨o,u,b',rfl,z,rfl,hz⟩;have m:=s.ext o;refine Ad (λc=>⟨_,c65 B.toBase G d G,?_⟩) (λc=>⟨m.e,ss,m.sl (i:=1) rfl,G⟩);rintro w h2 ⟨y,n,o2,hl2⟩;obtain⟨v',J,e3,s3⟩:=(m.ext y).cS (i:=1) rfl o2.rd G;exact⟨_,_,e3,s3.e,ss++n,s3.sl (i:=1) rfl,by rw[Aj];omega⟩
def A6.Ends.len {s:A6} {r n:Int} (h:s.Ends r n k) (a:0<=n):((s.St r k).2.2.length:Int)<=n:=by
 cases k with
 |zero=>exact a
 |
  succ k=>
  have:=Aha s r k;have:=(h.1 k G).2;omega
def Agq {k:Int} {cs:List Eu} (h:cs.length<=mo) (t:Bd):(Gz mo k cs t).length<=mo:=by
 unfold Gz;split
 .rename_i a;rw[Aj,Br];omega
 .exact h
def LB {k:Int}:∀(a:BZ) {cs:List Eu},cs.length<=mo->(a.foldl (Gz mo k) cs).length<=mo
 |[],_,h=>h
 |t::a,_,h=>LB a (Agq h t)
def NK {k:Int}:∀(a:BZ) (cs:List Eu),cs<+:a.foldl (Gz mo k) cs
 |[],_=>Eb _
 |
  t::a,cs=>by
  refine List.IsPrefix.trans ?_ (NK a _);unfold Gz;split
  .exact GS _ _
  .exact Eb _
def H7.bk {ob a c d most:Nat} {cs:List Eu} (O:H7 J N ob a c d cv most cs):H7 (h.aa J) N ob a c d cv most cs:=
 ⟨O.o.aa,O.s.aa,O.k.aa,O.m.aa,by unfold UV;rw[CL,DF];exact O.t,O.ne,O.b⟩
def Adg (N ob d e f:Nat) (cv:Aa) (most:Nat) (cs:List Eu):Ct:={
 am:=λi=>i=ob\/i=d\/i=e\/i=f\/BY cv i
 holds:=λh=>H7 h N ob d e f cv most cs
 aH:=λc a O=>⟨O.o.ae c (a _ (.inl B)),O.s.ae c λi U=>a i (.inr (.inr (.inr (.inr U)))),O.k.ae c (a _ (.inr (.inl B))),O.m.ae c (a _ (.inr (.inr (.inl B)))),O.t.ae c (a _ (.inr (.inr (.inr (.inl B))))),O.ne,O.b⟩
 lt:=λ{h} O i U=>by
  rcases U with rfl|rfl|rfl|rfl|U
  .exact O.o.1
  .exact O.k.1
  .exact O.m.1
  .exact O.t.1
  .exact O.s.aw i U
 bk:=λO=>O.bk}
def Sep.addX (B:Base S L) {a:Ct} {l:List Ct} {ob g k o:Nat} {cs:List Eu} {b:Int} {m:BZ} (s:Sep h0 h l) (p:l[i]?=I (Adg h0.nx ob g k o cv mo cs)) (t:l[j]?=I a) (u:∀x,BY v x->a.am x) (w:Rd h v 1 n (AR m)) (y:n=m.length) (q:j≠i) (z:mo<=1000) (A:m.length<=1000000):
 Bk S L 1 24 [Vi b,v,AG ob 0,AG k 0,AG g 0] h λ_ J=>∃d,Sep h0 J (l.set i (Adg h0.nx ob g k o d mo (m.foldl (Gz mo b) cs))):=by
 subst y;refine(c24 B ((s.2.1 i _ p).1:H7 h h0.nx ob g k o cv mo cs) s.e.nx z w A λx f=>?_).mono λ_ J ⟨d,O',c,hb⟩=>⟨d,s.ah p (c.mono λx f=>?_) O' λx f=>?_⟩
 ·have r:=s.2.2 j i _ _ q t p x (u x f);exact⟨λe=>r (.inl e),λe=>r (.inr (.inr (.inr (.inl e)))),λe=>r (.inr (.inr (.inr (.inr e))))⟩
 ·exact f.elim .inl λh=>h.elim (λe=>.inr (.inr (.inr (.inl e)))) λe=>.inr Jq
 ·rcases f with e|e|e|e|e
  ·exact .inl (.inl e)
  ·exact .inl (.inr (.inl e))
  ·exact .inl (.inr (.inr (.inl e)))
  ·exact .inl (.inr (.inr (.inr (.inl e))))
  ·exact(hb x e).imp (λe=>.inr (.inr (.inr (.inr e)))) id
def Sep.cg (B:Base S L) {l:List Ct} {ob c d g:Nat} {cs:List Eu} {a:Int} {b:BZ} (s:Sep h0 h l) (m:l[i]?=I (Adg h0.nx ob c d g cv mo cs)) (k:l[j]?=I (aS N 9 1 v n (AR b))) (o:n=b.length) (e:j≠i) (p:mo<=1000) (q:b.length<=1000000):
 Bk S L 1 24 [Vi a,v,AG ob 0,AG d 0,AG c 0] h λ_ J=>∃f,Sep h0 J (l.set i (Adg h0.nx ob c d g f mo (b.foldl (Gz mo a) cs))):=s.addX B m k (λ_ h=>h) (s.sl k).rd o e p q
def Sep.merge {d e:List Ct} (s:Sep h0 h (d++e)) (a:Ct) (v:a.holds h) (r:∀x,a.am x->∃b∈d,b.am x):Sep h0 h (a::e):=by
 have t:∀x (k:Nat) b,a.am x->e[k]?=I b->h0.nx<=x/\¬b.am x:=λx k b f n=>by
  obtain⟨c,o,l⟩:=r x f;obtain⟨m,g⟩:=Iz o;have w:=(List.getElem?_eq_some_iff.1 g).1;have u:(d++e)[m]?=I c:=by rw[AB w];exact g
  exact⟨(s.2.1 _ _ u).2 x l,s.2.2 _ _ c b G u (by rw[Bq G,Ds];exact n:(d++e)[d.length+k]?=I b) x l⟩
 have old:∀(k:Nat) b,e[k]?=I b->(d++e)[d.length+k]?=I b:=λk b n=>by rw[Bq G,Ds];exact n
 refine⟨s.1,λi b U=>?_,λi j b c y U p x f q=>?_⟩
 .cases i with
  |
   zero=>
   cases U;refine⟨v,λx f=>?_⟩;obtain⟨c,o,l⟩:=r x f;obtain⟨m,g⟩:=Iz o;exact(s.2.1 m c (by rw[AB (List.getElem?_eq_some_iff.1 g).1];exact g)).2 x l
  |succ i=>exact s.2.1 _ _ (old i b U)
 .cases i with
  |
   zero=>
   cases j with
   |zero=>exact y B
   |succ j=>cases U;exact(t x j c f p).2 q
  |
   succ i=>
   cases j with
   |zero=>cases p;exact(t x i b q U).2 f
   |succ j=>exact s.2.2 _ _ b c G (old i b U) (old j c p) x f q
def Agb (DA:Nat->Bd->Bd) (SP:Bd->Int->BZ) (h J:Y) (V:Cb) (F T r c day a:Int) (w:Aa):Prop:=((F<0\/T<=F\/(V.fs.length:Int)<T\/a<1)/\w=.slice Z 0 0)\/((0<=F/\F<T/\T<=V.fs.length/\1<=a)/\∃b:List Eu,AS J h.nx 47 2 w b.length (b.flatMap ME)/\(b.length:Int)<=min a 60/\
 ∃(k:Nat) (d:List IE),A6.Ends ⟨V,F,T,c⟩ r (min a 60) k/\d.map IE.P=(A6.St ⟨V,F,T,c⟩ r k).2.2/\b=Zcm DA SP (RV V.tx F T).1 day (min a 60).toNat (d.map λe=>e.P.tx))
def Aiy (s:Bd) (f t:Int):(RV s f t).1.size<=s.size:=by
 unfold RV;split
 .exact Al _
 .show(Ana _ _).length<=_
  have:s.data.toList.length=s.size:=rfl;rw[Cg,AV];omega
def c10 (B:Sy S L) (hN:S.ov 15=Z/\S.nd 15=I 9/\S.hk 15=Z) {DA:Nat->Bd->Bd} {SP:Bd->Int->BZ} (K:Pw S L DA h) (SW:R0 S L SP h) (U:Ce h) {V:Cb} (A:EI h lp V) (ok:V.Ok) {F T r lf l:Int}:
 Bk S L 14 10 [AG lp 0,.agg #[Vi F,Vi T],Vi r,Vi lf,Vi day,Vi l] h λw J=>AA h J/\Agb DA SP h J V F T r lf day l w:=
 Zd (fn:=f10) B.toBase Kq rfl λd hd'=>by
  have hL:=B.aI;obtain⟨g1,y1,s1⟩:=(Sep.nil h).box Ax 32 (.agg #[Vi F,Vi T]);obtain⟨g2,y2,q⟩:=s1.box Ax 3 (Vi l);obtain⟨C,hpb⟩:∃b,b=h.nx:=⟨_,rfl⟩;obtain⟨D,hmb⟩:∃b,b=g1.nx:=⟨_,rfl⟩;have q:Sep h g2 [aO D 3 [Vi l],aO C 32 [Vi F,Vi T]]:=by rw[hpb,hmb];exact q
  rw[←hpb] at y1;rw[←hmb] at y2;have Q:∀{H:Y},AA h H->(F<0\/T<=F\/(V.fs.length:Int)<T\/l<1)->AA h H/\Agb DA SP h H V F T r lf day l (.slice Z 0 0):=λx hb=>⟨x,.inl ⟨hb,rfl⟩⟩;have cF:∀{H l'},Sep h H (aO D 3 l'::[aO C 32 [Vi F,Vi T]])->Cell H C 0 (Vi F)/\Cell H C 1 (Vi T):=λs=>⟨(s.dD (i:=1) rfl).cell rfl,(s.dD (i:=1) rfl).cell rfl⟩;refine⟨Dc rfl,_,_,y1,_,_,y2,[],Kq,_,rfl,_,ld rfl (cF q).1,Ad (λk1=>Q q.e (.inl (of_decide_eq_true k1))) (λk1=>⟨_,ld rfl (cF q).1,_,ld rfl (cF q).2,Ad (λk2=>Q q.e (.inr (.inl (of_decide_eq_true k2)))) (λk2=>⟨_,ld rfl (cF q).2,_,c11 B.toBase (A.ext (q.e.trans (AA.ad g2))) d G,?_⟩)⟩)⟩;rintro _ _ ⟨rfl,rfl⟩;have s3:=q.ext (AT (AA.refl g2));refine⟨rfl,Ad (λk3=>Q s3.e (.inr (.inr (.inl (of_decide_eq_true k3))))) (λk3=>⟨_,ld rfl ((s3.dD (i:=0) rfl).cell rfl),Ad (λk4=>Q s3.e (.inr (.inr (.inr (of_decide_eq_true k4))))) (λk4=>?_)⟩)⟩;have k1:=of_decide_eq_false k1;have k2:=of_decide_eq_false k2;have k3:=of_decide_eq_false k3;have k4:=of_decide_eq_false k4;refine⟨_,ld rfl ((s3.dD (i:=0) rfl).cell rfl),λz hz=>?_⟩;obtain⟨mo,rfl⟩:=B9 (show 0<=z by omega);obtain⟨g4,y4,s4⟩:=s3.st (t:=3) rfl (i:=0) rfl (by show 0<1;decide) (v:=Vi mo) rfl;obtain⟨g5,y5,s5⟩:=s4.al (z:=.slice Z 0 0) Kq;have s6:=s5.add (a:=aB g5.nx (.map [] 0)) (AA.new _ (.map [] 0)) ⟨by rw[Ck];omega,by rw[CK,if_pos rfl]⟩ λi hi=>A2 hi.symm;obtain⟨ob,hob⟩:∃b,b=g4.nx:=⟨_,rfl⟩;obtain⟨p,hkm⟩:∃b,b=g5.nx:=⟨_,rfl⟩;obtain⟨g7,y7,g8,y8,u⟩:=s6.var (t:=72) (z:=.map Z) Kq (v:=.map (I p)) rfl rfl rfl;obtain⟨M,hkb⟩:∃b,b=(g5.new (.map [] 0)).nx:=⟨_,rfl⟩;have u:Sep h g8 ([aO M 72 [.map (I p)],aB p (.map [] 0),aO ob 41 [.slice Z 0 0],aO D 3 [Vi mo]]++[aO C 32 [Vi F,Vi T]]):=by rw[hkb,hkm,hob];rw[hkm] at u;exact u
  have ne:∀{i j:Nat} {a b:Ct} {x y:Nat},i≠j->([aO M 72 [.map (I p)],aB p (.map [] 0),aO ob 41 [.slice Z 0 0],aO D 3 [Vi mo]]++[aO C 32 [Vi F,Vi T]])[i]?=I a->([aO M 72 [.map (I p)],aB p (.map [] 0),aO ob 41 [.slice Z 0 0],aO D 3 [Vi mo]]++[aO C 32 [Vi F,Vi T]])[j]?=I b->a.am x->b.am y->x≠y:=λhne hi hj hx hy e=>u.2.2 _ _ _ _ hne hi hj _ hx (e▸hy);have O:H7 g8 h.nx ob M D p (.slice Z 0 0) mo []:=⟨u.dD (i:=2) rfl,AS.nil _ _ _ _,(u.dD (i:=0) rfl).cell (i:=0) rfl,(u.dD (i:=3) rfl).cell (i:=0) rfl,⟨(u.2.1 1 _ rfl).1.1,[],0,(u.2.1 1 _ rfl).1.2,rfl⟩,
   ⟨ne (i:=2) (j:=0) (by decide) rfl rfl rfl rfl,ne (i:=2) (j:=3) (by decide) rfl rfl rfl rfl,ne (i:=2) (j:=1) (by decide) rfl rfl rfl rfl,ne (i:=0) (j:=1) (by decide) rfl rfl rfl rfl,ne (i:=3) (j:=1) (by decide) rfl rfl rfl rfl⟩,λi hi=>hi.elim⟩
  have s9:=u.merge (Adg h.nx ob M D p (.slice Z 0 0) mo []) O λx hx=>by
   rcases hx with e|e|e|e|e
   ·exact⟨_,by simp,(show(aO ob 41 [.slice Z 0 0]).am x from e)⟩
   ·exact⟨_,by simp,(show(aO M 72 [.map (I p)]).am x from e)⟩
   ·exact⟨_,by simp,(show(aO D 3 [Vi mo]).am x from e)⟩
   ·exact⟨_,by simp,(show(aB p (.map [] 0)).am x from e)⟩
   ·exact e.elim
  rw[←hob] at y5;rw[←hkb] at y7 y8;rw[hkm] at y8;have om:∀{H:Y} {cv:Aa} {cs:List Eu} {l':List Ct},Sep h H (Adg h.nx ob M D p cv mo cs::l')->H7 H h.nx ob M D p cv mo cs:=λs=>(s.2.1 0 _ rfl).1;refine⟨_,y4,_,_,y5 _,_,_,y7 _,_,y8,_,EQ (k:=2) Kq (s9.dD (i:=1) rfl).cells rfl,_,ld rfl (om s9).m,_,c12 B.toBase (A.ext s9.e) ok G d G,?_⟩;rintro w9 h9 ⟨x9,P⟩;rcases P with⟨hb,_⟩|⟨hF,kE,g,E,hos,o9,hnv⟩
  ·omega
  rw[show min (mo:Int) 200=min l 60 by omega] at E;obtain⟨A9,c9,rfl⟩:∃A c,w9=.slice A g.length c:=by obtain⟨_,A,c,e,_⟩:=o9.rd;exact⟨A,c,e⟩
  have n:=s9.add (a:=aS g8.nx 50 3 (.slice A9 g.length c9) g.length (g.flatMap Lg)) x9 o9 o9.ai;have hol:g.length<=60:=by have:=E.len G;rw[←hos,A4] at this;omega
  refine⟨λμ A0 DD X=>∃(i:Nat) (cv:Aa),A0=[(0,AG lp 0),(4,Vi day),(7,AG C 0),(13,AG ob 0),(15,.func (.func 24) #[] #[AG ob 0,AG D 0,AG M 0]),(54,.slice A9 g.length c9),(55,Vi g.length),(56,Vi i)]/\DD=[]/\μ=g.length-i/\i<=g.length/\Sep h X [Adg h.nx ob M D p cv mo (((g.take i).map λe=>e.P.tx).foldl (Gz mo 1) []),aS g8.nx 50 3 (.slice A9 g.length c9) g.length (g.flatMap Lg),aO C 32 [Vi F,Vi T]],
   ⟨_,_,Sq,G,0,_,rfl,rfl,rfl,Al _,n.perm (.swap ..)⟩,?_⟩
  rintro μ A0 DD X ⟨i,cv,rfl,rfl,rfl,hi,s⟩ hLt;apply Bz<;>intro k5
  ·have R:i<g.length:=G;obtain⟨a1,_,e1,_,q1⟩:=(s.sl (i:=1) rfl).rd.el R;cases e1;rw[flatK (f:=Lg) (λ_=>rfl) g (Ab R)] at q1;obtain⟨g1,y1,g2,y2,q⟩:=s.var (t:=50) (z:=.agg ⟨[.slice Z 0 0,Vi 0,.string ⟨#[]⟩]⟩) Kq (v:=.agg ⟨Lg g[i]⟩) rfl rfl (by
    show(one g[i].nv&&Ag)=Ag;rw[hnv _ (Bu R)];rfl)
   have s3:=q.cE 1 (ss:=[g[i].P.tx]) rfl;refine⟨G,_,EQ (k:=3) Kq (show BK X a1.block (a1.off+(i:Int).toNat*3) (Lg g[i]) from q1) rfl,_,_,y1 _,_,y2,_,ld rfl ((q.dD (i:=0) rfl).cell (xs:=Lg g[i]) (i:=2) rfl:Cell g2 X.nx 2 (.string g[i].P.tx)),_,_,Avg _ _,_,s3.cg B.toBase (i:=2) (j:=0) rfl rfl rfl (by decide) G (Ac rfl) d G,?_⟩;rintro _ h4 ⟨cv',s4⟩;have e2:((g.take (i+1)).map λe=>e.P.tx).foldl (Gz mo 1) []=Gz mo 1 (((g.take i).map λe=>e.P.tx).foldl (Gz mo 1) []) g[i].P.tx:=by
    rw[A5 R,BS,K1];rfl
   exact⟨Pq,_,_,Sq,(by omega:g.length-(i+1)<_),i+1,cv',rfl,rfl,rfl,G,by rw[e2];exact s4.drop 2⟩
  ·rw[Bj G] at s;obtain⟨cs1,hcs⟩:∃cs,cs=(g.map λe=>e.P.tx).foldl (Gz mo 1) []:=⟨_,rfl⟩;rw[←hcs] at s;have htx:V.tx.size<=256:=by
    have h1:=ok.cL;have h2:=ok.N;have:=VD (s:=V.tx) G;omega
   have hrd:=Aiy V.tx F T;have cF:∀{H:Y} {a b:Ct},Sep h H [a,b,aO C 32 [Vi F,Vi T]]->Cell H C 0 (Vi F)/\Cell H C 1 (Vi T):=λs=>⟨(s.dD (i:=2) rfl).cell (i:=0) rfl,(s.dD (i:=2) rfl).cell (i:=1) rfl⟩;refine⟨[],Kq,_,PT (h:=X.ad) B.toBase (A.ext (s.e.trans (AA.ad _))) d G,?_⟩;rintro _ _ ⟨rfl,rfl⟩;have s1:=s.ext (AT (AA.refl X));refine⟨rfl,_,ld rfl (cF s1).1,_,ld rfl (cF s1).2,_,c25 (h:=(nb X).ad) B.toBase5 (show Ce (nb X) from U.ext s1.e) G d G,?_⟩;rintro _ h5 ⟨x5,rfl⟩;have s5:=s1.ext x5.aa;refine⟨x5.ag,_,SW s5.e G d G,?_⟩;rintro w6 h6 ⟨x6,o6,b6,l6⟩;obtain⟨t1,ht1⟩:∃t,t=SP (RV V.tx F T).1 day:=⟨_,rfl⟩;rw[←ht1] at o6 l6;refine⟨_,(s5.add x6 (a:=Zcg t1.length w6 (AR t1)) o6 b6).addX B.toBase (i:=1) (j:=0) rfl rfl (λ_ h=>h) o6.1 rfl (by decide) G G d G,?_⟩;rintro _ h7 ⟨cv7,s7⟩;have s7:=s7.drop 1;refine⟨_,K.kan 27 s7.e (.inl ⟨.inl rfl,G⟩) d G,?_⟩;rintro _ h8 ⟨x8,rfl⟩;have hy:=K.ksz (i:=27) (s:=(RV V.tx F T).1) (.inl ⟨.inl rfl,G⟩);rw[show Zae 27 (RV V.tx F T).1=4*(RV V.tx F T).1.size+4 from rfl] at hy;have u:=s7.ext x8;refine⟨_,SW u.e G d G,?_⟩;rintro w9 h9 ⟨x9,o9,b9,l9⟩;obtain⟨t2,ht2⟩:∃t,t=SP (DA 27 (RV V.tx F T).1) day:=⟨_,rfl⟩;rw[←ht2] at o9 l9;refine⟨_,(u.add x9 (a:=Zcg t2.length w9 (AR t2)) o9 b9).addX B.toBase (i:=1) (j:=0) rfl rfl (λ_ h=>h) o9.1 rfl (by decide) G G d G,?_⟩;rintro _ h10 ⟨cv10,n⟩;have n:=n.drop 1;refine⟨_,c15 B.toBase5 hN (K.ext n.e) (U.ext n.e) G d G,?_⟩;rintro w11 h11 ⟨x11,o11,l11⟩;obtain⟨t3,ht3⟩:∃t,t=S6 DA (RV V.tx F T).1:=⟨_,rfl⟩;rw[←ht3] at o11 l11;refine⟨_,(n.add x11 (a:=aS _ 9 1 w11 t3.length (AR t3)) o11 o11.ai).cg B.toBase (i:=1) (j:=0) rfl rfl rfl (by decide) G G d G,?_⟩;rintro _ h12 ⟨cv12,s12⟩;have O:=om (s12.drop 1);have hlen:=LB (mo:=mo) (k:=3) t3 (LB (mo:=mo) (k:=2) t2 (LB (mo:=mo) (k:=2) t1 (hcs▸LB (mo:=mo) (k:=1) (g.map λe:IE=>e.P.tx) (cs:=[]) (Al _))));exact⟨_,ld rfl (O.o.cell (i:=0) rfl),s12.e,.inr ⟨G,_,O.s,G,kE,g,E,hos,by unfold Zcm;rw[(G:(min l 60).toNat=mo),←ht1,←ht2,←ht3,←hcs]⟩⟩
def D2:AH:=[.slice Z 0 0,.pointer Z,.pointer Z,.pointer Z,.pointer Z,.pointer Z,.pointer Z,.pointer Z,.pointer Z,.pointer Z,.pointer Z]
def Aov (h:Y) (v:Aa) (A:As) (b:Y):Prop:=∃(h1 a:Y) (k:Option BD) (l:Nat) (ps:List DQ) (m:Bool) (f n:Aa),A=[(0,v),(6,AG h1.nx 0),(7,AG a.nx 0)]/\AA h h1/\EC h1 (.slice k ps.length l) ps/\ps.length<=64/\
 (h1.nx<b.nx/\a.nx<b.nx)/\Sep h1 b [aO a.nx 127 ((D2.set 0 f).set 1 n),aO h1.nx 123 [.slice k ps.length l,.bool m]]/\
 (m=Ah->(∃c,Gt b f c/\(∀i,BY f i->i≠h1.nx/\i≠a.nx)/\1<=c.length/\c.length<=64/\∀q∈c,q.1.size<=16/\0<=q.2/\q.2<=2)/\
  ∃(d e g:Nat) (df:Int) (j:GX),n=AG d 0/\F6 b d e df g j/\(d≠h1.nx/\d≠a.nx)/\(g≠h1.nx/\g≠a.nx)/\EJ e j/\j.length<=5000/\(1<=e/\e<=64)/\(0<=df/\df<=30000))
def c19 (E:Base6 S L) {h:Y} (eh:Ce h) {v:Aa} {n:Nat} {bs:Bl} (qq:G3 h) (r:Rd h v 1 n (Ay bs)) (hn:n<=100000000):
 Bk S L 32 19 [v] h λw J=>AA h J/\∃(o:Aa) (z:Int),w=.tuple #[o,Vi z]/\(z=0->∃(b:Nat) (D:Dt),o=AG b 0/\DT J b D/\D.fits/\Sw D.ps/\D.mn=D.ps.length/\EJ D.ps.length D.ml/\(0<=D.df/\D.df<=30000)/\∀i:Nat,i<D.p5.n->(D.bG (i:Int)).ok D.ps.length):=
 Nu (fn:=f19) E.toBase Kq B 9 (Aov h v) λd hl=>by
  have hL:=E.aI;have ak:∀{H:Y},AA h H->AA h H/\∃(o:Aa) (z:Int),C4 #[.pointer Z,Vi 5]=.tuple #[o,Vi z]/\(z=0->∃(b:Nat) (D:Dt),o=AG b 0/\DT H b D/\D.fits/\Sw D.ps/\D.mn=D.ps.length/\EJ D.ps.length D.ml/\(0<=D.df/\D.df<=30000)/\∀i:Nat,i<D.p5.n->(D.bG (i:Int)).ok D.ps.length):=λx=>⟨x,_,5,B,λh=>by cases h⟩;refine⟨Dc B,?_,?_⟩
  .refine cl (c48 E.toBase2 r hn qq) ?_
   rintro _ h1 ⟨x1,pv,z,rfl,hz⟩;apply Ad<;>intro e1
   .exact ak x1
   obtain⟨ps,O,P⟩:=hz (by simpa using e1);obtain⟨g,k,rfl⟩:∃A c,pv=.slice A ps.length c:=by
    obtain⟨⟨_,A,c,e,_⟩,_⟩:=P;exact⟨A,c,e⟩
   obtain⟨f,y1,s1⟩:=(Sep.nil h1).box Ax 123 (.agg #[.slice g ps.length k,.bool Ah]);obtain⟨g2,y2,s2⟩:=s1.box Ax 127 (.agg ⟨D2⟩);have s2:Sep h1 g2 [aO f.nx 127 D2,aO h1.nx 123 [.slice g ps.length k,.bool Ah]]:=s2;refine⟨_,_,y1,_,_,y2,?_⟩;have hm:h1.nx<g2.nx:=(s2.dD (i:=1) B).1;have ho:f.nx<g2.nx:=(s2.dD (i:=0) B).1;refine cl (c50 E.toBase s2 P O (i:=1) B) ?_;rintro w3 h3 ⟨b3,s3,m3,n3,c3,hr,hs,ht,r3⟩;have s3:Sep h1 h3 [aO f.nx 127 D2,aO h1.nx 123 [.slice g ps.length k,.bool b3]]:=s3;refine cl (c49 E.toBase2 r3 G) ?_;rintro _ h4 ⟨x4,p,z4,rfl,ei,ej⟩;obtain⟨h5,u5,s5,v5⟩:=(s3.ext x4).a5 (τ:=Ax) (t:=22) B (i:=0) B (j:=0) (v:=p) (by show 0<11;decide) ei;have s5:Sep h1 h5 [aO f.nx 127 (D2.set 0 p),aO h1.nx 123 [.slice g ps.length k,.bool b3]]:=s5;refine⟨_,u5,?_⟩;have wf:∀{a b:Y},B0 (·=h1.nx) a b->B0 (λi=>i=h1.nx\/i=f.nx) a b:=λc=>c.mono λi h=>.inl h;have T:∀{a b:Y},B0 (·=f.nx) a b->B0 (λi=>i=h1.nx\/i=f.nx) a b:=λc=>c.mono λi h=>.inr h;have ek:∀(b6:Bool) (h6:Y),(b6=Ah->z4=0)->Sep h1 h6 [aO f.nx 127 (D2.set 0 p),aO h1.nx 123 [.slice g ps.length k,.bool b6]]->Er h1.nx h5 h6->∀(X:Bool) (V:Y),Sep h1 V [aO f.nx 127 (D2.set 0 p),aO h1.nx 123 [.slice g ps.length k,.bool X]]->(b6=Ag->X=Ag)->B0 (·=h1.nx) h6 V->
    ∀(h8:Y) (u:Aa) (z8:Int),AA V h8->(z8=0->∃(b m r:Nat) (df:Int) (l:GX),V.nx<=b/\V.nx<=r/\u=AG b 0/\F6 h8 b m df r l/\EJ m l/\l.length<=5000/\(1<=m/\m<=64)/\(0<=df/\df<=30000))->
    ∀(h9:Y),Er f.nx h8 h9->∀(ae:Bool) (ab:Y),(ae=Ah->z8=0/\X=Ah)->Sep h1 ab [aO f.nx 127 ((D2.set 0 p).set 1 u),aO h1.nx 123 [.slice g ps.length k,.bool ae]]->Er h1.nx h9 ab->
    Aov h v [(0,v),(6,AG h1.nx 0),(7,AG f.nx 0)] ab:=by
    intro b6 h6 k6 s6 v6 X V s7 m7 c7 h8 u z8 x8 bf h9 v9 ae ab en af bg;have hu:h1.nx<h3.nx/\f.nx<h3.nx:=by have:=n3;omega
    have e8:=(T v9.ae).trans (wf bg.ae);have e7:=(x8.ae _).trans e8;have e4:=((T v5.ae).trans (wf v6.ae)).trans ((wf c7).trans e7);have hv:h1.nx<V.nx/\f.nx<V.nx:=by have:=x4.nx;have:=v5.nx;have:=v6.nx;have:=c7.nx;omega
    refine⟨h1,f,g,k,ps,ae,p,u,B,x1,P,O,⟨(af.dD (i:=1) B).1,(af.dD (i:=0) B).1⟩,af,λhb=>?_⟩;obtain⟨eo,ep⟩:=en hb;obtain⟨bh,al,hp⟩:=ej (k6 (by cases b6<;>first|rfl|exact Cf (m7 B) (by rw[ep];decide)))
    obtain⟨mb,mm,mr,df,ml,hw,hx,rfl,bi,q⟩:=bf eo;refine⟨⟨bh,Rd.ae al.rd e4 (λi U y=>?_),λi U=>?_,hp⟩,mb,mm,mr,df,ml,B,bi.ae e8 (λy=>?_) (λy=>?_),G,G,q⟩
    .have:=al.ai i U;omega
    .have:=al.ai i U;exact Pq
    .omega
    .omega
   have q5:=(s5.dD (i:=1) B).cell (i:=1) (v:=.bool b3) B;have f5:∀bb:Bool,∃J,BA Ax 4 h5 h1.nx 1 (.bool bb)=I J/\Sep h1 J [aO f.nx 127 (D2.set 0 p),aO h1.nx 123 [.slice g ps.length k,.bool bb]]/\Er h1.nx h5 J:=λbb=>s5.a5 (τ:=Ax) (t:=4) B (i:=1) B (j:=1) (v:=.bool bb) (by show 1<2;decide) B;cases b3
   all_goals
    refine⟨_,ld B q5,?_⟩;obtain⟨h6,u6,s6,v6⟩:=f5 _;refine⟨_,u6,_,c50 E.toBase s6 P O (i:=1) B d G,?_⟩;rintro w7 V ⟨X,s7,m7,n7,c7,hy,h0,h2,r7⟩;have s7:Sep h1 V [aO f.nx 127 (D2.set 0 p),aO h1.nx 123 [.slice g ps.length k,.bool X]]:=s7;refine cl (c51 E.toBase2 r7 G) ?_;rintro _ h8 ⟨x8,u,z8,rfl,er,bf⟩;obtain⟨h9,u9,s9,v9⟩:=(s7.ext x8).a5 (τ:=Ax) (t:=116) B (i:=0) B (j:=1) (v:=u) (by show 1<11;decide) er;have s9:Sep h1 h9 [aO f.nx 127 ((D2.set 0 p).set 1 u),aO h1.nx 123 [.slice g ps.length k,.bool X]]:=s9;refine⟨_,u9,?_⟩;have q9:=(s9.dD (i:=1) B).cell (i:=1) (v:=.bool X) B;have f9:∀bb:Bool,∃J,BA Ax 4 h9 h1.nx 1 (.bool bb)=I J/\Sep h1 J [aO f.nx 127 ((D2.set 0 p).set 1 u),aO h1.nx 123 [.slice g ps.length k,.bool bb]]/\Er h1.nx h9 J:=λbb=>s9.a5 (τ:=Ax) (t:=4) B (i:=1) B (j:=1) (v:=.bool bb) (by show 1<2;decide) B;cases X
    all_goals
     refine⟨_,ld B q9,?_⟩;obtain⟨ab,et,af,bg⟩:=f9 _;exact⟨_,et,_,Sq,ek _ h6 (by simp) s6 v6 _ V s7 m7 c7 h8 u z8 x8 bf h9 v9 _ ab (by simp) af bg⟩
  rintro _ ab ⟨h1,f,g,k,ps,ae,p,u,rfl,x1,P,O,cw,af,hq⟩;have wf:∀{a b:Y},B0 (·=h1.nx) a b->B0 (λi=>i=h1.nx\/i=f.nx) a b:=λc=>c.mono λi h=>.inl h;have T:∀{a b:Y},B0 (·=f.nx) a b->B0 (λi=>i=h1.nx\/i=f.nx) a b:=λc=>c.mono λi h=>.inr h;refine cl (c52 E.toBase2 af P O (i:=1) B) ?_;rintro F aq ⟨bj,bk,m11,ev,c11,d11⟩;have bk:Sep h1 aq [aO f.nx 127 ((D2.set 0 p).set 1 u),aO h1.nx 123 [.slice g ps.length k,.bool bj]]:=bk;have ew:one F=true:=by rcases d11 with⟨rfl,_⟩|⟨_,_,rfl,_⟩<;>rfl
  refine cl (c53 E.toBase2 bk P O (i:=1) B) ?_;rintro K ar ⟨am,bl,m12,ex,c12,d12⟩;have bl:Sep h1 ar [aO f.nx 127 ((D2.set 0 p).set 1 u),aO h1.nx 123 [.slice g ps.length k,.bool am]]:=bl;have ey:one K=true:=by rcases d12 with⟨rfl,_⟩|⟨_,_,_,_,rfl,_⟩<;>rfl
  obtain⟨au,ez,bm,cx⟩:=bl.a5 (τ:=Ax) (t:=124) B (i:=0) B (j:=2) (v:=F) (by show 2<11;decide) ew;have bm:Sep h1 au [aO f.nx 127 (((D2.set 0 p).set 1 u).set 2 F),aO h1.nx 123 [.slice g ps.length k,.bool am]]:=bm;refine⟨_,ez,?_⟩;obtain⟨av,e0,bn,cy⟩:=bm.a5 (τ:=Ax) (t:=125) B (i:=0) B (j:=4) (v:=K) (by show 4<11;decide) ey;have bn:Sep h1 av [aO f.nx 127 ((((D2.set 0 p).set 1 u).set 2 F).set 4 K),aO h1.nx 123 [.slice g ps.length k,.bool am]]:=bn;refine⟨_,e0,?_⟩;refine cl (c52 E.toBase2 bn P O (i:=1) B) ?_;rintro M aw ⟨bo,bp,m15,e2,c15,d15⟩;have bp:Sep h1 aw [aO f.nx 127 ((((D2.set 0 p).set 1 u).set 2 F).set 4 K),aO h1.nx 123 [.slice g ps.length k,.bool bo]]:=bp;have e3:one M=true:=by rcases d15 with⟨rfl,_⟩|⟨_,_,rfl,_⟩<;>rfl
  refine cl (c53 E.toBase2 bp P O (i:=1) B) ?_;rintro Q ax ⟨an,bq,m16,e5,PT,d16⟩;have bq:Sep h1 ax [aO f.nx 127 ((((D2.set 0 p).set 1 u).set 2 F).set 4 K),aO h1.nx 123 [.slice g ps.length k,.bool an]]:=bq;have e6:one Q=true:=by rcases d16 with⟨rfl,_⟩|⟨_,_,_,_,rfl,_⟩<;>rfl
  obtain⟨ay,e9,br,cz⟩:=bq.a5 (τ:=Ax) (t:=124) B (i:=0) B (j:=3) (v:=M) (by show 3<11;decide) e3;have br:Sep h1 ay [aO f.nx 127 (((((D2.set 0 p).set 1 u).set 2 F).set 4 K).set 3 M),aO h1.nx 123 [.slice g ps.length k,.bool an]]:=br;refine⟨_,e9,?_⟩;obtain⟨az,fa,bt,c0⟩:=br.a5 (τ:=Ax) (t:=125) B (i:=0) B (j:=5) (v:=Q) (by show 5<11;decide) e6;have bt:Sep h1 az [aO f.nx 127 ((((((D2.set 0 p).set 1 u).set 2 F).set 4 K).set 3 M).set 5 Q),aO h1.nx 123 [.slice g ps.length k,.bool an]]:=bt;refine⟨_,fa,?_⟩;refine cl (c53 E.toBase2 bt P O (i:=1) B) ?_;rintro aa a0 ⟨bu,bv,fb,fc,c19,d19⟩;have bv:Sep h1 a0 [aO f.nx 127 ((((((D2.set 0 p).set 1 u).set 2 F).set 4 K).set 3 M).set 5 Q),aO h1.nx 123 [.slice g ps.length k,.bool bu]]:=bv;have fd:one aa=true:=by rcases d19 with⟨rfl,_⟩|⟨_,_,_,_,rfl,_⟩<;>rfl
  refine cl (c53 E.toBase2 bv P O (i:=1) B) ?_;rintro ad a1 ⟨bw,bx,fe,ff,Sn,d20⟩;have bx:Sep h1 a1 [aO f.nx 127 ((((((D2.set 0 p).set 1 u).set 2 F).set 4 K).set 3 M).set 5 Q),aO h1.nx 123 [.slice g ps.length k,.bool bw]]:=bx;have fg:one ad=true:=by rcases d20 with⟨rfl,_⟩|⟨_,_,_,_,rfl,_⟩<;>rfl
  refine cl (c53 E.toBase2 bx P O (i:=1) B) ?_;rintro ag a2 ⟨ah,bz,fh,fi,fj,d21⟩;have bz:Sep h1 a2 [aO f.nx 127 ((((((D2.set 0 p).set 1 u).set 2 F).set 4 K).set 3 M).set 5 Q),aO h1.nx 123 [.slice g ps.length k,.bool ah]]:=bz;have fk:one ag=true:=by rcases d21 with⟨rfl,_⟩|⟨_,_,_,_,rfl,_⟩<;>rfl
  obtain⟨a3,fl,b0,c1⟩:=bz.a5 (τ:=Ax) (t:=125) B (i:=0) B (j:=6) (v:=aa) (by show 6<11;decide) fd;have b0:Sep h1 a3 [aO f.nx 127 (((((((D2.set 0 p).set 1 u).set 2 F).set 4 K).set 3 M).set 5 Q).set 6 aa),aO h1.nx 123 [.slice g ps.length k,.bool ah]]:=b0;refine⟨_,fl,?_⟩;obtain⟨a4,fm,b1,c2⟩:=b0.a5 (τ:=Ax) (t:=125) B (i:=0) B (j:=7) (v:=ad) (by show 7<11;decide) fg;have b1:Sep h1 a4 [aO f.nx 127 ((((((((D2.set 0 p).set 1 u).set 2 F).set 4 K).set 3 M).set 5 Q).set 6 aa).set 7 ad),aO h1.nx 123 [.slice g ps.length k,.bool ah]]:=b1;refine⟨_,fm,?_⟩;obtain⟨a5,fo,b2,c4⟩:=b1.a5 (τ:=Ax) (t:=125) B (i:=0) B (j:=8) (v:=ag) (by show 8<11;decide) fk;have b2:Sep h1 a5 [aO f.nx 127 (((((((((D2.set 0 p).set 1 u).set 2 F).set 4 K).set 3 M).set 5 Q).set 6 aa).set 7 ad).set 8 ag),aO h1.nx 123 [.slice g ps.length k,.bool ah]]:=b2;refine⟨_,fo,?_⟩;refine cl (c53 E.toBase2 b2 P O (i:=1) B) ?_;rintro a6 a7 ⟨b4,b5,m25,fp,c25,d25⟩;have b5:Sep h1 a7 [aO f.nx 127 (((((((((D2.set 0 p).set 1 u).set 2 F).set 4 K).set 3 M).set 5 Q).set 6 aa).set 7 ad).set 8 ag),aO h1.nx 123 [.slice g ps.length k,.bool b4]]:=b5;have fq:one a6=true:=by rcases d25 with⟨rfl,_⟩|⟨_,_,_,_,rfl,_⟩<;>rfl
  refine cl (c53 E.toBase2 b5 P O (i:=1) B) ?_;rintro b7 a8 ⟨ao,b8,m26,fr,c26,d26⟩;have b8:Sep h1 a8 [aO f.nx 127 (((((((((D2.set 0 p).set 1 u).set 2 F).set 4 K).set 3 M).set 5 Q).set 6 aa).set 7 ad).set 8 ag),aO h1.nx 123 [.slice g ps.length k,.bool ao]]:=b8;have fs:one b7=true:=by rcases d26 with⟨rfl,_⟩|⟨_,_,_,_,rfl,_⟩<;>rfl
  obtain⟨a9,ft,b9,c5⟩:=b8.a5 (τ:=Ax) (t:=125) B (i:=0) B (j:=9) (v:=a6) (by show 9<11;decide) fq;have b9:Sep h1 a9 [aO f.nx 127 ((((((((((D2.set 0 p).set 1 u).set 2 F).set 4 K).set 3 M).set 5 Q).set 6 aa).set 7 ad).set 8 ag).set 9 a6),aO h1.nx 123 [.slice g ps.length k,.bool ao]]:=b9;refine⟨_,ft,?_⟩;obtain⟨C,fu,ai,c6⟩:=b9.a5 (τ:=Ax) (t:=125) B (i:=0) B (j:=10) (v:=b7) (by show 10<11;decide) fs;have ai:Sep h1 C [aO f.nx 127 (((((((((((D2.set 0 p).set 1 u).set 2 F).set 4 K).set 3 M).set 5 Q).set 6 aa).set 7 ad).set 8 ag).set 9 a6).set 10 b7),aO h1.nx 123 [.slice g ps.length k,.bool ao]]:=ai;refine⟨_,fu,?_⟩;have qL:=(ai.dD (i:=1) B).cell (i:=1) (v:=.bool ao) B;cases ao with
  |true=>exact⟨_,ld B qL,ak (x1.trans ai.e)⟩
  |false=>
  have c8:b4=false:=by cases y:b4 with|false=>rfl|true=>exact Cf (m26 y) (by decide)
  have c9:ah=false:=by cases y:ah with|false=>rfl|true=>exact Cf (m25 y) (by rw[c8];decide)
  have da:bw=false:=by cases y:bw with|false=>rfl|true=>exact Cf (fh y) (by rw[c9];decide)
  have db:bu=false:=by cases y:bu with|false=>rfl|true=>exact Cf (fe y) (by rw[da];decide)
  have dc:an=false:=by cases y:an with|false=>rfl|true=>exact Cf (fb y) (by rw[db];decide)
  have dd:bo=false:=by cases y:bo with|false=>rfl|true=>exact Cf (m16 y) (by rw[dc];decide)
  have de:am=false:=by cases y:am with|false=>rfl|true=>exact Cf (m15 y) (by rw[dd];decide)
  have dg:bj=false:=by cases y:bj with|false=>rfl|true=>exact Cf (m12 y) (by rw[de];decide)
  have fv:ae=false:=by cases y:ae with|false=>rfl|true=>exact Cf (m11 y) (by rw[dg];decide)
  obtain⟨⟨bh,al,dh,h7,fw,ia⟩,mb,mm,mr,df,ml,rfl,bi,di,dj,fx,fy,ib,fz⟩:=hq fv;have dk:h1.nx<aq.nx/\f.nx<aq.nx:=by have:=ev;omega
  have ic:h1.nx<ar.nx/\f.nx<ar.nx:=by have:=ex;omega
  have ie:h1.nx<au.nx/\f.nx<au.nx:=by have:=cx.nx;omega
  have dl:h1.nx<av.nx/\f.nx<av.nx:=by have:=cy.nx;omega
  have dm:h1.nx<aw.nx/\f.nx<aw.nx:=by have:=e2;omega
  have ig:h1.nx<ax.nx/\f.nx<ax.nx:=by have:=e5;omega
  have ih:h1.nx<ay.nx/\f.nx<ay.nx:=by have:=cz.nx;omega
  have dn:h1.nx<az.nx/\f.nx<az.nx:=by have:=c0.nx;omega
  have dp:h1.nx<a0.nx/\f.nx<a0.nx:=by have:=fc;omega
  have dq:h1.nx<a1.nx/\f.nx<a1.nx:=by have:=ff;omega
  have ii:h1.nx<a2.nx/\f.nx<a2.nx:=by have:=fi;omega
  have ij:h1.nx<a3.nx/\f.nx<a3.nx:=by have:=c1.nx;omega
  have ik:h1.nx<a4.nx/\f.nx<a4.nx:=by have:=c2.nx;omega
  have dr:h1.nx<a5.nx/\f.nx<a5.nx:=by have:=c4.nx;omega
  have ds:h1.nx<a7.nx/\f.nx<a7.nx:=by have:=fp;omega
  have il:h1.nx<a8.nx/\f.nx<a8.nx:=by have:=fr;omega
  have im:h1.nx<a9.nx/\f.nx<a9.nx:=by have:=c5.nx;omega
  have io:h1.nx<C.nx/\f.nx<C.nx:=by have:=c6.nx;omega
  have dt:B0 (λi=>i=h1.nx\/i=f.nx) C C:=(AA.refl C).ae _;have du:B0 (λi=>i=h1.nx\/i=f.nx) a9 C:=(T c6.ae).trans dt;have ca:B0 (λi=>i=h1.nx\/i=f.nx) a8 C:=(T c5.ae).trans du;have cb:B0 (λi=>i=h1.nx\/i=f.nx) a7 C:=(wf c26).trans ca;have dv:B0 (λi=>i=h1.nx\/i=f.nx) a5 C:=(wf c25).trans cb;have dw:B0 (λi=>i=h1.nx\/i=f.nx) a4 C:=(T c4.ae).trans dv;have dx:B0 (λi=>i=h1.nx\/i=f.nx) a3 C:=(T c2.ae).trans dw;have cc:B0 (λi=>i=h1.nx\/i=f.nx) a2 C:=(T c1.ae).trans dx;have cd:B0 (λi=>i=h1.nx\/i=f.nx) a1 C:=(wf fj).trans cc;have ce:B0 (λi=>i=h1.nx\/i=f.nx) a0 C:=(wf Sn).trans cd;have dy:B0 (λi=>i=h1.nx\/i=f.nx) az C:=(wf c19).trans ce;have dz:B0 (λi=>i=h1.nx\/i=f.nx) ay C:=(T c0.ae).trans dy;have cf:B0 (λi=>i=h1.nx\/i=f.nx) ax C:=(T cz.ae).trans dz;have cg:B0 (λi=>i=h1.nx\/i=f.nx) aw C:=(wf PT).trans cf;have ea:B0 (λi=>i=h1.nx\/i=f.nx) av C:=(wf c15).trans cg;have eb:B0 (λi=>i=h1.nx\/i=f.nx) au C:=(T cy.ae).trans ea;have ch:B0 (λi=>i=h1.nx\/i=f.nx) ar C:=(T cx.ae).trans eb;have ci:B0 (λi=>i=h1.nx\/i=f.nx) aq C:=(wf c12).trans ch;have cj:B0 (λi=>i=h1.nx\/i=f.nx) ab C:=(wf c11).trans ci;rcases d11 with⟨_,e⟩|⟨ga,t11,rfl,ck⟩
  .exact Cf e (by rw[dg];decide)
  have ck:=(ck.fr ci (λi U=>by rcases U with rfl|rfl;exact cw.1;exact cw.2)).1;rcases d12 with⟨_,e⟩|⟨gb,gc,gd,ge,rfl,cm⟩
  .exact Cf e (by rw[de];decide)
  have cm:=(cm.fr ch (λi U=>by rcases U with rfl|rfl;exact dk.1;exact dk.2)).1;rcases d15 with⟨_,e⟩|⟨gf,t15,rfl,cn⟩
  .exact Cf e (by rw[dd];decide)
  have cn:=(cn.fr cg (λi U=>by rcases U with rfl|rfl;exact dl.1;exact dl.2)).1;rcases d16 with⟨_,e⟩|⟨gg,gh,gi,gj,rfl,cp⟩
  .exact Cf e (by rw[dc];decide)
  have cp:=(cp.fr cf (λi U=>by rcases U with rfl|rfl;exact dm.1;exact dm.2)).1;rcases d19 with⟨_,e⟩|⟨gk,gl,gm,gn,rfl,cq⟩
  .exact Cf e (by rw[db];decide)
  have cq:=(cq.fr ce (λi U=>by rcases U with rfl|rfl;exact dn.1;exact dn.2)).1;rcases d20 with⟨_,e⟩|⟨go,gp,gq,gr,rfl,cr⟩
  .exact Cf e (by rw[da];decide)
  have cr:=(cr.fr cd (λi U=>by rcases U with rfl|rfl;exact dp.1;exact dp.2)).1;rcases d21 with⟨_,e⟩|⟨gs,gt,gu,gv,rfl,cs⟩
  .exact Cf e (by rw[c9];decide)
  have cs:=(cs.fr cc (λi U=>by rcases U with rfl|rfl;exact dq.1;exact dq.2)).1;rcases d25 with⟨_,e⟩|⟨gw,gx,gy,gz,rfl,ct⟩
  .exact Cf e (by rw[c8];decide)
  have ct:=(ct.fr cb (λi U=>by rcases U with rfl|rfl;exact dr.1;exact dr.2)).1;rcases d26 with⟨_,e⟩|⟨g0,g1,g3,g4,rfl,cu⟩
  .cases e
  have cu:=(cu.fr ca (λi U=>by rcases U with rfl|rfl;exact ds.1;exact ds.2)).1;obtain⟨D,hD⟩:∃D:Dt,D=⟨p,bh,mb,mm,mr,df,ml,ga,t11,gf,t15,⟨gb,gc,gd,ge⟩,⟨gg,gh,gi,gj⟩,⟨gk,gl,gm,gn⟩,⟨go,gp,gq,gr⟩,⟨gs,gt,gu,gv⟩,⟨gw,gx,gy,gz⟩,⟨g0,g1,g3,g4⟩⟩:=⟨_,B⟩;have A:DT C f.nx D:=by
   subst hD;exact⟨λi v e=>(ai.dD (i:=0) B).cell e,Rd.ae al cj (λi U y=>by rcases y with rfl|rfl;exact(dh _ U).1 rfl;exact(dh _ U).2 rfl),
    bi.ae cj (λy=>y.elim di.1 di.2) (λy=>y.elim dj.1 dj.2),
    ck,cn,cm,cp,cq,cr,cs,ct,cu⟩
  have ba:EJ D.mn D.ml/\D.mn<=64/\D.ml.length<=5000/\D.ps.length<=64/\(0<=D.df/\D.df<=30000):=by
   subst hD;exact⟨fx,by show mm<=64;omega,fy,fw,fz⟩
  clear hD cj ci ch eb ea cg cf dz dy ce cd cc dx dw dv cb ca du dt;refine⟨_,ld B qL,_,c54 E.toBase A d G,?_⟩;rintro _ N ⟨xA,rr,rfl,aj⟩;have ec:=x1.trans (ai.e.trans xA);refine⟨_,_,B,Ad (λeA=>?_) (λeA=>?_)⟩
  .exact ak ec
  have aj:=aj (by cases rr<;>first|rfl|cases eA)
  have ap:=A.ext xA;have k0:=ap.c 0 _ B;have k1:=ap.c 1 _ B;refine⟨[],Kq,_,ld B k0,_,ld B k1,_,c56 (h:=N.ad) E.toBase ap.ad d G,?_⟩;rintro _ R ⟨xB,rfl,g5,g6⟩;have g7:=ap.ext xB.aa;refine⟨xB.ag,_,c55 (h:=(N.aa R).ad) (a:=0) E.toBase g7.ad aj (show Cell (N.aa R) _ _ _ from g5.aa) (show Cell (N.aa R) _ _ _ from g6.aa) G aj.1 d G,?_⟩;rintro wC W ⟨xC,es,g8,ip,g9,ha⟩;have ed:=xB.aa.trans xC.aa;have bc:=ap.ext ed;have cv:=ec.trans ed;have hc:Dq ((N.aa R).aa W) wC es:=Rd.aa g8;refine⟨xC.ag,_,c46 (h:=((N.aa R).aa W).ad) E (show Ce ((N.aa R).aa W) from eh.ext cv) (show G3 ((N.aa R).aa W) from qq.ext cv) (show Gt ((N.aa R).aa W) _ _ from bc.pos) G (show Dq ((N.aa R).aa W) _ _ from hc) (by have:=aj.1;omega) (λe he=>by have:=(g9 e he).1;exact Pq) (.inr ⟨D.mb,D.mr,D.df,D.ml,B,D.mn,show F6 ((N.aa R).aa W) _ _ _ _ _ from bc.cJ,ba.1,ba.2.1,G⟩) d G,?_⟩;rintro _ hE ⟨xE,oE,zE,rfl,hd⟩;have bd:=cv.trans xE.aa;refine⟨xE.ag,?_⟩;apply Ad<;>intro eE
  .exact ak bd
  obtain⟨⟨hf,hg⟩,be,ee,iq,rE⟩:=hd (by simpa using eE);have be:=be D.mb D.mn B (show Cell ((N.aa R).aa W) _ _ _ from bc.cJ.2.1);have ef:Rd (((N.aa R).aa W).aa hE) oE 1 ee.length (Ay ee):=rE.rd.aa;have eg:Rd (((N.aa R).aa W).aa hE) v 1 n (Ay bs):=r.ext bd;have hh:=FB (τ:=Ax) (s:=62) (d:=9) Kq ef;have hj:=FB (τ:=Ax) (s:=62) (d:=9) Kq eg;have hk:=bc.ext xE.aa;obtain⟨_,ir,it,rfl,_⟩:=ef;obtain⟨_,iu,iv,rfl,_⟩:=eg;refine⟨_,hh,_,hj,_,B,Ad (λeF=>?_) (λeF=>?_)⟩
  .exact ak bd
  .exact⟨bd,_,0,B,λ_=>⟨f.nx,D,B,hk,aj,hf,be,(by rw[←be];exact ba.1),ba.2.2.2.2,λi U=>hg _ (by rw[ha];exact List.mem_map.2 ⟨i,List.mem_range.2 G,by rw[Ba]⟩)⟩⟩
def X8 (m:Nat) (a b:List Eu):Prop:=a=b\/m<=a.length/\a<+:b
def Zch {m m':Nat} (f:m<=m') {k:Int} {a b:List Eu} (r:X8 m a b) (t:Bd):X8 m (Gz m k a t) (Gz m' k b t):=by
 have d:∀(q:Nat) (c:List Eu),c<+:Gz q k c t:=λq c=>by unfold Gz;split;exact GS _ _;exact Eb _
 rcases r with rfl|⟨h1,g⟩
 ·rcases A8 a.length m with h|h
  ·refine .inl ?_;unfold Gz;by_cases hc:t∉a.map Eh
   ·rw[if_pos ⟨h,hc⟩,if_pos ⟨AC h f,hc⟩]
   ·rw[if_neg λx=>hc x.2,if_neg λx=>hc x.2]
  ·have e:Gz m k a t=a:=by unfold Gz;rw[if_neg λx=>absurd x.1 (Nat.not_lt.2 h)]
   rw[e];exact .inr ⟨h,d _ _⟩
 ·have e:Gz m k a t=a:=by unfold Gz;rw[if_neg λx=>absurd x.1 (Nat.not_lt.2 h1)]
  rw[e];exact .inr ⟨h1,g.trans (d _ _)⟩
def Zck {m m':Nat} (d:m<=m') {k:Int}:∀(c:BZ) {a b:List Eu},X8 m a b->X8 m (c.foldl (Gz m k) a) (c.foldl (Gz m' k) b)
 |[],_,_,r=>r
 |t::c,_,_,r=>Zck d c (Zch d r t)
def Zci {m:Nat} {k:Int}:∀(b:BZ) (a:List Eu),(a.map Eh++b).Nodup->a.length+b.length<=m->(b.foldl (Gz m k) a).length=a.length+b.length
 |[],a,_,_=>rfl
 |t::b,a,hn,hl=>by
  have h1:t∉a.map Eh:=λh=>(List.nodup_append.1 hn).2.2 t h t (by simp) rfl;have e:Gz m k a t=a++[(t,k)]:=by unfold Gz;rw[if_pos ⟨by rw[AO] at hl;omega,h1⟩]
  show((b.foldl (Gz m k) (Gz m k a t)).length)=_;rw[e,Zci b _ (by rw[BS,KA];exact hn) (by rw[Aj,Br];rw[AO] at hl;omega),Aj,Br,AO];omega
def Zcj {m m':Nat} (d:m<=m') {k:Int} {p p':BZ} (e:p<+:p') (g:p.Nodup) (i:p.length<=m) (c:p=p'\/m<=p.length):X8 m (p.foldl (Gz m k) []) (p'.foldl (Gz m' k) []):=by
 obtain⟨r,rfl⟩:=e;rw[K1];have a:=Zck d (k:=k) p (.inl rfl:X8 m [] []);have f:=Zci (m:=m) (k:=k) p [] (by simpa using g) (by simpa using i);rcases c with c|c
 ·have:r=[]:=by have:=congrArg HD c;rw[Aj] at this;exact BO G
  rw[this];exact a
 ·refine .inr ⟨by rw[f];simpa using c,?_⟩;have b:p.foldl (Gz m k) []<+:p.foldl (Gz m' k) []:=by
   rcases a with h|h
   ·rw[h];exact Eb _
   ·exact h.2
  exact b.trans (NK _ _)
def Zde {ox oy:BU} (c:Eu):Jo Ax .neq 47 ox oy (.agg ⟨ME c⟩) (.agg ⟨ME c⟩)=I (.bool Ah):=by
 have e:IZ Ax Op.maxDepth 47 (.agg ⟨ME c⟩) (.agg ⟨ME c⟩)=match Gp c.1.data.toList c.1.data.toList with|true=>(match c.2==c.2 with|true=>I Ag|false=>I Ah)|false=>I false:=by kernel_rfl
 show(match IZ Ax Op.maxDepth 47 (.agg ⟨ME c⟩) (.agg ⟨ME c⟩) with|some b=>I (CU (!b))|none=>Z)=_
 rw[e,CJ.2 rfl,beq_self_eq_true];rfl
def Zcl (B:Base S L) {l:List Eu} (g:T5 h v l) (i:T5 h u l) (E:l.length<=1000):Bk S L 1 14 [v,u] h λw J=>AA h J/\w=.bool true:=
 Cn f14 B λd p F=>by
  obtain⟨q,r,rfl⟩:∃A c,v=.slice A l.length c:=by obtain⟨_,A,c,e,_⟩:=g;exact⟨A,c,e⟩
  obtain⟨s,t,rfl⟩:∃A c,u=.slice A l.length c:=by obtain⟨_,A,c,e,_⟩:=i;exact⟨A,c,e⟩
  refine Ad (λk=>?_) (λ_=>?_)
  ·exact absurd k (by simp)
  refine⟨λμ A b=>∃k:Nat,A=[(0,.slice q l.length r),(1,.slice s l.length t),(5,Vi k)]/\k<=l.length/\μ=l.length-k/\AA h b,
   ⟨_,_,Sq,G,0,rfl,Al _,rfl,AA.refl _⟩,?_⟩
  rintro μ A b ⟨k,rfl,H,rfl,x⟩ y;refine Bz (λz=>?_) (λz=>⟨x,rfl⟩);have a:k<l.length:=G;obtain⟨j,_,C,_,m⟩:=(Rd.ext g x).el a;obtain⟨n,_,D,_,o⟩:=(Rd.ext i x).el a;cases C;cases D;rw[flatK (f:=ME) (λ_=>rfl) l (Ab a)] at m o;refine⟨[],Kq,G,_,EQ (k:=2) Kq (show BK b j.block (j.off+(k:Int).toNat*2) (ME l[k]) from m) rfl,G,_,EQ (k:=2) Kq (show BK b n.block (n.off+(k:Int).toNat*2) (ME l[k]) from o) rfl,.bool Ah,Zde _,Pq,_,_,Sq,G,k+1,rfl,G,rfl,x⟩
def R0.ext {SP:Bd->Int->BZ} (s:R0 S L SP h) (x:AA h J):R0 S L SP J:=λy=>s (x.trans y)
def c8 (j:Sy S L) {h:Y} (A:Ce h) (M:G3 h) {s:Lf} (a:Lt L h s) (l:s.aV):PE S L 33 8 [.agg ⟨s.cells⟩] h λw J=>AA h J/\∃(o p:Aa) (z:Int),w=.tuple #[o,p,.int .i64 z]/\(z=0->∃(lp:Nat) (V:Cb),p=AG lp 0/\EI J lp V/\V.Ok):=
 GU (fn:=f8) j.toBase Kq B λd ag=>by
  have hL:=j.aI;obtain⟨⟨pv,df,cv,ev,ps,cs,es⟩,m,lv,n,ls,rs⟩:=s;obtain⟨g,W,q⟩:=(Sep.nil h).box Ax 30 (.agg ⟨[pv,.int .i64 df,cv,ev,.string m,lv,n]⟩);have o:Own g h.nx 30 [pv,.int .i64 df,cv,ev,.string m,lv,n]:=q.dD (i:=0) B;have N:∀{H:Y} {o p:Aa} {z:Int},AA h H->z≠0->AA h H/\∃(o' O:Aa) (P:Int),C4 #[o,p,.int .i64 z]=.tuple #[o',O,.int .i64 P]/\(P=0->∃(lp:Nat) (V:Cb),O=AG lp 0/\EI H lp V/\V.Ok):=λx C=>⟨x,_,_,_,B,λh=>Cf h C⟩;have X:BK g h.nx 0 [pv,.int .i64 df,cv,ev]:=⟨o.1,by
   obtain⟨_,c,x,Q,E⟩:=o;exact⟨c,_,_,_,_,x,Q,λi u U=>by rw[Ba];exact E i u (by rw[show[pv,.int .i64 df,cv,ev,.string m,lv,n]=[pv,.int .i64 df,cv,ev]++[.string m,lv,n] from B,AB (List.getElem?_eq_some_iff.1 U).1];exact U)⟩⟩
  refine⟨Dc B,_,_,W,_,EQ (k:=4) Kq X B,_,(Xc j.toBase6 (A.ext q.e) (M.ext q.e) (s:=⟨pv,df,cv,ev,ps,cs,es⟩) (a.1.ext q.e) l.1 d G).any,?_⟩;rintro _ Q ⟨R,v,z,rfl,C⟩;have y:=q.e.trans R;refine Ad (λF=>N y (by simpa using F)) (λF=>?_);obtain⟨bs,hb,r⟩:=C (by simpa using F);refine⟨_,(c19 j.toBase6 (A.ext y) (M.ext y) r G d G).any,?_⟩;rintro _ E ⟨T,v3,z3,rfl,aa⟩;have t:=y.trans T;refine Ad (λK=>N t (by simpa using K)) (λK=>?_);obtain⟨b,D,rfl,ab,f,pO,ah,hm,ad,ae⟩:=aa (by simpa using K);have c:∀(i:Nat) v,[pv,.int .i64 df,cv,ev,.string m,lv,n][i]?=I v->Cell E h.nx i v:=λi v U=>(o.cell U).ext (R.trans T);refine⟨_,ld B (c 4 _ B),_,ld B (c 5 _ B),_,ld B (c 6 _ B),_,Sn j (A.ext t) ab f pO.2.1 ae l.2.2.2.1 ad hm (Rd.ext a.2.1.1 t) l.2.2.2.2.1 l.2.1 (Rd.ext a.2.1.2 t) l.2.2.2.2.2 d G,?_⟩;rintro _ h4 ⟨x4,o4,z4,rfl,af⟩;exact⟨t.trans x4,_,_,_,B,af⟩
def Own.bZ {h:Y} {b e:Nat} {pre ys post:AH} (o:Own h b e (pre++ys++post)):BK h b pre.length ys:=by
 obtain⟨h1,c,x,a,d⟩:=o;refine⟨h1,c,_,_,_,_,x,a,λi u U=>d _ u ?_⟩;rw[KA,Bq G,Ds,AB (List.getElem?_eq_some_iff.1 U).1];exact U
structure Aco where
 c:Lf
 F:Int
 T:Int
 r:Int
 l:Int
 day:Int
 c4:Int
def Aco.cells (x:Aco):AH:=x.c.cells++[.int .i64 x.F,.int .i64 x.T,.int .i64 x.r,.int .i64 x.l,.int .i64 x.day,.int .i64 x.c4]
def Zap (B:Sy S L) (hN:S.ov 15=Z/\S.nd 15=I 9/\S.hk 15=Z) {DA:Nat->Bd->Bd} {SP:Bd->Int->BZ} {h:Y} (K:Pw S L DA h) (SW:R0 S L SP h) (U:Ce h) (qq:G3 h) (hw:∀J:Y,AA h J->Bk S L 1 9 [] J λw Q=>AA J Q/\w=.bool Ag) {x:Aco} (a:Lt L h x.c) {m:Nat} (hm:m<=255):PE S L 34 5 [.agg ⟨x.cells⟩,.int .u8 m] h λw J=>AA h J/\w=.bool true:=
 GU (fn:=f5) B.toBase Kq rfl λd hd'=>by
  have hL:=B.aI;obtain⟨⟨⟨pv,df,cv,ev,ps,cs,es⟩,n,lv,y,ls,rs⟩,F,T,r,X,day,j⟩:=x;obtain⟨g,y1,u⟩:=(Sep.nil h).box Ax 34 (.agg ⟨[pv,Vi df,cv,ev,.string n,lv,y,Vi F,Vi T,Vi r,Vi X,Vi day,Vi j]⟩);have o:Own g h.nx 34 [pv,Vi df,cv,ev,.string n,lv,y,Vi F,Vi T,Vi r,Vi X,Vi day,Vi j]:=u.dD (i:=0) rfl;have oa:∀{H:Y},AA g H->Own H h.nx 34 [pv,Vi df,cv,ev,.string n,lv,y,Vi F,Vi T,Vi r,Vi X,Vi day,Vi j]:=λx=>o.ext x;have cS:∀{H:Y},AA g H->BK H h.nx 7 [Vi F,Vi T]:=λx=>(oa x).bZ (pre:=[pv,Vi df,cv,ev,.string n,lv,y]) (ys:=[Vi F,Vi T]) (post:=[Vi r,Vi X,Vi day,Vi j]);have c7c:∀{H:Y},AA g H->BK H h.nx 0 [pv,Vi df,cv,ev,.string n,lv,y]:=λx=>(oa x).bZ (pre:=[]) (ys:=[pv,Vi df,cv,ev,.string n,lv,y]) (post:=[Vi F,Vi T,Vi r,Vi X,Vi day,Vi j]);have C:∀{H:Y} (i:Nat) v,AA g H->[pv,Vi df,cv,ev,.string n,lv,y,Vi F,Vi T,Vi r,Vi X,Vi day,Vi j][i]?=I v->Cell H h.nx i v:=λi v x hi=>(oa x).cell hi;refine⟨Dc rfl,_,_,y1,_,EQ (k:=7) Kq (c7c (AA.refl g)) rfl,_,(c7 B.toBase (s:=⟨⟨pv,df,cv,ev,ps,cs,es⟩,n,lv,y,ls,rs⟩) (a.ext u.e) d G).any,?_⟩;rintro _ h2 ⟨M,b,rfl,hl⟩;refine⟨_,_,rfl,Ad (λ_=>⟨u.e.trans M,rfl⟩) (λk1=>⟨_,ld rfl (C 12 _ M rfl),Bz (λ_=>⟨u.e.trans M,rfl⟩) (λk0=>?_)⟩)⟩;have hl:=hl (by cases b<;>first|rfl|cases k1)
  refine⟨_,EQ (k:=7) Kq (c7c M) rfl,_,c8 B (U.ext (u.e.trans M)) (qq.ext (u.e.trans M)) (s:=⟨⟨pv,df,cv,ev,ps,cs,es⟩,n,lv,y,ls,rs⟩) (a.ext (u.e.trans M)) hl d G,?_⟩;rintro _ h3 ⟨x3,o3,p3,z,rfl,hz⟩;have X3:=M.trans x3;refine Ad (λ_=>⟨_,(hw h3 (u.e.trans X3) d G).any,λw _ h=>⟨(u.e.trans X3).trans h.1,by rw[h.2];rfl⟩⟩) (λk2=>?_);obtain⟨lp,V,rfl,A,ok⟩:=hz (by simpa using k2);have E:=u.e.trans X3;refine⟨_,EQ (k:=2) Kq (cS X3) rfl,_,ld rfl (C 9 _ X3 rfl),_,ld rfl (C 10 _ X3 rfl),_,ld rfl (C 11 _ X3 rfl),_,ld rfl (C 12 _ X3 rfl),_,(c10 B hN (K.ext E) (R0.ext SW E) (U.ext E) A ok d G).any,?_⟩;rintro w h4 ⟨x4,C1⟩;have X4:=X3.trans x4;have E4:=u.e.trans X4;refine⟨_,EQ (k:=2) Kq (cS X4) rfl,_,ld rfl (C 9 _ X4 rfl),_,ld rfl (C 10 _ X4 rfl),_,ld rfl (C 11 _ X4 rfl),_,ld rfl (C 12 _ X4 rfl),λz1 hz1=>⟨_,.inl ⟨Pq,rfl⟩,Pq,_,(c10 B hN (K.ext E4) (R0.ext SW E4) (U.ext E4) (A.ext x4) ok d G).any,?_⟩⟩;rintro w5 h5 ⟨x5,C2⟩;have X5:=X4.trans x5;have E5:=u.e.trans X5;obtain⟨q,b1,rd1,rd2,N,hl1,hl2⟩:∃q b1:List Eu,T5 h5 w q/\T5 h5 w5 b1/\q<+:b1/\q.length<=60/\b1.length<=60:=by
   rcases C1 with⟨hb,rfl⟩|⟨hh,q,o1,hla,k,os,hE,hos,e1⟩
   ·rcases C2 with⟨hb2,rfl⟩|⟨hh2,b1,o2,hlb,_⟩
    ·exact⟨[],[],(AS.nil h5 0 47 2).rd,(AS.nil h5 0 47 2).rd,Eb _,Al _,Al _⟩
    ·exact⟨[],b1,(AS.nil h5 0 47 2).rd,o2.rd,List.nil_prefix,Al _,G⟩
   ·rcases C2 with⟨hb2,_⟩|⟨hh2,b1,o2,hlb,k',os',hE',hos',e2⟩
    ·omega
    ·refine⟨q,b1,Rd.ext o1.rd x5,o2.rd,?_,G,G⟩;have hp:=hE.dj hE' G;have hs:=hE.same hE' G;have O:=hE.len G;have hn:=(open A6 in Zcr ⟨V,F,T,X⟩ r k).1;rw[←hos] at hp hs O hn;rw[←hos'] at hp hs;rw[O5] at hn;have R:=Zcj (m:=(min j 60).toNat) (m':=(min (z1+m) 60).toNat) G (k:=1) (p:=os.map λe=>e.P.tx) (p':=os'.map λe=>e.P.tx) (by
       have:=hp.map Ed.tx;rw[O5,O5] at this;exact this) hn (by rw[A4] at O⊢;omega) (by
       rcases hs with h|h
       ·refine .inl ?_;have:=congrArg (List.map Ed.tx) h;rw[O5,O5] at this;exact this
       ·refine .inr ?_;rw[A4] at h⊢;omega)
     rw[e1,e2];unfold Zcm;have hm3:(min j 60).toNat<=(min (z1+m) 60).toNat:=G;rcases Zck hm3 _ (Zck hm3 _ (Zck hm3 _ R)) with h|h
     ·rw[h];exact Eb _
     ·exact h.2
  obtain⟨A1,c1,rfl⟩:∃A c,w=.slice A q.length c:=by obtain⟨_,A,c,e,_⟩:=rd1;exact⟨A,c,e⟩
  obtain⟨A2,c2,rfl⟩:∃A c,w5=.slice A b1.length c:=by obtain⟨_,A,c,e,_⟩:=rd2;exact⟨A,c,e⟩
  have hll:=N.length_le;obtain⟨v',e1,D,_⟩:=Rd.slice (τ:=Ax) (t:=41) (k:=2) Kq rd2 (lo:=Z) (U:=I (Vi q.length)) (l:=0) (m:=q.length) rfl rfl G G;have D:T5 h5 v' q:=by
   obtain⟨r,hr⟩:=N;have e:((b1.flatMap ME).drop (0*2)).take ((q.length-0)*2)=q.flatMap ME:=by
    rw[←hr,E0,Qg,Ajb,DL,←HV (f:=ME) (k:=2) (λ_=>rfl) q];exact List.take_left
   rw[e] at D;exact D
  have Da:∀{H:Y},AA h5 H->CdM Ag (B8 Ax S L d) (.func 9) [] H λw Q=>AA H Q/\w=.bool true:=λx=>(hw _ (E5.trans x) d G).any;refine Bz (λk3=>⟨_,_,congrArg (CN _) e1,_,(Zcl B.toBase rd1 D G d G).any,?_⟩) (λk3=>by omega);rintro _ h6 ⟨x6,rfl⟩;exact⟨_,Da x6,λw _ h=>⟨(E5.trans x6).trans h.1,by rw[h.2];rfl⟩⟩
section
variable{S:A9} {L:Nat}
def Adi (S:A9) (L:Nat) (d:Nat) (f:Au) (a:AH) (h:Y) (Q Qp:Aa->Y->Prop):Prop:=∀n,d<=n->
 (∃v J,Q v J/\∀k kp,B8 Ax S L n (.func f) a h k kp=k v J)\/∃v J,Qp v J/\∀k kp,B8 Ax S L n (.func f) a h k kp=kp v J
abbrev KE (fn:BC) (Q Qp:Aa->Y->Prop):KG Unit:=KG.mk (λA _ h=>Ex Ax A h fn.results.toList (λvs=>Q (Ff vs) h)) (λ_ _ _ _=>False) (λA _ h=>Ex Ax A h fn.results.toList (λvs=>Q (Ff vs) h)) λv _ _ h=>Qp v h
def Aeq (b:Be) (L:Nat) (fn:BC) (a:AH) (h:Y) (Q Qp:Aa->Y->Prop):Prop:=
 match fn.body with
 |some c=>(a.length<=fn.ntmps)/\IH Ah Ax b (mdU Ag) L fn.ntmps c (KE fn Q Qp) (PJ a 0) () h
 |none=>False
def Rn (a:Be) (L sz:Nat) (ds:List Hh) (K:KG Unit) (c:DC) (fr:Fr) (h:Y):Prop:=∀(X:Type) (P:(X->RR)->Prop) (Kt:X->Kt),KOk P sz (λ_=>ds) K Kt->P λy=>B7 Ax a L Z c (Kt y) fr h
def QA {a:Be} {sz:Nat} {ds:List Hh} {K:KG Unit} {c:DC} {fr:Fr} {h:Y} {A:As} (H:IH Ah Ax a (mdU Ag) L sz c K A () h) (r:Gx A fr) (b:fr.sz=sz) (d:fr.ds=ds):Rn a L sz ds K c fr h:=λ_ _ _ k=>La W0 R3 L sz c K _ A () fr h H r b d k
def Vz (b:Base S L) {d:Nat} {f:Au} {fn:BC} {c:DC} {a:AH} {h:Y} {Q Qp:Aa->Y->Prop} (i:Ax.fn.get f=I fn) (j:Nf.contains f=Ah) (l:fn.body=I c) (o:a.length<=fn.ntmps)
 (H:∀n,d<=n->Rn (B8 Ax S L n) L fn.ntmps [] (KE fn Q Qp) c ⟨T.laid a 0 .nil,fn.ntmps,[]⟩ h):Adi S L (d+1) f a h Q Qp:=by
 intro n t;obtain⟨m,rfl⟩:∃m,n=m+1:=⟨n-1,by omega⟩;obtain⟨p,r,s⟩:=b.plain f j;have e:∀k kp,B8 Ax S L (m+1) (.func f) a h k kp=_:=λk kp=>(Kl p r _ _ _ _).trans (QM i s l o h k kp);have:=H m (by omega) _ (λg:(Aa->Y->RR)×(Aa->Y->RR)->RR=>(∃v J,Q v J/\∀k kp,g (k,kp)=k v J)\/∃v J,Qp v J/\∀k kp,g (k,kp)=kp v J) _ (Awu (S:=S) (kk:=Eh) (kp:=Amy) (λv J q=>.inl ⟨v,J,q,λ_ _=>rfl⟩) λv J q=>.inr ⟨v,J,q,λ_ _=>rfl⟩);exact this.imp (λ⟨v,J,q,z⟩=>⟨v,J,q,λk kp=>(e k kp).trans (z k kp)⟩) λ⟨v,J,q,z⟩=>⟨v,J,q,λk kp=>(e k kp).trans (z k kp)⟩
def Ama (g:Base S L) {d:Nat} {f:Au} {fn:BC} {e:AH} {h:Y} {Q Qp:Aa->Y->Prop} (i:Ax.fn.get f=I fn) (j:Nf.contains f=Ah)
 (H:∀n,d<=n->Aeq (B8 Ax S L n) L fn e h Q Qp):Adi S L (d+1) f e h Q Qp:=by
 have a:=H d (Ae _);unfold Aeq at H a;cases b:fn.body with
 |none=>rw[b] at a;cases a
 |
  some c=>
  simp only[b] at H a;exact Vz g i j b a.1 λn k=>QA (H n k).2 (TB a.1) B rfl
def Xq {a:Be} {sz:Nat} {ds:List Hh} {c c1:DC} {AU lo rest:List C0} {i:Option Tmp} {f:BU} {ax:Array BU} {j:Array Ai} {ty:Ai} {l:String} {m:Array Edge} {kn:Kt->Fr->Y->RR} (o:lo=⟨i,.call ⟨.value f,ax,j⟩,ty,l,m,Z⟩::rest)
 (q:∀K fr h,B7 Ax a L Z c K fr h=B7 Ax a L Z c1 {n:=λfr h=>EX Ax a Z AU K.p (kn K) lo fr h,x:=K.x,r:=K.r,p:=K.p} fr h)
 {K:KG Unit} {A:As} {fr:Fr} {h:Y} (H:IH Ah Ax a (mdU Ag) L sz c1 {n:=λA _ h=>∃g d cap vs v J,Dn Ax A f=I (.func (.func g) d cap)/\RY Ax A ax.toList=I vs/\(∀k kp,a (.func g) (d.toList++vs++cap.toList) h k kp=kp v J)/\K.p v A () J,x:=K.x,r:=K.r,p:=K.p} A () h)
 (r:Gx A fr) (s:fr.sz=sz) (t:fr.ds=ds):Rn a L sz ds K c fr h:=λX P Kt b=>by
 subst o;rw[funext λy=>q (Kt y) fr h];refine QA H r s t _ _ _ ⟨λu J _ w z C e ⟨g,d,cap,vs,v,D,E,F,M,N⟩=>?_,b.x,b.r,b.p⟩;simp only[EX,E5,IB,F9,Ju,FX e F,Bg e E,Vn,M];exact b.p v u D () w z C e N
def VC (aa:Base S L) {d:Nat} {f:Au} {fn:BC} {args:AH} {h:Y} {Q:Aa->Y->Prop} (hf:Ax.fn.get f=I fn) (hp:Nf.contains f=Ah) {N s:DC} {O:Nat} {t:Tmp} {b:Au} {u:Array BU} {z C:Ai} {D E:String} {F H:Array Edge} {M:Array Ai}
 (hc:fn.body=I (.seq N (.seq (.region O #[⟨I t,.makeFunc (.func b) #[] u,z,D,F,Z⟩,⟨Z,.defer ⟨.value (.tmp t),#[],M⟩,C,E,H,Z⟩] Ah) s))) (ht:AD t fn.ntmps=Ag)
 (ab:S.dv b=I (λ_ h=>I h)) {g:AH->Aa->Y->Option Y} (ad:S.rc b=I g) (P:As->AH->Y->Prop) (X:args.length<=fn.ntmps)
 (ae:∀n,d<=n->J2 Ax (B8 Ax S L n) L fn.ntmps N (kp (λA h=>∃w a,Sub w A/\P w a h) (λ_ _ _=>False) λ_ _=>False) (PJ args 0) h)
 (af:∀A a h,P A a h->RY Ax A u.toList=I a)
 (ag:∀n,d<=n->∀A a h,P A a h->∀(fr:Fr) ds,Gx ((t,.func (.func b) #[] ⟨a⟩)::A) fr->fr.sz=fn.ntmps->fr.ds=ds->Rn (B8 Ax S L n) L fn.ntmps ds (KG.mk (λA _ h=>Ex Ax A h fn.results.toList (λvs=>Q (Ff vs) h)) (λ_ _ _ _=>False) (λA _ h=>Ex Ax A h fn.results.toList (λvs=>Q (Ff vs) h))
  λv A _ J=>∃R,g a v J=I R/\Ex Ax A R fn.results.toList (λvs=>Q (Ff vs) R)) s fr h):Bk S L (d+1) f args h Q:=by
 intro n hn;obtain⟨m,rfl⟩:∃m,n=m+1:=⟨n-1,by omega⟩;obtain⟨p1,p2,p3⟩:=aa.plain f hp;refine P1.cd p1 p2 ?_;simp only[QM hf p3 hc X];refine La W0 R3 L fn.ntmps N _ (λy:(Aa->Y->RR)×(Aa->Y->RR)=>{n:=λfr h=>B7 Ax (B8 Ax S L m) L Z (.seq _ s) (Qt Ax S fn y.1 y.2) fr h,x:=(Qt Ax S fn y.1 y.2).x,r:=(Qt Ax S fn y.1 y.2).r,p:=(Qt Ax S fn y.1 y.2).p}) _ () _ h (ae m (by omega)) (TB X) B B ⟨λfr1 o _ A' z1 z2 r' ⟨w,a,ah,j⟩=>?_,λ_ _ _ _ _ _ _ _ c=>c.elim,λ_ _ _ _ _ _ _ c=>c.elim,λ_ _ _ _ _ _ _ _ c=>c.elim⟩;obtain⟨l,sz,ds⟩:=fr1;simp only at z1 z2;subst z1 z2;have r0:Gx w ⟨l,fn.ntmps,[]⟩:=λt v q=>r' t v (ah t v q);have r2:Gx ((t,.func (.func b) #[] ⟨a⟩)::w) ⟨l.ins t (.func (.func b) #[] ⟨a⟩),fn.ntmps,[{target:=.fn (.func b) ⟨a⟩,args:=⟨[]⟩}]⟩:=λi v q=>by
  rw[GC] at q;rw[T.dA];by_cases U:t=i
  .rw[Bi U] at q;rw[Bi U.symm];exact q
  .rw[Bm U] at q;rw[Bm λe=>U e.symm];exact r0 i v q
 have e:∀K,B7 Ax (B8 Ax S L m) L Z (.seq (.region O #[⟨I t,.makeFunc (.func b) #[] u,z,D,F,Z⟩,⟨Z,.defer ⟨.value (.tmp t),#[],M⟩,C,E,H,Z⟩] Ah) s) K ⟨l,fn.ntmps,[]⟩ o=B7 Ax (B8 Ax S L m) L Z s K ⟨l.ins t (.func (.func b) #[] ⟨a⟩),fn.ntmps,[{target:=.fn (.func b) ⟨a⟩,args:=⟨[]⟩}]⟩ o:=λK=>by
  show EX Ax (B8 Ax S L m) Z [⟨I t,.makeFunc (.func b) #[] u,z,D,F,Z⟩,⟨Z,.defer ⟨.value (.tmp t),#[],M⟩,C,E,H,Z⟩] _ _ [⟨I t,.makeFunc (.func b) #[] u,z,D,F,Z⟩,⟨Z,.defer ⟨.value (.tmp t),#[],M⟩,C,E,H,Z⟩] _ o=_;have e3:O8 Ax ⟨l,fn.ntmps,[]⟩ (#[]:Array BU).toList=I []:=rfl;have e5:O8 Ax ⟨l.ins t (.func (.func b) #[] ⟨a⟩),fn.ntmps,[]⟩ (#[]:Array BU).toList=I []:=rfl;have e6:Ch Ax ⟨l,fn.ntmps,[]⟩ o (.makeFunc (.func b) #[] u)=I (.func (.func b) #[] ⟨a⟩,o):=by simp[Ch,FX r0 (af _ _ _ j),e3]
  simp[EX,E5,IB,F9,e6,Fr.set,ht,D1,Xv,e5,(by show(l.ins t _).get t=_;rw[T.dA,Bi B]:Go.Ev.ev Ax ⟨l.ins t (.func (.func b) #[] ⟨a⟩),fn.ntmps,[]⟩ (.tmp t)=I (.func (.func b) #[] ⟨a⟩))]
 show P1 Q λy=>B7 Ax (B8 Ax S L m) L Z (.seq (.region O _ Ah) s) (Qt Ax S fn y.1 y.2) _ o;rw[funext λy:(Aa->Y->RR)×(Aa->Y->RR)=>e (Qt Ax S fn y.1 y.2)];have Da:∀(fr:Fr) (h:Y) (_:Unit) (A:As),fr.sz=fn.ntmps->fr.ds=[{target:=.fn (.func b) ⟨a⟩,args:=⟨[]⟩}]->Gx A fr->Ex Ax A h fn.results.toList (λvs=>Q (Ff vs) h)->P1 Q λy=>Iw Ax S.dv fn.results.toList fr y.1 fr.ds h:=λfr h _ A _ d r c=>by
  obtain⟨vs,V,W⟩:=Hf r _ c;exact⟨Ff vs,h,W,λk _=>by rw[d];simp[Iw,ab,V]⟩
 refine ag m (by omega) w a o j _ _ r2 B B _ _ _ ⟨Da,λ_ _ _ _ _ _ _ _ c=>c.elim,Da,λv fr h _ A _ hd r ⟨V,W,c'⟩=>?_⟩;obtain⟨vs,h5,h6⟩:=Hf r _ c';refine⟨Ff vs,V,h6,λk kp=>?_⟩;show TC Ax S.rc fn.results.toList k kp v fr h=_;unfold TC;rw[hd];simp[ad,W,h5]
end
def Ait (b:k<bs.length) (v:Int) (a:Nat):PV (bs.drop k) v a k=(if(a=63/\1<bs[k].toNat)\/(0<a/\bs[k].toNat=0) then Z else
 if bs[k].toNat<128 then I (JP .u64 v (Es .u64 (D8 .u8 (bs[k].toNat:Int) 127) (a:Int)),k+1) else PV (bs.drop (k+1)) (JP .u64 v (Es .u64 (D8 .u8 (bs[k].toNat:Int) 127) (a:Int))) (a+7) (k+1)):=by
 rw[Di b];rfl
def Alj (a:bs.length<=k) (v:Int) (b:Nat):PV (bs.drop k) v b k=none:=by
 rw[Ef a];rfl
def Aed (h0 h:Y) (r:Nat) (v:Aa) (k:Nat):Prop:=Own h r 372 [v,.int .i64 k]/\B0 (·=r) h0 h
def Aka (v:Aa):Prop:=v=.iface 370 (.agg ⟨[]⟩)
def YT (a:Int):0<=D8 .u8 a 127/\D8 .u8 a 127<=127:=by
 obtain⟨x,b⟩:∃x:BitVec 8,BitVec.ofInt 8 a=x:=⟨_,B⟩;unfold D8;have e:BitVec.ofInt IntKind.u8.bits a=x:=b;rw[e];have:∀x:BitVec 8,0<=IntKind.u8.wrap ((x&&&BitVec.ofInt 8 127).toNat:Int)/\IntKind.u8.wrap ((x&&&BitVec.ofInt 8 127).toNat:Int)<=127:=by decide
 exact this x
def Auv (s:Base S L) (o:Own h r 372 [v,Vi (j:Nat)]) (rd:Rd h v 1 n (Ay bs)) (K:¬BY v r) (W:n<=4611686018427387904):
 Adi S L 1 191 [AG r 0] h (λw J=>∃(x:Int) (k:Nat),w=.int .u64 x/\PV (bs.drop j) 0 0 j=I (x,k)/\Aed h J r v k) (λw J=>Aka w/\PV (bs.drop j) 0 0 j=Z/\B0 (·=r) h J):=
 Ama (fn:=f191) s Kq B λd X=>by
  have hL:=s.aI;have hl:bs.length=n:=by have:=rd.1;rw[A7] at this;omega
  obtain⟨M,c1,rfl⟩:∃A c,v=.slice A n c:=by obtain⟨_,A,c,e,_⟩:=rd;exact⟨A,c,e⟩
  refine⟨Dc B,λu A g=>∃(k f:Nat) (x:Int),A=[(0,AG r 0),(3,.int .u64 x),(4,Vi f)]/\u=64-f/\(f<=63/\f%7=0)/\k<=j+f/\PV (bs.drop k) x f k=PV (bs.drop j) 0 0 j/\Aed h g r (.slice M n c1) k,
   ⟨_,_,Sq,G,j,0,0,B,B,G,G,B,o,(AA.refl h).ae _⟩,?_⟩
  rintro u A g ⟨k,f,x,rfl,rfl,hs,hk,e,o,c⟩ aa;have y:=o.cell (i:=0) B;have m:=o.cell (i:=1) B;refine⟨[],Kq,_,ld B m,_,ld B y,Bz (λN=>⟨B,B,by rw[←e,Alj G],c⟩) (λN=>?_)⟩;have C:k<bs.length:=G;rw[Ait C] at e;obtain⟨a,cc,p,_,q⟩:=(rd.ae c λi U e=>K (e▸U)).at_ G;cases p;have D:Cell g a.block (a.off+k) (.int .u8 (bs[k].toNat:Int)):=q k _ (by unfold Ay;rw[AX,Ab C];rfl);have hb:=UInt8.toNat_lt bs[k];generalize bs[k].toNat=b at e D hb;obtain⟨h1,O,E,F⟩:=o.st (τ:=Ax) (t:=3) B (by show 1<2;decide) (v:=Vi ((k:Int)+1)) B;refine⟨[],Kq,_,ld B y,_,ld B m,G,_,Dz (ld B D) (by show a.off+(k:Int).toNat*1=_;omega),?_⟩;have H:((f=63/\1<b)\/(0<f/\b=0))->(Ah=Ah/\Aka (.iface 370 (.agg ⟨[]⟩))/\PV (bs.drop j) 0 0 j=Z/\B0 (·=r) h g):=λP=>⟨B,B,by rw[←e,Bi P],c⟩;refine Bz (λQ=>Bz (λp=>H G) (λp=>?_)) (λQ=>?_)
  all_goals
   refine Bz (λR=>Bz (λT=>H G) (λT=>?_)) (λR=>?_)
   all_goals
    rw[Bm G] at e;refine⟨_,ld B m,Pq,_,O,_,.inl ⟨⟨by have:=YT (b:Int);omega,by have:=YT (b:Int);omega⟩,B⟩,G,Bz (λV=>?_) (λV=>?_)⟩
    .rw[Bi G] at e
     exact⟨_,k+1,B,e.symm,E,c.trans F.ae⟩
    .rw[Bm G] at e
     exact⟨Pq,_,_,CG (l:=[(0,_),(3,.int .u64 _),(4,Vi ((f+7:Nat):Int))]) ⟨B,B,Cs (λz=>I (Vi z)) (G),trivial⟩,(show 64-(f+7)<_ by omega),k+1,f+7,_,B,B,G,G,e,E,c.trans F.ae⟩
def Uo (n:Nat):DC->DC
 |.region i AU d=>.region i ⟨AU.toList.take n⟩ d
 |c=>c
def Fq (fn:BC):Code:=match fn.body with
 |some c=>c
 |none=>.skip
def ZL:DC->List C0
 |.region _ AU _=>AU.toList
 |_=>[]
def Arh {x:Int} (h:PV (bs.drop j) 0 0 j=I (x,k)):(0<=x/\x<18446744073709551616)/\k<=bs.length:=by
 obtain⟨h1,b,a⟩:=JF _ _ _ _ _ _ h;rw[AV] at a;refine⟨h1,?_⟩;omega
def Azo (f:Base S L) (o:Own h r 372 [v,Vi (j:Nat)]) (rd:Rd h v 1 n (Ay bs)) (g:¬BY v r) (D:n<=4611686018427387904):
 Adi S L 2 193 [AG r 0] h (λw J=>∃(x:Int) (k:Nat),w=.string ⟨⟨(bs.drop k).take x.toNat⟩⟩/\PV (bs.drop j) 0 0 j=I (x,k)/\x<=(n:Int)-k/\Aed h J r v (k+x.toNat))
  (λw J=>Aka w/\(∀x k,PV (bs.drop j) 0 0 j=I (x,k)->¬x<=(n:Int)-k)/\B0 (·=r) h J):=by
 have V:bs.length=n:=by have:=rd.1;rw[A7] at this;omega
 refine Vz (fn:=f193) f Kq B B (Dc B) λd E=>?_;rcases Auv f o rd g D d E with⟨w,h1,⟨x,k,rfl,a,b,c1⟩,e⟩|⟨w,h1,⟨F,a,c1⟩,e⟩
 .refine QA ?_ (TB (Dc B)) B B
  obtain⟨H,W⟩:=Arh a;obtain⟨X,c2,rfl⟩:∃A c,v=.slice A n c:=by obtain⟨_,A,c,e,_⟩:=rd;exact⟨A,c,e⟩
  have M:=b.cell (i:=0) B;have N:=b.cell (i:=1) B;refine⟨λw' J=>w'=.int .u64 x/\J=h1,⟨_,_,⟨B,B⟩,e⟩,?_⟩;rintro _ h1 ⟨rfl,rfl⟩;have l:=AT (AA.refl h1);have p:=AT Jq;have O:=b.ext l;have q:=b.ext p;refine⟨[],Kq,_,ld B M,_,ld B N,Pq,_,.inl Pq,Bz (λP=>⟨B,B,λy m u=>?_,c1.trans (l.ae _)⟩) (λP=>?_)⟩
  .rw[a] at u;cases u;omega
  obtain⟨v',z,C,_⟩:=Rd.slice Kq (rd.ae c1 λi U e=>g (e▸U)) (lo:=I (Vi k)) (U:=I (Vi ((k:Int)+x))) (m:=k+x.toNat) B (by
   obtain⟨y,rfl⟩:=B9 H.1;rfl) G G
  rw[BJ,BJ,EA,Ez] at C;obtain⟨A',c',rfl⟩:∃A c,v'=.slice A (k+x.toNat-k) c:=by obtain⟨_,A,c,e,_⟩:=C;exact⟨A,c,e⟩
  have cv:=FB (τ:=Ax) (s:=62) (d:=9) (h:=(nb (nb h1)).ad) Kq Jq;rw[Ds] at cv z;obtain⟨h3,Q,R,T⟩:=q.st (τ:=Ax) (t:=3) B (by show 1<2;decide) (v:=Vi ((k:Int)+x)) B;refine⟨[],Kq,_,ld B Jq,_,ld B Jq,_,ld B (O.cell B),_,.inl Pq,Pq,_,_,Cs (CN _) z,_,cv,_,ld B (q.cell B),_,.inl Pq,Pq,_,Q,x,k,B,a,G,?_,(c1.trans (p.ae _)).trans T.ae⟩;rw[show((k+x.toNat:Nat):Int)=(k:Int)+x by omega];exact R
 .refine Xq (c1:=.seq (Xa (Fq f193)) (Uo 1 (Xa (GY (Fq f193))))) (AU:=ZL (Xa (GY (Fq f193)))) (lo:=(ZL (Xa (GY (Fq f193)))).drop 1) (kn:=λK fr h=>B7 Ax (B8 Ax S L d) L Z (GY (GY (Fq f193))) K fr h) B (λ_ _ _=>by kernel_rfl) ?_ (TB (Dc B)) B B
  exact⟨_,_,_,_,_,_,B,B,e,F,(λx k h=>by rw[a] at h;cases h),c1⟩
def aT:Ct:={am:=λ_=>False,holds:=λ_=>True,aH:=λ_ _ _=>trivial,lt:=λ_ _ h=>h.elim,bk:=λ_=>trivial}
def rcF (fn:BC):AH->Aa->Y->Option Y:=rcG Ax fn (GY (Fq fn)) 7
def Anv {cv:AH} {b:Y->Prop} (k:cv.length<=fn.ntmps) (o:7<fn.ntmps) (c:J2 Ax Ajs 1 fn.ntmps (GY (Fq fn)) (kp (λ_ h=>b h) (λ_ _ _=>False) (λ_ _=>False)) ((7,v)::PJ cv 0) h):∃J,rcF fn cv v h=I J/\b J:=by
 have l:GA cv fn.ntmps=I ⟨T.laid cv 0 .nil,fn.ntmps,[]⟩:=by
  unfold GA;rw[show Ar cv.length fn.ntmps=Ag from Aq k];rfl
 have r:Gx ((7,v)::PJ cv 0) ⟨(T.laid cv 0 .nil).ins 7 v,fn.ntmps,[]⟩:=λi u a=>by
  rw[GC] at a;rw[T.dA];by_cases U:7=i
  .rw[Bi U] at a;rw[Bi U.symm];exact a
  .rw[Bm U] at a;rw[Bm λe=>U e.symm];exact TB k i u a
 obtain⟨f,J,e,d,j⟩:=La (ro:=Z) (P:=λg=>∃f J,g ()=I [.aE f J]/\f.ds=[]/\b J) W0 R3 1 fn.ntmps (GY (Fq fn)) _ (λ_=>{n:=λfr h=>I [.aE fr h],x:=λ_ _ _=>Z,r:=λ_ _=>Z,p:=λ_ _ _=>Z}) _ () _ h c r B B ⟨λfr h _ _ _ m _ j=>⟨fr,h,B,m,j⟩,λ_ _ _ _ _ _ _ _ c=>c.elim,λ_ _ _ _ _ _ _ c=>c.elim,λ_ _ _ _ _ _ _ _ c=>c.elim⟩;refine⟨J,?_,j⟩;unfold rcF rcG;simp[l,(e:B7 Ax Ajs 1 Z _ _ _ h=_)];rw[d];rfl
def Axn {x y w:Aa} (s:Sep h0 H [aO c 4 [w],aO b 3 [y],aO a 213 [x]]):∃J,rcF f257 [AG a 0,AG b 0,AG c 0] (.iface 370 (.agg ⟨[]⟩)) H=I J/\Sep h0 J [aO c 4 [.bool Ah],aO b 3 [Vi 0],aO a 213 [.int .u64 0]]:=by
 obtain⟨n,d,o,e,f⟩:=s.var (t:=370) (z:=.agg ⟨[]⟩) Kq (v:=.agg ⟨[]⟩) B B B;obtain⟨p,g,h⟩:=(f.drop 1).st (t:=213) B (i:=2) B (by show 0<1;decide) (v:=.int .u64 0) B;obtain⟨q,j,k⟩:=h.st (t:=3) B (i:=1) B (by show 0<1;decide) (v:=Vi 0) B;obtain⟨r,l,m⟩:=k.st (t:=4) B (i:=0) B (by show 0<1;decide) (v:=.bool Ah) B;exact Anv (Dc B) Jq ⟨_,B,_,_,B,_,_,d _,_,e,_,g,_,j,_,l,m⟩
def Ayo {x y w:Aa} (s:Sep h0 H [aO c 4 [w],aO b 3 [y],aO a 9 [x]]):∃J,rcF f258 [AG a 0,AG b 0,AG c 0] (.iface 370 (.agg ⟨[]⟩)) H=I J/\Sep h0 J [aO c 4 [.bool Ah],aO b 3 [Vi 0],aO a 9 [Sg ⟨#[]⟩]]:=by
 obtain⟨n,d,o,e,f⟩:=s.var (t:=370) (z:=.agg ⟨[]⟩) Kq (v:=.agg ⟨[]⟩) B B B;obtain⟨p,g,h⟩:=(f.drop 1).st (t:=9) B (i:=2) B (by show 0<1;decide) (v:=.string ⟨#[]⟩) B;obtain⟨q,j,k⟩:=h.st (t:=3) B (i:=1) B (by show 0<1;decide) (v:=Vi 0) B;obtain⟨r,l,m⟩:=k.st (t:=4) B (i:=0) B (by show 0<1;decide) (v:=.bool Ah) B;exact Anv (Dc B) Jq ⟨_,B,_,_,B,_,_,d _,_,e,_,g,_,j,_,l,m⟩
def Ang (ae:Base S L) {f fi gf:Nat} {gn:BC} {z:Aa}
 (hF:(f=190/\fn=f190/\gf=257/\gn=f257/\t=213/\z=.int .u64 0)\/(f=192/\fn=f192/\gf=258/\gn=f258/\t=9/\z=.string ⟨#[]⟩))
 (af:S.dv gf=I (λ_ h=>I h)) (ag:S.rc gf=I (rcF gn)) (rd:Rd h v 1 n xs) {i:Int} {R:Aa->Int->Prop} {N:Prop}
 (ah:∀(j:Nat) {H:Y} {r:Nat},i=j->AA h H->Own H r 372 [v,Vi j]->¬BY v r->Adi S L 2 fi [AG r 0] H (λw J=>∃k:Int,one w=Ag/\R w k/\Own J r 372 [v,Vi k]/\B0 (·=r) H J) (λw J=>Aka w/\N/\B0 (·=r) H J)):
 Bk S L 4 f [v,Vi i,.func (.func fi) #[] #[]] h λw J=>AA h J/\((0<=i/\∃(u:Aa) (k:Int),R u k/\w=.tuple #[u,Vi k,.bool Ag])\/((i<0\/N)/\w=.tuple #[z,Vi 0,.bool Ah])):=by
 have hb:∀{H:Y},AA h H->¬BY v H.nx:=λx hh=>by have:=rd.aw _ hh;have:=x.nx;omega
 obtain⟨E,F,hv⟩:∃A c,v=.slice A n c:=by obtain⟨_,A,c,e,_⟩:=rd;exact⟨A,c,e⟩
 subst hv;have ai:∀{H:Y} {l:List Ct} {j:Nat},Sep h H l->∃g,K7 Ax 372 (.agg #[.slice E n F,Vi j]) H=I (AG H.nx 0,g)/\Sep h g (aO H.nx 372 [.slice E n F,Vi j]::l):=λ{H l j} s=>s.box Ax 372 (.agg #[.slice E n F,Vi j]);rcases hF with⟨rfl,rfl,rfl,rfl,rfl,rfl⟩|⟨rfl,rfl,rfl,rfl,rfl,rfl⟩
 .refine VC (fn:=f190) ae Kq B B B af ag (λA cv H=>∃a b c,A=[(0,.slice E n F),(1,Vi i),(2,.func (.func fi) #[] #[]),(6,AG a 0),(7,AG b 0),(8,AG c 0)]/\cv=[AG a 0,AG b 0,AG c 0]/\Sep h H [aO c 4 [.bool Ah],aO b 3 [Vi 0],aO a 213 [.int .u64 0]]) (Dc B) ?_ ?_ ?_
  .intro d hd
   obtain⟨g1,T,V⟩:=(Sep.nil h).al (z:=.int .u64 0) Kq;obtain⟨g2,W,X⟩:=V.al (z:=Vi 0) Kq;obtain⟨g3,y3,M⟩:=X.al (z:=.bool Ah) Kq;exact⟨_,_,T _,_,_,W _,_,_,y3 _,_,_,Sq,_,_,_,B,B,M⟩
  .rintro A cv H ⟨a,b,c,rfl,rfl,s⟩;rfl
  .rintro d hd A cv H ⟨a,b,c,rfl,rfl,s⟩ fr ds r hs aa
   have O:∀{o:Y} {x y w:Aa},Sep h o [aO c 4 [w],aO b 3 [y],aO a 213 [x]]->Bw Ax 213 o a 0=I x/\Bw Ax 3 o b 0=I y/\Bw Ax 4 o c 0=I w:=λs=>⟨ld B ((s.dD (i:=2) B).cell B),ld B ((s.dD (i:=1) B).cell B),ld B ((s.dD (i:=0) B).cell B)⟩;rcases Int.lt_or_le i 0 with U|U
   .refine QA ?_ r hs aa
    obtain⟨h1,T,V⟩:=s.st (t:=213) B (i:=2) B (j:=0) Jq (v:=.int .u64 0) B;obtain⟨h2,W,X⟩:=V.st (t:=3) B (i:=1) B (j:=0) Jq (v:=Vi 0) B;obtain⟨h3,y3,M⟩:=X.st (t:=4) B (i:=0) B (j:=0) Jq (v:=.bool Ah) B;obtain⟨p,q,C⟩:=O M;exact Bz (λ_=>⟨_,(O s).1,_,T,_,W,_,y3,_,p,_,q,_,C,M.e,.inr ⟨.inl U,B⟩⟩) Jq
   obtain⟨j,rfl⟩:=B9 U;obtain⟨g,yg,P⟩:=ai (j:=j) s;rcases ah j B P.e (P.dD (i:=0) B) (hb s.e) d G with⟨w,h5,⟨k,ow,hR,o5,c5⟩,e⟩|⟨w,h5,⟨rfl,hN,c5⟩,e⟩
   .refine QA ?_ r hs aa
    have s5:=P.ah (i:=0) (a':=aO H.nx 372 [.slice E n F,Vi k]) B c5 o5 λx D=>.inl D;obtain⟨Q,y6,m⟩:=s5.st (t:=213) B (i:=3) B (j:=0) Jq (v:=w) ow;have lk:∀{o:Y} {l':List Ct},Sep h o (aO H.nx 372 [.slice E n F,Vi k]::l')->Cell o H.nx 1 (Vi k):=λs=>(s.dD (i:=0) B).cell (i:=1) B;have lw:=(m.dD (i:=3) B).cell (i:=0) B;have ab:=lk m;obtain⟨h7,y7,o7,u7⟩:=Own.st (h:=Q.ad) (τ:=Ax) (t:=213) B (show Own Q.ad a 213 [w] from m.dD (i:=3) B) (i:=0) (by show 0<1;decide) (v:=w) ow;have ne:H.nx≠a:=λe=>m.2.2 0 3 _ _ (by decide) B B H.nx B (by show H.nx=a;exact e);have ad:h7.lo.hasB H.nx=false:=u7.ae.hasB (b0:=a) (λ_ h=>h) ab.1 ne;have s7:=m.aZ (i:=3) (a':=aO a 213 [w]) B u7.ae o7 λx D=>.inl D;obtain⟨h8,y8,s8⟩:=s7.stM (t:=3) B (i:=2) B (j:=0) (by show 0<1;decide) (v:=Vi k) B;obtain⟨h9,y9,s9⟩:=s8.stM (t:=4) B (i:=1) B (j:=0) (by show 0<1;decide) (v:=.bool Ag) B;refine⟨_,_,yg,λw' J=>w'=w/\J=h5,⟨_,_,⟨B,B⟩,e⟩,?_⟩;rintro _ h5 ⟨rfl,rfl⟩;obtain⟨p,q,C⟩:=O (s9.drop 1);exact⟨_,y6,[.x 5 4],Kq,_,ld B lw,_,ld B ab,_,y7,ad,_,y8,_,y9,_,p,_,q,_,C,s9.e,.inl ⟨G,_,_,hR,B⟩⟩
   .have s5:=(P.ah (i:=0) (a':=aT) B c5 trivial λx D=>D.elim).drop 1
    obtain⟨Q,y6,m⟩:=Axn s5;obtain⟨p,q,C⟩:=O m;refine Xq (c1:=.seq (Xa (GY (GY (Fq f190)))) (.seq (Xa (GY (GY (GY (Fq f190))))) (Uo 2 (Xa (GY (GY (GY (GY (Fq f190))))))))) (AU:=ZL (Xa (GY (GY (GY (GY (Fq f190))))))) (lo:=(ZL (Xa (GY (GY (GY (GY (Fq f190))))))).drop 2) (kn:=λK fr h=>B7 Ax (B8 Ax S L d) L Z (GY (GY (GY (GY (GY (Fq f190)))))) K fr h) B (λ_ _ _=>by kernel_rfl) ?_ r hs aa;exact⟨_,_,yg,_,_,_,_,_,_,B,B,e,_,y6,_,p,_,q,_,C,m.e,.inr ⟨.inr hN,B⟩⟩
 .refine VC (fn:=f192) ae Kq B B B af ag (λA cv H=>∃a b c,A=[(0,.slice E n F),(1,Vi i),(2,.func (.func fi) #[] #[]),(6,AG a 0),(7,AG b 0),(8,AG c 0)]/\cv=[AG a 0,AG b 0,AG c 0]/\Sep h H [aO c 4 [.bool Ah],aO b 3 [Vi 0],aO a 9 [Sg ⟨#[]⟩]]) (Dc B) ?_ ?_ ?_
  .intro d hd
   obtain⟨g1,T,V⟩:=(Sep.nil h).al (t:=9) (z:=.string ⟨#[]⟩) Kq;obtain⟨g2,W,X⟩:=V.al (t:=3) (z:=Vi 0) Kq;obtain⟨g3,y3,M⟩:=X.al (t:=4) (z:=.bool Ah) Kq;exact⟨_,_,T _,_,_,W _,_,_,y3 _,_,_,Sq,_,_,_,B,B,M⟩
  .rintro A cv H ⟨a,b,c,rfl,rfl,s⟩;rfl
  .rintro d hd A cv H ⟨a,b,c,rfl,rfl,s⟩ fr ds r hs aa
   have O:∀{o:Y} {x y w:Aa},Sep h o [aO c 4 [w],aO b 3 [y],aO a 9 [x]]->Bw Ax 9 o a 0=I x/\Bw Ax 3 o b 0=I y/\Bw Ax 4 o c 0=I w:=λs=>⟨ld B ((s.dD (i:=2) B).cell (i:=0) B),ld B ((s.dD (i:=1) B).cell (i:=0) B),ld B ((s.dD (i:=0) B).cell (i:=0) B)⟩;rcases Int.lt_or_le i 0 with U|U
   .refine QA ?_ r hs aa
    obtain⟨h1,T,V⟩:=s.st (t:=9) B (i:=2) B (j:=0) (by show 0<1;decide) (v:=.string ⟨#[]⟩) B;obtain⟨h2,W,X⟩:=V.st (t:=3) B (i:=1) B (j:=0) (by show 0<1;decide) (v:=Vi 0) B;obtain⟨h3,y3,M⟩:=X.st (t:=4) B (i:=0) B (j:=0) (by show 0<1;decide) (v:=.bool Ah) B;obtain⟨p,q,C⟩:=O M;exact Bz (λ_=>⟨_,(O s).1,_,T,_,W,_,y3,_,p,_,q,_,C,M.e,.inr ⟨.inl U,B⟩⟩) (λe=>Cf U e)
   obtain⟨j,rfl⟩:=B9 U;obtain⟨g,yg,P⟩:=ai (j:=j) s;rcases ah j B P.e (P.dD (i:=0) B) (hb s.e) d G with⟨w,h5,⟨k,ow,hR,o5,c5⟩,e⟩|⟨w,h5,⟨rfl,hN,c5⟩,e⟩
   .refine QA ?_ r hs aa
    have s5:=P.ah (i:=0) (a':=aO H.nx 372 [.slice E n F,Vi k]) B c5 o5 λx D=>.inl D;obtain⟨Q,y6,m⟩:=s5.st (t:=9) B (i:=3) B (j:=0) (by show 0<1;decide) (v:=w) ow;have lw:Cell Q a 0 w:=(m.dD (i:=3) B).cell (i:=0) B;have ab:Cell Q H.nx 1 (Vi k):=(λs=>(s.dD (i:=0) B).cell (i:=1) B:∀{o:Y} {l':List Ct},Sep h o (aO H.nx 372 [.slice E n F,Vi k]::l')->Cell o H.nx 1 (Vi k)) m;obtain⟨h7,y7,o7,u7⟩:=Own.st (h:=Q.ad) (τ:=Ax) (t:=9) B (show Own Q.ad a 9 [w] from m.dD (i:=3) B) (i:=0) (by show 0<1;decide) (v:=w) ow;have ad:h7.lo.hasB H.nx=false:=u7.ae.hasB (b0:=a) (λ_ h=>h) ab.1 (λe=>m.2.2 0 3 _ _ (by decide) B B H.nx B (by show H.nx=a;exact e):H.nx≠a);have s7:=m.aZ (i:=3) (a':=aO a 9 [w]) B u7.ae o7 λx D=>.inl D;obtain⟨h8,y8,s8⟩:=s7.stM (t:=3) B (i:=2) B (j:=0) (by show 0<1;decide) (v:=Vi k) B;obtain⟨h9,y9,s9⟩:=s8.stM (t:=4) B (i:=1) B (j:=0) (by show 0<1;decide) (v:=.bool Ag) B;refine⟨_,_,yg,λw' J=>w'=w/\J=h5,⟨_,_,⟨B,B⟩,e⟩,?_⟩;rintro _ h5 ⟨rfl,rfl⟩;obtain⟨p,q,C⟩:=O (s9.drop 1);exact⟨_,y6,[.x 5 4],Kq,_,ld B lw,_,ld B ab,_,y7,ad,_,y8,_,y9,_,p,_,q,_,C,s9.e,.inl ⟨G,_,_,hR,B⟩⟩
   .have s5:=(P.ah (i:=0) (a':=aT) B c5 trivial λx D=>D.elim).drop 1
    obtain⟨Q,y6,m⟩:=Ayo s5;obtain⟨p,q,C⟩:=O m;refine Xq (c1:=.seq (Xa (GY (GY (Fq f192)))) (.seq (Xa (GY (GY (GY (Fq f192))))) (Uo 2 (Xa (GY (GY (GY (GY (Fq f192))))))))) (AU:=ZL (Xa (GY (GY (GY (GY (Fq f192))))))) (lo:=(ZL (Xa (GY (GY (GY (GY (Fq f192))))))).drop 2) (kn:=λK fr h=>B7 Ax (B8 Ax S L d) L Z (GY (GY (GY (GY (GY (Fq f192)))))) K fr h) B (λ_ _ _=>by kernel_rfl) ?_ r hs aa;exact⟨_,_,yg,_,_,_,_,_,_,B,B,e,_,y6,_,p,_,q,_,C,m.e,.inr ⟨.inr hN,B⟩⟩
structure Apl (S:A9):Prop where
 d7:S.dv 257=I (λ_ h=>I h)
 d8:S.dv 258=I (λ_ h=>I h)
 r7:S.rc 257=I (rcF f257)
 r8:S.rc 258=I (rcF f258)
def Zg (p:S.ov f=Z/\S.nd f=Z/\S.hk f=Z) (a:Ax.fn.get f=I fn)
 (H:∀n,d<=n->YR Ax (B8 Ax S L n) L fn args h Q):Bk S L (d+1) f args h Q:=by
 intro n b;obtain⟨m,rfl⟩:∃m,n=m+1:=⟨n-1,G⟩;exact Aom a p.2.2 p.1 p.2.1 (H m G)
def Xf (bs:Bl) (i:Int):Option (Int×Nat):=if 0<=i then PV (bs.drop i.toNat) 0 0 i.toNat else Z
def QE (bs:Bl) (i:Int):Value:=match Xf bs i with
 |some (w,j)=>.tuple #[.int .u64 w,.int .i64 (j:Int),.bool Ag]
 |none=>.tuple #[.int .u64 0,.int .i64 0,.bool Ah]
def Sr (bs:Bl) (i:Int):Value:=match Xf bs i with
 |some (w,j)=>if w<=(bs.length:Int)-j then .tuple #[.string ⟨⟨(bs.drop j).take w.toNat⟩⟩,.int .i64 ((j:Int)+w),.bool Ag] else .tuple #[.string ⟨#[]⟩,.int .i64 0,.bool Ah]
 |none=>.tuple #[.string ⟨#[]⟩,.int .i64 0,.bool Ah]
def Azh (b:Base S L) (R:Apl S) (p:S.ov 113=Z/\S.nd 113=Z/\S.hk 113=Z) (r:Rd h v 1 n (Ay bs)) (g:n<=4611686018427387904) {i:Int}:
 Bk S L 5 113 [v,Vi i] h λw J=>AA h J/\w=QE bs i:=
 Zg (fn:=f113) p Kq λd t=>by
  refine⟨Dc B,_,Ang b (.inl ⟨B,B,B,B,B,B⟩) R.d7 R.r7 r (R:=λw k=>∃(x:Int) (j:Nat),w=.int .u64 x/\k=j/\PV (bs.drop i.toNat) 0 0 i.toNat=I (x,j)) (N:=PV (bs.drop i.toNat) 0 0 i.toNat=Z) ?_ d G,?_⟩
  .intro j H z l x o hb m A
   subst l;rcases Auv b o (r.ext x) hb g m G with⟨w,J,⟨y,k,rfl,a,q,c1⟩,e⟩|⟨w,J,⟨c,a,c1⟩,e⟩
   .exact .inl ⟨_,_,⟨(k:Int),B,⟨y,k,B,B,a⟩,q,c1⟩,e⟩
   .exact .inr Jq
  rintro w h1 ⟨f,c⟩;rcases c with⟨h0,u,k,⟨x,j,rfl,rfl,a⟩,rfl⟩|⟨s,rfl⟩
  .exact⟨f,by unfold QE Xf;rw[Bi h0,a];rfl⟩
  .refine⟨f,?_⟩
   unfold QE Xf;by_cases h0:0<=i
   .rw[Bi h0,s.resolve_left G];rfl
   .rw[Bm h0];rfl
def Axc (c:Base S L) (R:Apl S) (p:S.ov 114=Z/\S.nd 114=Z/\S.hk 114=Z) (r:Rd h v 1 n (Ay bs)) (q:n<=4611686018427387904) {i:Int}:
 Bk S L 5 114 [v,Vi i] h λw J=>AA h J/\w=Sr bs i:=
 Zg (fn:=f114) p Kq λd A=>by
  have f:bs.length=n:=by have:=r.1;rw[A7] at this;omega
  refine⟨Dc B,_,Ang c (.inr ⟨B,B,B,B,B,B⟩) R.d8 R.r8 r (R:=λw k=>∃(x:Int) (j:Nat),w=.string ⟨⟨(bs.drop j).take x.toNat⟩⟩/\k=(j:Int)+x/\PV (bs.drop i.toNat) 0 0 i.toNat=I (x,j)/\x<=(n:Int)-j)
   (N:=∀x k,PV (bs.drop i.toNat) 0 0 i.toNat=I (x,k)->¬x<=(n:Int)-k) ?_ d G,?_⟩
  .intro j H C s x o hb m D
   subst s;rcases Azo c o (r.ext x) hb q m G with⟨w,J,⟨y,k,rfl,a,b,t,c1⟩,e⟩|⟨w,J,⟨g,a,c1⟩,e⟩
   .have E:=(JF _ _ _ _ _ _ a).1.1
    exact .inl ⟨_,_,⟨((k+y.toNat:Nat):Int),B,⟨y,k,B,G,a,b⟩,t,c1⟩,e⟩
   .exact .inr Jq
  rintro w h1 ⟨l,g⟩;rcases g with⟨h0,u,k,⟨x,j,rfl,rfl,a,b⟩,rfl⟩|⟨z,rfl⟩
  .exact⟨l,by unfold Sr Xf;rw[Bi h0,a];exact(Bi (by rw[f];exact b)).symm⟩
  .refine⟨l,?_⟩
   unfold Sr Xf;by_cases h0:0<=i
   .rw[Bi h0]
    cases a:PV (bs.drop i.toNat) 0 0 i.toNat with
    |none=>rfl
    |
     some p=>
     obtain⟨x,j⟩:=p;exact(Bm (by rw[f];exact(z.resolve_left G) x j a)).symm
   .rw[Bm h0];rfl
def Air {a:Be} (e:QB a args h=I (v,J)):J=h/\∃(u:Aa) (i:Int) (bs:Bl),args=[u,Vi i]/\IK h u=I bs/\v=QE bs i:=by
 unfold QB at e;split at e
 case h_2=>cases e
 rename_i u i;split at e
 case h_2=>cases e
 rename_i bs hb;refine⟨?_,u,i,bs,B,hb,?_⟩
 .split at e<;>cases e<;>rfl
 .unfold QE Xf
  split at e<;>rename_i b<;>rw[b]<;>cases e<;>rfl
def Agz {b:Be} (e:Ph b args h=I (v,J)):J=h/\∃(u:Aa) (i:Int) (bs:Bl),args=[u,Vi i]/\IK h u=I bs/\v=Sr bs i:=by
 unfold Ph at e;split at e
 case h_2=>cases e
 rename_i u i;split at e
 case h_2=>cases e
 rename_i bs hb;have k:∀{o:Option (Int×Nat)},(match o with
  |some (w,j)=>if w<=(bs.length:Int)-j then I (C4 #[.string ⟨⟨(bs.drop j).take w.toNat⟩⟩,Vi ((j:Int)+w),.bool Ag],h) else I (.tuple #[.string ⟨#[]⟩,Vi 0,.bool Ah],h)
  |none=>I (.tuple #[.string ⟨#[]⟩,Vi 0,.bool Ah],h))=I (v,J)->J=h/\v=(match o with
  |some (w,j)=>if w<=(bs.length:Int)-j then .tuple #[.string ⟨⟨(bs.drop j).take w.toNat⟩⟩,Vi ((j:Int)+w),.bool Ag] else .tuple #[.string ⟨#[]⟩,Vi 0,.bool Ah]
  |none=>.tuple #[.string ⟨#[]⟩,Vi 0,.bool Ah]):=by
  rintro(_|⟨w,j⟩) e
  .cases e;exact⟨B,B⟩
  .simp only at e⊢
   by_cases a:w<=(bs.length:Int)-j
   .rw[Bi a] at e;rw[Bi a];cases e;exact⟨B,B⟩
   .rw[Bm a] at e;rw[Bm a];cases e;exact⟨B,B⟩
 obtain⟨c,d⟩:=k e;exact⟨c,u,i,bs,B,hb,d⟩
def Yo (bs:Bl) (i:Int):DG (QE bs i)=true:=by
 unfold QE;split<;>rfl
def Yp (bs:Bl) (i:Int):DG (Sr bs i)=true:=by
 unfold Sr;split
 .split<;>rfl
 .rfl
def Agf (g:C8 prog Ax (B8 Ax S L n)) (c:Bk S L d f args h.ad λw J=>AA h.ad J/\w=v) (i:d<=n) (j:DG v=Ag)
 {a:AH} {ρ:Ren} {w:AM} (l:C5 prog Ax ρ h w) (m:LR ρ args a) {k kp:Aa->Y->RR} {b:List EO} (p:k v h=I b):Hk prog (callFunc f ⟨a⟩) w (Ho prog Ax ρ w h k kp b):=by
 obtain⟨w,J,⟨x,rfl⟩,e⟩:=c n i;refine Z8 g (o:=[]) ?_ j l m p;rw[e];exact Bi ⟨B,x.ag⟩
def slL {l:Bl} {k:Nat} (h:k<=l.length):C7 Ax 9 (.string (EY l)) (I (.int .i64 (k:Int))) Z Z=I (.string (EY (l.drop k))):=by
 show(bif Ar k (EY l).size&&Ar (EY l).size (EY l).size then I (Value.string (EY ((l.drop k).take ((EY l).size-k)))) else Z)=_
 have e:(EY l).size=l.length:=rfl;rw[e,Aq h,Aq (Ae _),Bj (by rw[AV];exact Ae _)];rfl
def Xm (B:Base S L) {h:Y} {l:Bl} (b:8<=l.length):Bk S L 1 215 [.string (EY l)] h λw J=>AA h J/\∃z,w=.int .u64 z:=
 Cn f215 B λd a _=>by
  have c:(EY l).size=l.length:=rfl;have cv:∀i,inR .u64 ((l.getD i 0).toNat:Int):=λi=>⟨G,by have:=(λi=>UInt8.toNat_lt (l.getD i 0)) i;omega⟩;refine⟨[],Kq,⟨by decide,G⟩,_,.inl ⟨cv 0,rfl⟩,⟨by decide,G⟩,_,.inl ⟨cv 1,rfl⟩,by decide,?_⟩
  repeat' first
   |refine⟨⟨by decide,G⟩,_,.inl ⟨cv _,rfl⟩,by decide,?_⟩
   |exact⟨(AT (AA.refl h)),_,rfl⟩
def ACv (B:Base S L) (k0:∀m args h,(match S.ov 139 with|some g=>g m args h|none=>Z)=Z) (k1:S.nd 139=Z/\S.hk 139=Z) (U:Ce h) (hs:s.size<=100000000):Bk S L 2 139 [.string s] h λw J=>AA h J/\∃b,w=.bool b:=
 Zaa f139 B.aI (λ_=>k0 _ _ _) k1 λd hd'=>by
  have hL:=B.aI;refine⟨λμ A a=>∃l:Bl,A=[(0,.string (EY l))]/\μ=l.length/\l.length<=s.size/\AA h a,
   ⟨_,_,Sq,(show s.data.toList.length<L by have:s.data.toList.length=s.size:=rfl;omega),_,rfl,rfl,Ae _,AA.refl h⟩,?_⟩
  rintro μ A a ⟨l,rfl,rfl,hl,x⟩ hLt;have hz:(EY l).size=l.length:=rfl;refine Bz (λu=>?_) (λu=>⟨x,_,rfl⟩);have u:0<l.length:=Int.ofNat_lt.1 u;have c:∀{A:As} {H:Y} {q:Bl},q.length<l.length->Sub [(0,.string (EY q))] A->AA h H->∃V A0,Sub A0 A/\V<l.length/\∃l:Bl,A0=[(0,.string (EY l))]/\V=l.length/\l.length<=s.size/\AA h H:=λC D x=>⟨_,_,D,C,_,rfl,rfl,G,x⟩;refine⟨⟨by decide,G⟩,Bz (λe1=>?_) (λe1=>?_)⟩
  ·have d1:(l.drop 1).length=l.length-1:=AV ..;refine⟨_,_,congrArg (CN _) (slL (k:=1) u),?_⟩;generalize l.drop 1=r at d1⊢;refine Bz (λE=>?_) (λE=>c (q:=r) G (Sq) x);have E:8<r.length:=Int.ofNat_lt.1 E;refine⟨_,Xm (l:=r) B G d G,?_⟩;rintro _ h1 ⟨x1,z1,rfl⟩;have X1:=x.trans x1;refine Bz (λ_=>?_) (λ_=>c (q:=r) G (Sq) X1);have q8:(r.drop 8).length=r.length-8:=AV ..;refine⟨_,_,congrArg (CN _) (slL (l:=r) (k:=8) G),[],Kq,?_⟩;generalize r.drop 8=q at q8⊢;refine Bz (λf=>?_) (λf=>c (q:=q) G (Sq) (AT X1));have f:16<q.length:=Int.ofNat_lt.1 f;have j:=λk=>(AV (i:=k) (l:=q));refine⟨_,Xm B G d G,?_⟩;rintro _ h2 ⟨n,z2,rfl⟩;refine⟨n.ag,_,_,congrArg (CN _) (slL (k:=8) G),_,Xm B (by rw[j];omega) d G,?_⟩;rintro _ h3 ⟨o,z3,rfl⟩;have X3:=(X1.trans n.aa).trans o.aa;refine⟨o.ag,Bz (λF=>?_) (λF=>c (q:=q) G (Sq) (AT X3))⟩;have d16:=j 16;refine⟨_,_,congrArg (CN _) (slL (k:=16) G),λμ A a=>∃q:Bl,A=[(0,.string (EY q))]/\μ=q.length/\q.length<l.length/\AA h a,
    ⟨_,_,Sq,(by omega:(q.drop 16).length<L),_,rfl,rfl,G,AT X3⟩,?_⟩
   rintro μ A a ⟨q,rfl,rfl,C,x⟩ hLt2;refine⟨[],Kq,Bz (λf=>?_) (λf=>c C (Sq) (AT x))⟩;have f:32<q.length:=Int.ofNat_lt.1 f;have j:=λk=>(AV (i:=k) (l:=q));refine⟨_,Xm B G d G,?_⟩;rintro _ h2 ⟨n,z2,rfl⟩;refine⟨n.ag,_,_,congrArg (CN _) (slL (k:=8) G),_,Xm B (by rw[j];omega) d G,?_⟩;rintro _ h3 ⟨o,z3,rfl⟩;refine⟨o.ag,_,_,congrArg (CN _) (slL (k:=16) G),_,Xm (l:=q.drop 16) B (by rw[j];omega) d G,?_⟩;rintro _ h4 ⟨x4,z4,rfl⟩;refine⟨x4.ag,_,_,congrArg (CN _) (slL (l:=q) (k:=24) G),_,Xm (l:=q.drop 24) B (by rw[j];omega) d G,?_⟩;rintro _ h5 ⟨x5,z5,rfl⟩;have X:=(((x.trans n.aa).trans o.aa).trans x4.aa).trans x5.aa;have d32:=j 32;exact⟨x5.ag,Bz (λF=>⟨_,_,congrArg (CN _) (slL (l:=q) (k:=32) G),_,_,Sq,(by omega:(q.drop 32).length<q.length),_,rfl,rfl,G,AT X⟩) (λF=>c C (Sq) (AT X))⟩
  have K:=UInt8.toNat_lt (l.getD 0 0);have c0:=(Zdb (U.ext x)).1 (l.getD 0 0).toNat K;obtain⟨M,N⟩:=Tf K;generalize hy:Fk (l.getD 0 0).toNat=y at c0 M N;have q4:=Afn M;have cA:=(Zdb (U.ext x)).2 (y/16) G;generalize K6 (y/16)=p at cA;obtain⟨O,P⟩:=p;have k7:D8 .u8 (y:Int) 7=((y%8:Nat):Int):=Aev M;obtain⟨g,yg,g2,Q,R⟩:=(Sep.nil a).var (t:=336) (z:=.agg ⟨[.int .u8 0,.int .u8 0]⟩) Kq (v:=.agg ⟨[.int .u8 O,.int .u8 P]⟩) rfl rfl rfl;have l0:Cell g2 a.nx 0 (.int .u8 O):=(R.dD (i:=0) rfl).cell (i:=0) rfl;have l1:Cell g2 a.nx 1 (.int .u8 P):=(R.dD (i:=0) rfl).cell (i:=1) rfl;have X:=x.trans R.e;refine⟨⟨G,by show((l.getD 0 0).toNat:Int)<256;exact Int.ofNat_lt.2 K⟩,_,Dz (ld rfl c0) (by show 0+((l.getD 0 0).toNat:Int).toNat*1=_;omega),_,.inl ⟨Pq,rfl⟩,by decide,⟨G,by show DN .u8 (y:Int) 4<16;omega⟩,_,EQ (k:=2) Kq (show BK a 1 (0+(DN .u8 (y:Int) 4).toNat*2) [.int .u8 O,.int .u8 P] by rw[q4,Ba,UG];exact cA) rfl,_,_,yg _,_,Q,?_⟩
  repeat' first
   |exact⟨AT X,_,rfl⟩
   |exact⟨X,_,rfl⟩
   |exact⟨_,_,congrArg (CN _) (slL (l:=l) (k:=2) G),c (q:=l.drop 2) (by rw[AV];omega) (Sq) (AT X)⟩
   |exact⟨_,_,congrArg (CN _) (slL (l:=l) (k:=3) G),c (q:=l.drop 3) (by rw[AV];omega) (Sq) (AT X)⟩
   |exact⟨_,_,congrArg (CN _) (slL (l:=l) (k:=4) G),c (q:=l.drop 4) (by rw[AV];omega) (Sq) (AT X)⟩
   |refine⟨[],Kq,?_⟩
   |refine⟨_,ld rfl l0,?_⟩
   |refine⟨_,ld rfl l1,?_⟩
   |refine⟨⟨by decide,G⟩,?_⟩
   |refine Bz (λ_=>?_) (λ_=>?_)
def AAa {ys:Bo} (o:AS H N 3 1 (.slice A n c) n (Bn ys)) (U:i<n) (F:j<n):
 ∃(b x y:Nat) (h1 a:Y),A=I ⟨b,0,Z⟩/\Cell H b i (Vi x)/\Cell H b j (Vi y)/\BA Ax 3 H.ad b i (Vi y)=I h1/\BA Ax 3 (H.aa h1).ad b j (Vi x)=I a/\
  B0 (BY (.slice A n c)) H ((H.aa h1).aa a)/\∃l,l.Perm ys/\AS ((H.aa h1).aa a) N 3 1 (.slice A n c) n (Bn l):=by
 have p:n=ys.length:=by have:=o.len;rw[this];simp[Bn]
 have d:ys[i]?=I (ys[i]'G):=Ab G;have f:ys[j]?=I (ys[j]'G):=Ab G;generalize ys[i]'G=x at d;generalize ys[j]'G=y at f;obtain⟨K,⟨e,rfl⟩|⟨b,L,sp,e,q,r,s,g⟩⟩:=o
 .omega
 cases e;have M:(Bn ys).length=n:=by simp[Bn,p]
 obtain⟨h1,u,w,z⟩:=Own.st (τ:=Ax) (t:=3) B (show Own H.ad b 3 _ from g) (i:=i) (v:=Vi y) (by rw[Aj];omega) B;obtain⟨a,C,m,D⟩:=Own.st (τ:=Ax) (t:=3) B (show Own (H.aa h1).ad b 3 _ from w.aa (h:=H)) (i:=j) (v:=Vi x) (by rw[B4,Aj];omega) B;refine⟨b,x,y,h1,a,B,g.cell (by rw[AB G];exact (by unfold Bn;rw[AX,d];rfl:(Bn ys)[i]?=I (Vi x))),g.cell (by rw[AB G];exact (by unfold Bn;rw[AX,f];rfl:(Bn ys)[j]?=I (Vi y))),u,C,(z.aa.ae.trans D.aa.ae).mono λk E=>E,swp ys i j x y,NM d f,?_⟩;rw[Hj,Bi G,Hj,Bi (by rw[B4];omega)] at m;have es:Bn (swp ys i j x y)=((Bn ys).set i (Vi y)).set j (Vi x):=by unfold Bn swp;rw[Cp,Cp]
 refine⟨by rw[es,B4,B4];omega,.inr ⟨b,c,sp,B,q,r,?_,?_⟩⟩
 .rw[es,Aj,B4,B4,←s,Aj]
 .rw[es];exact m.aa
def JS (h:Y) (N n c:Nat) (A:Option BD) (xs:Bo) (H:Y):Prop:=B0 (BY (.slice A n c)) h H/\∃ys,ys.Perm xs/\AS H N 3 1 (.slice A n c) n (Bn ys)
def JS.refl {xs:Bo} (o:AS h N 3 1 (.slice A n c) n (Bn xs)):JS h N n c A xs h:=⟨(AA.refl h).ae _,xs,.refl _,o⟩
def JS.ext {a:Y} {xs:Bo} (s:JS h N n c A xs H) (x:AA H a):JS h N n c A xs a:=⟨s.1.trans (x.ae _),s.2.imp λ_ q=>⟨q.1,q.2.ext x⟩⟩
def JS.swp {xs:Bo} (s:JS h N n c A xs H) (U:i<n) (d:j<n):
 ∃(b x y:Nat) (h1 a:Y),A=I ⟨b,0,Z⟩/\Cell H b i (Vi x)/\Cell H b j (Vi y)/\BA Ax 3 H.ad b i (Vi y)=I h1/\BA Ax 3 (H.aa h1).ad b j (Vi x)=I a/\JS h N n c A xs ((H.aa h1).aa a):=by
 obtain⟨f,ys,p,o⟩:=s;obtain⟨b,x,y,h1,a,e,g,k,l,m,q,r,t,o'⟩:=AAa o U d;exact⟨b,x,y,h1,a,e,g,k,l,m,f.trans q,r,t.trans p,o'⟩
def JS.call {xs:Bo} (s:JS h N n c A xs H) {f:Nat} (e:∀ys,AS H N 3 1 (.slice A n c) n (Bn ys)->ys.Perm xs->B0 (BY (.slice A n c)) h H->Bk S L d f args H λ_ J=>JS H N n c A ys J):
 Bk S L d f args H λ_ J=>JS h N n c A xs J:=by
 obtain⟨a,ys,p,o⟩:=s;exact(e ys o p a).mono λ_ g b=>⟨a.trans b.1,b.2.imp λ_ q=>⟨q.1.trans p,q.2⟩⟩
def JS.get {xs:Bo} (s:JS h N n c A xs H) (U:i<n):∃b x:Nat,A=I ⟨b,0,Z⟩/\Cell H b i (Vi x)/\x∈xs:=by
 obtain⟨_,ys,p,o⟩:=s;have a:n=ys.length:=by have:=o.len;rw[this];simp[Bn]
 obtain⟨b,d,e,_,q⟩:=o.cell (i:=i) (u:=Vi (ys[i]'G:Nat)) (by unfold Bn;rw[AX,Ab G];rfl);cases e;exact⟨b,_,B,q,p.subset (Bu _)⟩
def Aqq (f:Base S L) {g m p:Int} {xs:Bo} (o:AS h N 3 1 (.slice A n c) n (Bn xs)) (D:n<=1000000) (E:a+k<=n) (hb:b+k<=n) (K:g=a) (M:m=b) (O:p=k):
 Bk S L 1 346 [.slice A n c,Vi g,Vi m,Vi p,fv] h λ_ J=>JS h N n c A xs J:=
 Fm (fn:=f346) f Kq B λd P=>by
  have Q:=f.aI;refine⟨Dc B,λq F H=>∃i:Nat,F=[(0,.slice A n c),(1,Vi a),(2,Vi b),(3,Vi k),(10,Vi i)]/\i<=k/\q=k-i/\JS h N n c A xs H,
   ⟨_,_,Sq,G,0,B,Al _,B,.refl o⟩,?_⟩
  rintro q F H ⟨i,rfl,U,rfl,s⟩ R;refine Bz (λr=>?_) (λr=>s);obtain⟨b0,x,y,h1,T,e,t,u,v,w,C⟩:=s.swp (i:=a+i) (j:=b+i) G G;cases e;refine⟨[],Kq,Pq,Pq,Pq,G,_,Dz (ld B u) (by show 0+((b:Int)+i).toNat*1=_;omega),Pq,G,_,Dz (ld B t) (by show 0+((a:Int)+i).toNat*1=_;omega),G,_,Jp v (by show 0+((a:Int)+i).toNat*1=_;omega),G,_,Jp w (by show 0+((b:Int)+i).toNat*1=_;omega),?_⟩;exact⟨Pq,_,_,CG (l:=[(0,_),(1,_),(2,_),(3,_),(10,Vi ((i+1:Nat):Int))]) ⟨B,B,B,B,Cs (λz=>I (Vi z)) (by omega),trivial⟩,(show k-(i+1)<k-i by omega),i+1,B,G,B,C⟩
def AEd (e:Base S L) {l p q:Int} {xs:Bo} (o:AS h N 3 1 (.slice A n c) n (Bn xs)) (k:n<=1000000) (h1:a<m) (v:m<b) (w:b<=n) (x:l=a) (em:p=m) (y:q=b):
 Bk S L 2 314 [.slice A n c,Vi l,Vi p,Vi q,fv] h λ_ J=>JS h N n c A xs J:=
 Fm (fn:=f314) e Kq B λd z=>by
  have C:=e.aI;refine⟨Dc B,Pq,Pq,λr F H=>∃i j:Nat,F=[(0,.slice A n c),(2,Vi m),(4,fv),(10,Vi i),(11,Vi j)]/\(0<i/\i<=m)/\(0<j/\m+j<=n)/\r=i+j/\JS h N n c A xs H,
   ⟨_,_,Sq,(by omega:(m-a)+(b-m)<L),_,_,B,G,G,B,.refl o⟩,?_⟩
  rintro r F H ⟨i,j,rfl,U,D,rfl,s⟩ E;refine Ad (λf=>?_) (λf=>?_)
  .have f:¬(i:Int)=j:=by simpa using f
   refine Bz (λu=>?_) (λu=>?_)
   .refine⟨Pq,_,s.call (λys o' _ _=>Aqq (a:=m-i) e o' k G G G B B) d G,?_⟩
    rintro _ t g;exact⟨Pq,_,_,Sq,(by omega:(i-j)+j<i+j),_,_,B,G,G,B,g⟩
   .refine⟨Pq,Pq,Pq,_,s.call (λys o' _ _=>Aqq (a:=m-i) (b:=m+j-i) e o' k G G G G B) d G,?_⟩
    rintro _ t g;exact⟨Pq,_,_,Sq,(by omega:i+(j-i)<i+j),_,_,B,G,G,B,g⟩
  .have f:(i:Int)=j:=by simpa using f
   refine⟨Pq,_,s.call (λys o' _ _=>Aqq (a:=m-i) e o' k G G G B B) d G,?_⟩;rintro _ t g;exact g
def U0 (S:A9) (L d g:Nat) (first cap:Array Aa) (h:Y) (W:Nat->Prop) (xs:Bo):Prop:=∀x∈xs,∀y∈xs,∀J,B0 W h J->Bk S L d g (first.toList++[.int .i64 x,.int .i64 y]++cap.toList) J λv a=>AA J a/\U6 v
def U0.on {g:Nat} {first cap:Array Aa} {xs ys:Bo} (q:U0 S L d g first cap h W xs) (p:ys.Perm xs) (c:B0 W h H):U0 S L d g first cap H W ys:=λx a y b J e=>q x (p.subset a) y (p.subset b) J (c.trans e)
def Aun (t:Base S L) {g:Nat} {u v:Int} {xs:Bo} {first cap:Array Aa} (o:AS h N 3 1 (.slice A n c) n (Bn xs)) (hn:n<=1000000) (ha:a<=n) (hb:b<=n) (M:U0 S L e g first cap h (BY (.slice A n c)) xs) (ea:u=a) (eb:v=b):
 Bk S L (e+1) 249 [.slice A n c,Vi u,Vi v,.func (.func g) first cap] h λ_ J=>JS h N n c A xs J:=
 Fm (fn:=f249) t Kq B λd aa=>by
  have hL:=t.aI;refine⟨Dc B,Pq,λk F H=>∃i:Nat,F=[(0,.slice A n c),(1,Vi a),(2,Vi b),(3,.func (.func g) first cap),(8,Vi i)]/\a<i/\k=b-i/\JS h N n c A xs H,
   ⟨_,_,Sq,(by omega:b-(a+1)<L),_,B,HL a,B,.refl o⟩,?_⟩
  rintro k F H ⟨i,rfl,U,rfl,s⟩ ab;refine Bz (λO=>?_) (λO=>s);refine⟨λk F H=>∃j:Nat,F=[(0,.slice A n c),(1,Vi a),(2,Vi b),(3,.func (.func g) first cap),(8,Vi i),(9,Vi j)]/\(a<=j/\j<=i)/\k=j+1/\JS h N n c A xs H,
   ⟨_,_,Sq,(by omega:i+1<L),_,B,⟨G,Ae _⟩,B,s⟩,?_⟩
  rintro k F H ⟨j,rfl,hj,rfl,s⟩ ad;have w:∀{f:As} {C:Y},JS h N n c A xs C->look f 0=I (.slice A n c)->look f 1=I (Vi a)->look f 2=I (Vi b)->look f 3=I (.func (.func g) first cap)->look f 8=I (Vi ((i:Int)+1))->
   ∃m' D,Sub D f/\m'<b-i/\∃i:Nat,D=[(0,.slice A n c),(1,Vi a),(2,Vi b),(3,.func (.func g) first cap),(8,Vi i)]/\a<i/\m'=b-i/\JS h N n c A xs C:=λm P Q R T k8=>
   ⟨_,_,CG (l:=[(0,_),(1,_),(2,_),(3,_),(8,Vi ((i+1:Nat):Int))]) ⟨P,Q,R,T,k8,trivial⟩,(by omega:b-(i+1)<b-i),i+1,B,G,B,m⟩
  refine⟨[],Kq,Bz (λV=>?_) (λV=>⟨Pq,w (s.ext (AT (AA.refl H))) B B B B B⟩)⟩;obtain⟨b0,x,p,q,W⟩:=s.get (i:=j) G;cases p;obtain⟨_,y,X,r,hy⟩:=s.get (i:=j-1) G;cases X;refine⟨G,_,Dz (ld B q) (by show 0+(j:Int).toNat*1=_;omega),Pq,G,_,Dz (ld B r) (by show 0+((j:Int)-1).toNat*1=_;omega),_,M x W y hy _ (s.1.trans ((AA.ad H).ae _)) d G,?_⟩;rintro _ h3 ⟨E,z,rfl⟩;have K:=s.ext E.aa;refine⟨E.ag,Bz (λe3=>?_) (λe3=>⟨Pq,w K B B B B B⟩)⟩;obtain⟨_,x',y',h1,h2,p,q,r,u1,u2,m⟩:=K.swp (i:=j) (j:=j-1) G G;cases p;refine⟨[],Kq,Pq,Pq,G,_,Dz (ld B r) (by show 0+((j:Int)-1).toNat*1=_;omega),G,_,Dz (ld B q) (by show 0+(j:Int).toNat*1=_;omega),G,_,Jp u1 (by show 0+(j:Int).toNat*1=_;omega),G,_,Jp u2 (by show 0+((j:Int)-1).toNat*1=_;omega),?_⟩;exact⟨Pq,_,_,Sq,(by omega:(j-1)+1<j+1),j-1,B,G,B,m⟩
def AAg (z:Int):DN .u64 z 1=z/2:=by
 exact Int.fdiv_eq_ediv_of_nonneg z (by decide)
def Ajm (i j:Nat):DN .u64 ((i:Int)+j) 1=(((i+j)/2:Nat):Int):=by rw[AAg];omega
def AEr (h:Y) (N n c a m b g:Nat) (A:Option BD) (first cap:Array Aa) (xs:Bo) (F:As) (H:Y):Prop:=∃d st r:Nat,F=[(0,.slice A n c),(1,.int .i64 a),(2,.int .i64 m),(3,.int .i64 b),(4,.func (.func g) first cap),(18,.int .i64 (d:Int)),(19,.int .i64 ((d+m:Nat):Int)),(20,.int .i64 st),(21,.int .i64 r)]/\d=(a+b)/2/\
 a<=st/\st<=r/\r<=m/\r<=d/\d+m<=b+st/\m<=d+m-r/\JS h N n c A xs H
def Aor (ab:Base S L) {g D:Nat} {xs:Bo} {first cap:Array Aa} (o:AS h N 3 1 (.slice A n c) n (Bn xs)) (hn:n<=1000000) (h1:a<m) (h2:m<b) (h3:b<=n) (Q:U0 S L e g first cap h (BY (.slice A n c)) xs) (he:e<=D) (ad:2<=D)
 (ih:∀{a' m' W:Nat} {za zm zb:Int} {h:Y} {xs:Bo},AS h N 3 1 (.slice A n c) n (Bn xs)->a'<m'->m'<W->W<=n->2*(W-a')<=b-a+1->U0 S L e g first cap h (BY (.slice A n c)) xs->za=a'->zm=m'->zb=W->Bk S L D 250 [.slice A n c,Vi za,Vi zm,Vi zb,.func (.func g) first cap] h λ_ J=>JS h N n c A xs J):
 Bk S L (D+1) 250 [.slice A n c,Vi a,Vi m,Vi b,.func (.func g) first cap] h λ_ J=>JS h N n c A xs J:=
 Nu (fn:=f250) ab Kq B 6 (AEr h N n c a m b g A first cap xs) λd ae=>by
  have hL:=ab.aI;have X:=JS.refl o;refine⟨Dc B,?_,?_⟩
  .refine⟨Pq,Bz (λe1=>?_) (λe1=>?_)⟩
   .have e1:m=a+1:=G
    refine⟨λf F H=>∃i j:Nat,F=[(0,.slice A n c),(1,Vi a),(4,.func (.func g) first cap),(10,Vi i),(11,Vi j)]/\(m<=i/\i<=j/\j<=b)/\f=j-i/\JS h N n c A xs H,
     ⟨_,_,Sq,(by omega:b-m<L),_,_,B,G,B,X⟩,?_⟩
    rintro f F H ⟨i,j,rfl,U,rfl,s⟩ aa;have q:=Ajm i j;obtain⟨k,hk⟩:∃k,k=(i+j)/2:=⟨_,B⟩;refine Bz (λC=>?_) (λC=>?_)
    .obtain⟨b0,x,u,v,R⟩:=s.get (i:=k) G
     cases u;obtain⟨_,y,T,w,V⟩:=s.get (i:=a) G;cases T;refine⟨Pq,_,.inl ⟨Pq,B⟩,by decide,_,.inl ⟨Pq,B⟩,[],Kq,G,_,Dz (ld B v) (by show 0+(DN .u64 ((i:Int)+j) 1).toNat*1=_;omega),G,_,Dz (ld B w) (by show 0+(a:Int).toNat*1=_;omega),_,Q x R y V _ (s.1.trans ((AA.ad H).ae _)) d G,?_⟩;rintro _ h3 ⟨E,z,rfl⟩;have K:=s.ext E.aa;refine⟨E.ag,Bz (λt=>?_) (λt=>?_)⟩
     .exact⟨Pq,_,_,Sq,(by omega:j-(k+1)<j-i),_,_,B,G,B,K⟩
     .exact⟨_,_,Sq,(by omega:k-i<j-i),_,_,B,G,B,K⟩
    refine⟨λf F H=>∃k:Nat,F=[(0,.slice A n c),(10,Vi i),(13,Vi k)]/\a<=k/\f=i-k/\JS h N n c A xs H,
     ⟨_,_,Sq,(by omega:i-a<L),_,B,Ae _,B,s⟩,?_⟩
    rintro f F H ⟨k,rfl,hk,rfl,s⟩ aa;refine⟨Pq,Bz (λt=>?_) (λt=>s)⟩;obtain⟨_,x',y',h1,h2,u,v,w,u1,u2,s'⟩:=s.swp (i:=k) (j:=k+1) G G;cases u;refine⟨[],Kq,Pq,Pq,G,_,Dz (ld B w) (by show 0+((k:Int)+1).toNat*1=_;omega),G,_,Dz (ld B v) (by show 0+(k:Int).toNat*1=_;omega),G,_,Jp u1 (by show 0+(k:Int).toNat*1=_;omega),G,_,Jp u2 (by show 0+((k:Int)+1).toNat*1=_;omega),?_⟩;exact⟨Pq,_,_,Sq,(by omega:i-(k+1)<i-k),_,B,G,B,s'⟩
   refine⟨Pq,Bz (λC=>?_) (λC=>?_)⟩
   .have C:b=m+1:=G
    refine⟨λf F H=>∃i j:Nat,F=[(0,.slice A n c),(2,Vi m),(4,.func (.func g) first cap),(14,Vi i),(15,Vi j)]/\(a<=i/\i<=j/\j<=m)/\f=j-i/\JS h N n c A xs H,
     ⟨_,_,Sq,(by omega:m-a<L),_,_,B,G,B,X⟩,?_⟩
    rintro f F H ⟨i,j,rfl,U,rfl,s⟩ aa;have q:=Ajm i j;obtain⟨k,hk⟩:∃k,k=(i+j)/2:=⟨_,B⟩;refine Bz (λC=>?_) (λC=>?_)
    .obtain⟨b0,x,u,v,R⟩:=s.get (i:=m) G
     cases u;obtain⟨_,y,T,w,V⟩:=s.get (i:=k) G;cases T;refine⟨Pq,_,.inl ⟨Pq,B⟩,by decide,_,.inl ⟨Pq,B⟩,[],Kq,G,_,Dz (ld B v) (by show 0+(m:Int).toNat*1=_;omega),G,_,Dz (ld B w) (by show 0+(DN .u64 ((i:Int)+j) 1).toNat*1=_;omega),_,Q x R y V _ (s.1.trans ((AA.ad H).ae _)) d G,?_⟩;rintro _ h3 ⟨E,z,rfl⟩;have K:=s.ext E.aa;refine⟨E.ag,_,_,B,Ad (λt=>?_) (λt=>?_)⟩
     .exact⟨Pq,_,_,Sq,(by omega:j-(k+1)<j-i),_,_,B,G,B,K⟩
     .exact⟨_,_,Sq,(by omega:k-i<j-i),_,_,B,G,B,K⟩
    refine⟨λf F H=>∃k:Nat,F=[(0,.slice A n c),(14,Vi i),(17,Vi k)]/\k<=m/\f=k-i/\JS h N n c A xs H,
     ⟨_,_,Sq,(by omega:m-i<L),_,B,Ae _,B,s⟩,?_⟩
    rintro f F H ⟨k,rfl,hk,rfl,s⟩ aa;refine Bz (λt=>?_) (λt=>s);obtain⟨_,x',y',h1,h2,u,v,w,u1,u2,s'⟩:=s.swp (i:=k) (j:=k-1) G G;cases u;refine⟨[],Kq,Pq,Pq,G,_,Dz (ld B w) (by show 0+((k:Int)-1).toNat*1=_;omega),G,_,Dz (ld B v) (by show 0+(k:Int).toNat*1=_;omega),G,_,Jp u1 (by show 0+(k:Int).toNat*1=_;omega),G,_,Jp u2 (by show 0+((k:Int)-1).toNat*1=_;omega),?_⟩;exact⟨Pq,_,_,Sq,(by omega:k-1-i<k-i),_,B,G,B,s'⟩
   have q:=Ajm a b;refine⟨Pq,_,.inl ⟨Pq,B⟩,by decide,_,.inl ⟨Pq,B⟩,Pq,Bz (λt=>?_) (λt=>?_)⟩
   .exact⟨Pq,_,CG (l:=[(0,_),(1,_),(2,_),(3,_),(4,_),(18,Vi (((a+b)/2:Nat):Int)),(19,Vi (((a+b)/2+m:Nat):Int)),(20,Vi (((a+b)/2+m-b:Nat):Int)),(21,Vi (((a+b)/2:Nat):Int))])
     ⟨B,B,B,B,B,Cs (λz=>I (Vi z)) q,Cs (λz=>I (Vi z)) G,Cs (λz=>I (Vi z)) G,Cs (λz=>I (Vi z)) q,trivial⟩,_,_,_,B,B,G,G,G,G,G,G,X⟩
   .exact⟨_,CG (l:=[(0,_),(1,_),(2,_),(3,_),(4,_),(18,Vi (((a+b)/2:Nat):Int)),(19,Vi (((a+b)/2+m:Nat):Int)),(20,Vi (a:Int)),(21,Vi (m:Int))])
     ⟨B,B,B,B,B,Cs (λz=>I (Vi z)) q,Cs (λz=>I (Vi z)) G,B,B,trivial⟩,_,_,_,B,B,G,G,G,G,G,G,X⟩
  .rintro _ H ⟨M,st,r,rfl,hm,O,P,k3,k4,k5,k6,s⟩
   refine⟨Pq,λf F H=>∃i j:Nat,F=[(0,.slice A n c),(1,Vi a),(2,Vi m),(3,Vi b),(4,.func (.func g) first cap),(18,Vi M),(19,Vi ((M+m:Nat):Int)),(20,Vi i),(21,Vi j),(22,Vi ((M+m-1:Nat):Int))]/\(st<=i/\i<=j/\j<=r)/\f=j-i/\JS h N n c A xs H,
    ⟨_,_,Sq,(by omega:r-st<L),_,_,B,G,B,s⟩,?_⟩
   rintro f F H ⟨i,j,rfl,U,rfl,s⟩ aa;have q:=Ajm i j;obtain⟨k,hk⟩:∃k,k=(i+j)/2:=⟨_,B⟩;refine Bz (λC=>?_) (λC=>?_)
   .obtain⟨b0,x,u,v,R⟩:=s.get (i:=M+m-1-k) G
    cases u;obtain⟨_,y,T,w,V⟩:=s.get (i:=k) G;cases T;refine⟨Pq,_,.inl ⟨Pq,B⟩,by decide,_,.inl ⟨Pq,B⟩,[],Kq,Pq,G,_,Dz (ld B v) (by show 0+(((M+m-1:Nat):Int)-DN .u64 ((i:Int)+j) 1).toNat*1=_;omega),G,_,Dz (ld B w) (by show 0+(DN .u64 ((i:Int)+j) 1).toNat*1=_;omega),_,Q x R y V _ (s.1.trans ((AA.ad H).ae _)) d G,?_⟩;rintro _ h3 ⟨E,z,rfl⟩;have K:=s.ext E.aa;refine⟨E.ag,_,_,B,Ad (λt=>?_) (λt=>?_)⟩
    .exact⟨Pq,_,_,Sq,(by omega:j-(k+1)<j-i),_,_,B,G,B,K⟩
    .exact⟨_,_,Sq,(by omega:k-i<j-i),_,_,B,G,B,K⟩
   refine⟨Pq,Bz (λO=>Bz (λP=>⟨_,s.call (λys o' _ _=>AEd (b:=M+m-i) ab o' hn G G G B B G) d G,?_⟩) (λP=>?_)) (λO=>?_)⟩
   all_goals
    try rintro _ _ s
    refine Bz (λO=>Bz (λP=>⟨_,s.call (λys o' p c'=>ih o' G G G G (Q.on p c') B B B) d G,?_⟩) (λP=>?_)) (λO=>?_)
    all_goals
     try rintro _ _ s
     refine Bz (λO=>Bz (λP=>⟨_,s.call (λys o' p c'=>ih (m':=M+m-i) o' G G G G (Q.on p c') B G B) d G,?_⟩) (λP=>?_)) (λO=>?_)
     all_goals
      first
       |exact s
       |(rintro _ _ s;exact s)
def Aqs (d:Base S L) {g:Nat} {first cap:Array Aa} (i:n<=1000000):∀(f:Nat) {a m b:Nat} {p q r:Int} {h:Y} {xs:Bo},AS h N 3 1 (.slice A n c) n (Bn xs)->a<m->m<b->b<=n->b-a<=2^(f+1)->U0 S L e g first cap h (BY (.slice A n c)) xs->p=a->q=m->r=b->
 Bk S L (e+2+f+1) 250 [.slice A n c,Vi p,Vi q,Vi r,.func (.func g) first cap] h λ_ J=>JS h N n c A xs J
 |0,a,m,b,_,_,_,h,xs,o,h1,j,k,s,l,rfl,rfl,rfl=>Aor d o i h1 j k l G G λ{a' m' w} _ _ _ _ _ o t u v x=>G
 |f+1,a,m,b,_,_,_,h,xs,o,h1,j,k,s,l,rfl,rfl,rfl=>Aor d o i h1 j k l G G λ{a' m' w} _ _ _ _ _ o t u v x y z C D=>Aqs d i f o t u v (by rw[Nat.pow_succ] at s;omega) y z C D
def ACh (j:Base S L) {g:Nat} {xs:Bo} {first cap:Array Aa} (o:AS h N 3 1 (.slice A n c) n (Bn xs)) (u:n<=1000000) (v:U0 S L e g first cap h (BY (.slice A n c)) xs):
 Bk S L (e+23) 179 [.slice A n c,Vi n,.func (.func g) first cap] h λ_ J=>JS h N n c A xs J:=
 Fm (fn:=f179) j Kq B λd R=>by
  have T:=j.aI;have x:∀{k:Nat},k<=n->k<=2^(19+1):=λh=>by have:2^(19+1)=1048576:=rfl;omega
  refine⟨Dc B,λf F H=>∃a:Nat,F=[(0,.slice A n c),(1,Vi n),(2,.func (.func g) first cap),(6,Vi 20),(7,Vi a),(8,Vi ((a+20:Nat):Int))]/\a<=n/\f=n-a/\JS h N n c A xs H,
   ⟨_,_,Sq,(by omega:n-0<L),_,B,Al _,B,.refl o⟩,?_⟩
  rintro f F H ⟨a,rfl,w,rfl,s⟩ y;refine Bz (λD=>?_) (λD=>?_)
  .refine⟨_,s.call (λys o' p i=>Aun j o' u w G (v.on p i) B B) d G,?_⟩
   rintro _ r b;exact⟨Pq,_,_,Sq,(by omega:n-(a+20)<n-a),_,B,G,B,b⟩
  refine⟨_,s.call (λys o' p i=>Aun j o' u w G (v.on p i) B B) d G,?_⟩;rintro _ r b;refine⟨λf F H=>∃q:Nat,F=[(0,.slice A n c),(1,Vi n),(2,.func (.func g) first cap),(6,Vi q)]/\0<q/\f=n-q/\JS h N n c A xs H,
   ⟨_,_,Sq,(by omega:n-20<L),_,B,by decide,B,b⟩,?_⟩
  rintro f F H ⟨q,rfl,V,rfl,s⟩ y;refine Bz (λE=>?_) (λE=>s);refine⟨Pq,λf F H=>∃a:Nat,F=[(0,.slice A n c),(1,Vi n),(2,.func (.func g) first cap),(6,Vi q),(7,Vi a),(8,Vi ((a+2*q:Nat):Int))]/\a<=n/\f=n-a/\JS h N n c A xs H,
   ⟨_,_,Sq,(by omega:n-0<L),_,B,Al _,B,s⟩,?_⟩
  rintro f F H ⟨a,rfl,w,rfl,s⟩ y;refine Bz (λK=>?_) (λK=>?_)
  .refine⟨Pq,_,s.call (λys o' p i=>Aqs (m:=a+q) j u 19 o' G G G (x G) (v.on p i) B G B) d G,?_⟩
   rintro _ r b;exact⟨Pq,Pq,_,_,Sq,(by omega:n-(a+2*q)<n-a),_,B,G,B,b⟩
  have nx:∀{t:As} {r:Y},JS h N n c A xs r->look t 0=I (.slice A n c)->look t 1=I (Vi n)->look t 2=I (.func (.func g) first cap)->look t 6=I (Vi ((q:Int)*2))->
   ∃m' C,Sub C t/\m'<n-q/\∃q:Nat,C=[(0,.slice A n c),(1,Vi n),(2,.func (.func g) first cap),(6,Vi q)]/\0<q/\m'=n-q/\JS h N n c A xs r:=λb M O P k6=>
   ⟨_,_,CG (l:=[(0,_),(1,_),(2,_),(6,Vi ((q*2:Nat):Int))]) ⟨M,O,P,k6.trans (Cs (λz=>I (Vi z)) (by omega)),trivial⟩,(by omega:n-q*2<n-q),_,B,G,B,b⟩
  refine⟨Pq,Bz (λQ=>?_) (λQ=>⟨Pq,nx s B B B B⟩)⟩;refine⟨_,s.call (λys o' p i=>Aqs (m:=a+q) j u 19 o' G G G (x G) (v.on p i) B G B) d G,?_⟩;rintro _ r b;exact⟨Pq,nx b B B B B⟩
def c96 (a:Base S L) {xs:Bo} (o:AS h N 3 1 v n (Bn xs)) (b:n<=1000000) (f:Agl S L d fv h (BY v) xs):Bk S L (d+26) 96 [v,fv] h λw J=>B0 (BY v) h J/\∃xs',xs'.Perm xs/\AS J N 3 1 v n (Bn xs'):=
 Fm (fn:=f96) a Kq B λd j=>by
  obtain⟨g,first,cap,rfl,i⟩:=f
  obtain⟨A,n',c,rfl⟩:=o.aX;obtain rfl:n'=n:=by
   obtain⟨_,⟨e,rfl⟩|⟨_,_,_,e,_⟩⟩:=o<;>cases e<;>rfl
  refine⟨Dc B,_,ACh a o b i d G,?_⟩;rintro _ J s;exact s
def H6 (zs:List Bl):List Bl:=zs.mergeSort λx y=>decide (x<=y)
def UZ (z:Bl):Value:=.string ⟨⟨z⟩⟩
open Classical in
def Oz (_:Be) (args:AH) (h:Y):Jl:=match args with
 |[.slice _ 0 _]=>I (.tuple #[],h)
 |
  [.slice (I ⟨b,0,Z⟩) n _]=>(match h.t.get b with
  |some (.cells c m 9 0 0 x)=>if e:∃zs:List Bl,zs.length=n/\n<=m/\n<=1000000/\∀i z,zs[i]?=I z->c.get i=I (UZ z) then I (.tuple #[],h.put b (.cells (T.laid ((H6 (Classical.choose e)).map UZ) 0 c) m 9 0 0 x)) else Z
  |_=>Z)
 |_=>Z
section
variable{P:AN} {τ:Bb}
open Go.Sort Go.Shelf
def Aii (T:BM P τ) {q:Go.Shelf.Ren} (L:Lays.n190 P q) (s:EV τ (q.f 190)=Ag) {ah:Be}
 {R:AH} {ρ:Go.Ev.Ren} {w:AM} (t:C5 P τ ρ h w) (r:LR ρ args R) (a:Oz ah args h=I (v,J)) (k kp:Aa->Y->RR) (A:List EO) (S:k v J=I A):
 Hk P (callFunc (q.f 190) ⟨R⟩) w (Ho P τ ρ w h k kp A):=by
 have V:∀x w,(callFunc (q.f 190) ⟨[x]⟩).run P w=.ok (.enter (q.f 190) ⟨[x]⟩) w:=λx w=>by
  unfold EV at s;split at s
  case h_2=>cases s
  rename_i fn W;obtain⟨cd,ai⟩:=Option.isSome_iff_exists.1 s;exact MuLone.run_callFunc_enter (T.fn _ _ W).1 ((T.fn _ _ W).2 s) ai _ w
 unfold Oz at a;split at a
 case h_3=>cases a
 case h_1=>
  cases a;cases r with|cons g r=>
  cases r;have Da:∀K M,Hk P (callFunc (q.f 190) ⟨[.slice K 0 M]⟩) w (Ho P τ ρ w h k kp A):=λK M=>by
   unfold Hk;rw[V];refine callsIn_wide.2 (Calls.mono (calls_of_every_depth λD=>AnyS.slices_Sort_string_none_alone L D K M w) λen w' N=>?_);obtain⟨rfl,rfl⟩:=N;exact⟨ρ,_,_,A,.tuple .nil,t,RF.refl t,S,λ_ g=>g⟩
  cases g with
  |az l c=>exact Da _ _
  |slice F X=>exact Da _ _
 rename_i b n cap al;split at a
 case h_2=>cases a
 rename_i c m x eH;split at a
 case isFalse=>cases a
 rename_i e;cases a;obtain⟨O,z2,z3,z4⟩:=Classical.choose_spec e;generalize Classical.choose e=zs at*;cases r with|cons g r=>
 cases r;cases g with|@slice _ _ _ _ _ pl o' F X=>
 have hn:0<n:=by
  rcases KQ n with rfl|h
  .exact(al B).elim
  .exact h
 have ho:o'=pl.o:=by have:=X G;omega
 subst ho;obtain⟨C,H,b1,b2,b3,b4,b5,b6⟩:=t.1.hr _ _ _ F eH;have am:H.1=H.2:=by
  rcases b5 with h|⟨h,_⟩|⟨h1,h2,h3⟩
  .exact h
  .cases h
  .omega
 have an:∀j,j<n->C[pl.o+j]?=I (UZ zs[j]!):=λj p=>by
  have E:zs[j]?=I zs[j]!:=by rw[UJ,Ab G];rfl
  obtain⟨_,v',d1,d2⟩:=b4 _ _ (z4 j _ E);cases d2;exact d1
 have hH:Holds encStr w pl.b pl.o zs.toArray:=λj p=>by
  have p:j<n:=by simpa[O] using p
  refine⟨?_,?_⟩
  .unfold WX
   simp only[b1];rw[an j p,ZE];rfl
  .unfold World.frozen?
   simp only[b1];simp[Bool.and_eq_false_imp,decide_eq_true_eq,decide_eq_false_iff_not];omega
 have aa:=calls_of_every_depth λD=>AnyS.slices_Sort_string_alone L D pl.b pl.o (cap+Hl Z pl) zs w hH (t.1.aC _ pl F) G;rw[O] at aa;unfold Hk;rw[V];refine callsIn_wide.2 (Calls.mono aa λen w' N=>?_);obtain⟨rfl,dn,os,rfl⟩:=N
 let d:World:=putRow encStr (Go.Sort.ahead w dn) pl.b pl.o (H6 zs).toArray
 have ab:d.heap.size=w.heap.size:=by
  rw[Go.Sort.size_putRow];rfl
 have ao:∀b,b≠pl.b->d.heap[b]?=w.heap[b]?:=λb hb=>by
  show(w.heap.modify pl.b _)[b]?=_;rw[B3,Bm (Ne.symm hb)]
 have ap:d.heap[pl.b]?=I (.cells (putCells encStr pl.o (H6 zs).toArray C) 9 H):=by
  show(w.heap.modify pl.b _)[pl.b]?=_;rw[B3,Bi B,b1];rfl
 have ad:(H6 zs).length=n:=by unfold H6;rw[ZF,O]
 have Q:(putCells encStr pl.o (H6 zs).toArray C).size=C.size:=by simp[putCells]
 have ae:∀j,(putCells encStr pl.o (H6 zs).toArray C)[j]?=if pl.o<=j/\j<pl.o+n then I (UZ (H6 zs)[j-pl.o]!) else C[j]?:=λj=>by
  unfold putCells;rw[Acj,List.size_toArray,ad];by_cases h:pl.o<=j/\j<pl.o+n
  .rw[Bi h,By G,Ek,Bi h,ZE];rfl
  .rw[Bm h]
   cases C[j]? with
   |none=>rfl
   |some y=>rw[Ek,Bm h]
 have aq:BR P ρ pl d (.cells (Ev.T.laid ((H6 zs).map UZ) 0 c) m 9 0 0 x):=by
  refine⟨_,H,ap,by rw[Q];exact b2,λi U=>by rw[Q];exact b3 i U,λi u a=>?_,.inl am,λg=>by rw[Q];exact b6 g⟩;rw[Ev.T.an,A4,ad] at a;by_cases p:0<=i/\i<0+n
  .rw[Bi p] at a
   rw[DL,AX] at a;cases E:(H6 zs)[i]? with
   |none=>rw[E] at a;cases a
   |
    some z=>
    rw[E] at a;cases a;refine⟨G,UZ z,?_,.ak B⟩;rw[ae,Bi G,Ds,UJ,E];rfl
  .rw[Bm p] at a
   rw[ae,Bm G];exact b4 i u a
 obtain⟨k1,o⟩:=t.write (hdr:=GW _ _) F eH B ab ao aq B B B;have af:∀b,b<d.heap.size->(grow d os).heap[b]?=d.heap[b]?:=λb hb=>by
  show(d.heap++os)[b]?=_;rw[KP hb]
 have ag:d.heap.size<=(grow d os).heap.size:=by rw[size_grow];omega
 exact⟨ρ,_,_,A,.tuple .nil,k1.grow ag af,⟨⟨o.ext,Ao o.size ag,λb hb hh=>(af b (by rw[ab];exact hb)).trans (o.ae b hb hh),o.new,o.nx,o.os,o.out,o.tape,o.drawn⟩,AF.put _ _ _⟩,S,λ_ g=>g⟩
end
def Azm (p:S.ov 173=I Oz) (o:AS h N 9 1 v n (AR ss)) (q:n<=1000000):
 Bk S L 10 173 [v] h λw J=>B0 (BY v) h J/\∃d,d.Perm ss/\AS J N 9 1 v n (AR d):=by
 have D:Bk S L 1 173 [v] h λw J=>B0 (BY v) h J/\∃d,d.Perm ss/\AS J N 9 1 v n (AR d):=by
  rcases KQ n with rfl|h0
  .obtain⟨A,n',c,rfl⟩:=o.aX
   obtain rfl:n'=0:=by
    obtain⟨_,⟨e,_⟩|⟨_,_,_,e,_⟩⟩:=o<;>cases e<;>rfl
   exact Lm p (λ_=>rfl) ⟨(AA.refl h).ae _,ss,.refl _,o⟩
  obtain⟨k,rfl⟩:∃k,n=k+1:=⟨n-1,G⟩;obtain⟨E,⟨_,e⟩|⟨b,r,sp,rfl,F,H,W,hb,c,x,K,l⟩⟩:=o
  .cases e
  have u:ss.length=k+1:=by rw[←BJ (k+1),←E];simp[AR]
  have e:∃zs:List Bl,zs.length=k+1/\k+1<=(AR ss++sp).length/\k+1<=1000000/\∀i z,zs[i]?=I z->c.get i=I (UZ z):=
   ⟨ss.map λs=>s.data.toList,Jq,G,q,λi z f=>by
    rw[AX] at f;cases g:ss[i]? with
    |none=>rw[g] at f;cases f
    |
     some s=>
     rw[g] at f;cases f;exact l i _ (by rw[AB (by have:=(List.getElem?_eq_some_iff.1 g).1;simp[AR];exact this)];unfold AR;rw[AX,g];rfl)⟩
  obtain⟨M,X,z3,O⟩:=Classical.choose_spec e;have P:∀y,Oz y [sL b (k+1) r] h=I (.tuple #[],h.put b (.cells (T.laid ((H6 (Classical.choose e)).map UZ) 0 c) (AR ss++sp).length 9 0 0 x)):=λy=>by
   show(match h.t.get b with|some (.cells c m 9 0 0 x)=>_|_=>Z)=_
   rw[K];exact dif_pos e
  generalize Classical.choose e=zs at*;refine Lm p P ?_;have j:(H6 zs).length=k+1:=by unfold H6;rw[ZF,M]
  have Q:ss=zs.map λz=>⟨⟨z⟩⟩:=by
   apply List.ext_getElem?;intro i;rw[AX];by_cases U:i<k+1
   .rw[Ab G,Ab G]
    have C:=l i (.string ss[i]) (by rw[AB (by simp[AR];omega)];unfold AR;rw[AX,Ab G];rfl);rw[(O i _ (Ab G))] at C;have R:=Option.some.inj C;rw[Ek];exact Cs I (Value.string.inj R).symm
   .rw[CD G,CD G];rfl
  have V:(AR ((H6 zs).map λz=>(⟨⟨z⟩⟩:Bd))++sp).length=(AR ss++sp).length:=by
   rw[Aj,Aj];simp[AR,j,u]
  refine⟨(Er.put _ _ _).ae,(H6 zs).map λz=>⟨⟨z⟩⟩,?_,by simp[AR,j],.inr ⟨b,r,sp,B,F,H,Jq,Jq,_,x,by rw[BQ,Bi B,V],λi v a=>?_⟩⟩
  .rw[Q]
   exact(List.mergeSort_perm zs _).map _
  .rw[T.an,A4,j]
   by_cases U:i<k+1
   .rw[Bi G,DL]
    rw[AB Jq] at a;unfold AR at a;rw[O5] at a;exact a
   .rw[Bm G]
    refine l i v ?_;rw[Bq Jq] at a⊢;simp[AR,A4,j,u] at a⊢;exact a
 exact λn q=>D n G
def aIr (r m ck:Nat) (sn:List Ap):Ct:={
 am:=λi=>i=r
 holds:=λh=>r<h.nx/\∃a,h.t.get r=I (.ay (I m) ck (sn.map (·.born)) a)/\(sn≠[]->a=ck)
 aH:=λc b o=>⟨AC o.1 c.nx,by rw[c.t r o.1 (b r B)];exact o.2⟩
 lt:=λo i U=>by rw[U];exact o.1
 bk:=λo=>⟨by rw[CL];exact o.1,by rw[DF];exact o.2⟩}
section
variable{h0 h:Y} {l:List Ct} {i r m ck:Nat} {es sn:List Ap}
def Sep.cZ (s:Sep h0 h l) (U:l[i]?=I (aIr r m ck sn)) (a:m<h0.nx) (b:h0.t.get m=I (.map es ck)) (c:Fc ck 0 es=Ag) (d:∀e∈sn,e∈es) (f:sn.Nodup):It h r m es sn:=by
 obtain⟨⟨a1,g,j,k⟩,_⟩:=s.2.1 i _ U;exact⟨a1,⟨AC a s.e.nx,ck,g,(s.e.t m a).trans b,c,j,k⟩,d,f⟩
def Sep.c7 (s:Sep h0 h l) (U:l[i]?=I (aIr r m ck sn)) (b:m<h0.nx) (c:h0.t.get m=I (.map es ck)) (f:Fc ck 0 es=Ag) (g:∀e∈sn,e∈es) (j:sn.Nodup) {k:Aa->Y->Prop} (h1:(∀e∈es,e∈sn)->k (.tuple #[.bool Ah]) h)
 (n:∀e,e∈es->(sn++[e]).Nodup->∀J,Sep h0 J (l.set i (aIr r m ck (sn++[e])))->k (.tuple #[.bool Ag,e.key,e.val]) J):∃x l,FT (AG r 0) Ah h=I (x::l)/\∀u J,(u,J)∈x::l->k u J:=
 Aon (s.cZ U b c f g j) h1 λe o z J u p=>by
  obtain⟨b1,⟨A,C,q,d,D,v,w⟩,_,y⟩:=p;have E:=(s.2.1 i _ U).2 r B;rw[u.t m G,s.e.t m b,c] at d;cases d;exact n e o y J (s.ah U (u.ae.mono λx a=>a) ⟨b1,q,v,w⟩ λx a=>.inl a)
end
def pV (k:Int×Int):Value:=C9 k.1 k.2
def Auf {a b:Int×Int} (h:pV a=pV b):a=b:=by
 injection h with h;injection h with h;injection h with h1 c;injection c with c _;injection h1 with _ h1;injection c with _ c;exact Prod.ext h1 c
def Afs:∀{a b:List (Int×Int)},a.map pV=b.map pV->a=b
 |[],[],_=>rfl
 |[],_::_,h=>by cases h
 |_::_,[],h=>by cases h
 |
  x::a,y::b,h=>by
  simp[Bp,List.cons.injEq] at h;rw[Auf h.1,Afs h.2]
def Akt {a b:List (Int×Int)} (h:(a.map pV).Perm (b.map pV)):a.Perm b:=by
 have Cw:∀{x:AH},x.Perm (b.map pV)->∃c:List (Int×Int),x=c.map pV/\c.Perm b:=by
  intro x d;exact HH pV d
 obtain⟨c,h1,e⟩:=Cw h;rw[Afs h1];exact e
def ACm (K:Base S L) {h0 h:Y} {r w dy:Nat} {l:GX} (hb:Cell h0 b 0 (.map (I r))) (M:HE h0 r l) (hl:l.length<=1000000) (g:List (Int×Int)->List Ct->Prop) {y:List Ct} (p0:g [] y) (j:Sep h0 h y)
 (hy:∀(c:List (Int×Int)) (k:Int×Int) (A R:List Ct) (m:Y),g c A->c.length<l.length->Sep h0 m (A++R)->ZP S L dy (.yield w) [.agg ⟨E4 k⟩] m λu J=>u=.bool Ag/\∃o,g (c++[k]) o/\Sep h0 J (o++R)):
 PE S L (dy+1) 318 [.func (.yield w) #[] #[],AG b 0] h λ_ J=>∃c A,g c A/\c.Perm (l.map Eh)/\Sep h0 J A:=
 GU (fn:=f318) K Kq B λd ak=>by
  have hL:=K.aI;obtain⟨f,es,ck,n,C,p,m4⟩:=M;have al:es.length=l.length:=by have:=Cs HD C;simpa using this
  obtain⟨h1,y1,N,i1,_⟩:=It.new (τ:=Ax) (t:=294) (kt:=298) (et:=3) Kq (AC f j.e.nx) ((j.e.t r f).trans n) p;have s1:=j.add (a:=aIr h.nx r ck []) N (by
   obtain⟨a1,⟨_,am,af,O,_,a5,a6⟩,_⟩:=i1;rw[N.t r Jq,j.e.t r f,n] at O;cases O;exact⟨a1,af,a5,a6⟩) λi U=>A2 U.symm
  refine⟨Dc B,_,ld B (hb.ext j.e),_,_,y1,λP F Q m=>∃(sn:List Ap) (c:List (Int×Int)) (A:List Ct),F=[(0,.func (.yield w) #[] #[]),(5,AG h.nx 0)]/\Q=[]/\P=es.length-sn.length/\g c A/\sn.map (·.key)=c.map pV/\(∀e∈sn,e∈es)/\sn.Nodup/\Sep h0 m (aIr h.nx r ck sn::A),
   ⟨_,_,Sq,G,[],[],y,B,B,B,p0,B,(λe D=>by cases D),Jg,s1⟩,?_⟩
  rintro P F Q m ⟨sn,c,A,rfl,rfl,rfl,T,E,V,W,s⟩ an;refine s.c7 (i:=0) B f n p V W (λag=>?_) (λe D X h2 s2=>?_)
  .have hp:=(s.cZ (i:=0) B f n p V W).all ag
   have ek:es.map (·.key)=(l.map Eh).map pV:=by
    have:=Cs (List.map Eh) C;rw[O5,O5] at this;rw[O5];exact this
   exact⟨c,A,T,Akt (by rw[←E,←ek];exact hp.map _),s.drop 1⟩
  .obtain⟨q,hq,ah⟩:=List.mem_map.1 (show(e.key,e.val)∈l.map _ from C▸Gn D)
   have aa:e.key=.agg ⟨E4 q.1⟩:=(Cs Eh ah).symm;have ab:∀x∈sn++[e],x∈es:=λx hx=>Gq;have ad:=s2.cZ (i:=0) B f n p ab X;have ai:=ad.len;rw[Aj,Br] at ai;have ae:=QO ad;have ao:c.length=sn.length:=by have:=Cs HD E;simpa using this.symm
   rw[aa] at ae⊢;obtain⟨g3,y3,H,y4,s4⟩:=(s2:Sep h0 h2 (aIr h.nx r ck (sn++[e])::A)).var (t:=298) (z:=.agg ⟨[Vi 0,Vi 0]⟩) Kq (v:=.agg ⟨E4 q.1⟩) B B B;refine⟨_,_,Cs (CN _) ae,_,_,y3 _,_,y4,_,EQ Kq ((s4.dD (i:=0) B).cells:BK H h2.nx 0 (E4 q.1)) B,_,(hy c q.1 A _ H T G ((s4.drop 1).perm (Gm _ _).symm:Sep h0 H (A++[aIr h.nx r ck (sn++[e])])) d G).any,?_⟩;rintro _ h5 ⟨rfl,o,aj,s6⟩;exact⟨_,_,B,_,_,Sq,(by rw[Aj,Br];omega:es.length-(sn++[e]).length<_),sn++[e],c++[q.1],o,B,B,B,aj,by rw[BS,BS,E,Ajh,Ajh,aa];rfl,ab,X,s6.perm (Gm _ _)⟩
def Hq (a:List (Int×Int)):AH:=a.flatMap E4
def AAx (K:Base S L) {h:Y} {r:Nat} {l:GX} (hb:Cell h b 0 (.map (I r))) (M:HE h r l) (X:l.length<=1000000):
 PE S L 8 347 [.slice Z 0 0,.func (.func 318) #[] #[AG b 0]] h λw J=>AA h J/\∃c:List (Int×Int),c.Perm (l.map Eh)/\AS J h.nx 298 2 w c.length (Hq c)/\(c=[]->w=.slice Z 0 0):=
 GU (fn:=f347) K Kq B λd ad=>by
  obtain⟨g,y1,s1⟩:=(Sep.nil h).box Ax 292 (.slice Z 0 0);have s3:=(s1:Sep h g [aO h.nx 292 [.slice Z 0 0]]).add (a:=aS h.nx 298 2 (.slice Z 0 0) 0 []) (AA.refl _) (AS.nil _ _ _ _) (λi U=>U.elim);refine⟨Dc B,_,_,y1,XI (τ:=Ax) (f:=318) (fn:=f318) Kq B,T3 λp aa=>?_⟩;have s4:=s3.add (a:=aB g.nx (.aq Ah)) (AA.new g (.aq Ah)) ⟨by rw[Ck];omega,by rw[CK,Bi B]⟩ (λi U=>A2 U.symm);have s5:=s4.add (a:=aB (A3 g.nx) (p .ready Z)) (AA.new _ (p .ready Z)) ⟨by rw[Ck,Ck];omega,by rw[CK,Ck,Bi B]⟩ (λi U=>by rw[Ck];exact A2 U.symm)
  let E:List (Int×Int)->List Ct->Prop:=λc A=>∃cv:Aa,A=[aB (A3 g.nx) (p .ready Z),aB g.nx (.aq Ah),aS h.nx 298 2 cv c.length (Hq c),aO h.nx 292 [cv]]/\(c=[]->cv=.slice Z 0 0)
  have hy:∀(c:List (Int×Int)) (k:Int×Int) (A R:List Ct) (q:Y),E c A->c.length<l.length->Sep h q (A++R)->ZP S L 1 (.yield (A3 g.nx)) [.agg ⟨E4 k⟩] q λu J=>u=.bool Ag/\∃N,E (c++[k]) N/\Sep h J (N++R):=by
   rintro c k _ R q ⟨cv,rfl,_⟩ hk s n ae;obtain⟨m,rfl⟩:∃m,n=m+1:=⟨n-1,G⟩;refine aa m [(2,AG h.nx 0)] _ q _ (Sq) (s.a7 (i:=0) B) ?_;obtain⟨g7,y7,y,y8,o⟩:=s.var (t:=298) (z:=.agg ⟨[Vi 0,Vi 0]⟩) Kq (v:=.agg ⟨E4 k⟩) B B B;refine⟨_,_,y7 _,_,y8,o.a7 (i:=1) B,?_⟩;have o:=o.ah (i:=1) (a':=aB (A3 g.nx) (p .busy Z)) B (Er.put y (A3 g.nx) (p .busy Z)).ae ⟨by rw[Cc];exact(o.2.1 1 _ B).1.1,by rw[BQ,Bi B]⟩ (λx C=>.inl C);generalize y.put (A3 g.nx) (p .busy Z)=y at o⊢;obtain⟨O,h9,t9,P⟩:=o.ba (e:=298) (k:=2) Kq (i:=3) B (ys:=E4 k) B B o.e.nx G (n':=(c++[k]).length) (xs':=Hq (c++[k])) (by simp) (by simp[Hq]);obtain⟨af,t10,F⟩:=P.st (t:=292) B (i:=4) B (j:=0) (v:=O) (by show 0<1;decide) (D5 (P.sl (i:=3) B));have ab:=F.ah (i:=1) (a':=aB (A3 g.nx) (p .ready Z)) B (Er.put _ (A3 g.nx) (p .ready Z)).ae ⟨by rw[Cc];exact(F.2.1 1 _ B).1.1,by rw[BQ,Bi B]⟩ (λx C=>.inl C);exact⟨_,ld B ((o.dD (i:=4) B).cell B:Cell y h.nx 0 cv),_,EQ (k:=2) Kq ((o.dD (i:=0) B).cells:BK y q.nx 0 (E4 k)) B,_,_,Iv (τ:=Ax) (t:=292) (e:=298) (k:=2) Kq (.agg ⟨E4 k⟩) B B (by decide) _,_,_,t9,_,t10,.busy,Z,F.a7 (i:=1) B,B,_,⟨O,B,λh=>Cf h (by simp)⟩,ab.drop 1⟩
  refine⟨_,ACm K hb M X E (dy:=1) ⟨_,B,λ_=>rfl⟩ s5 hy d G,?_⟩;rintro u Q ⟨c,_,⟨cv,rfl,hz⟩,hp,H⟩;refine⟨.ready,Z,H.a7 (i:=0) B,Jq,?_⟩;have T:=H.ah (i:=0) (a':=aB (A3 g.nx) (p .exhausted Z)) B (Er.put Q (A3 g.nx) (p .exhausted Z)).ae ⟨by rw[Cc];exact(H.2.1 0 _ B).1.1,by rw[BQ,Bi B]⟩ (λx C=>.inl C);generalize Q.put (A3 g.nx) (p .exhausted Z)=h7 at T⊢;have o:Sep h h7 ([aS h.nx 298 2 cv c.length (Hq c),aO h.nx 292 [cv]]++Oc [g.nx]):=
   ((T.drop 1).perm (l':=[aS h.nx 298 2 cv c.length (Hq c),aO h.nx 292 [cv]]++Oc [g.nx]) (Gm _ _).symm)
  refine⟨_,ld B ((o.dD (i:=1) B).cell (i:=0) B),?_⟩;obtain⟨n1,n2,n3,V⟩:=Sep.aq (l:=[aS h.nx 298 2 cv c.length (Hq c),aO h.nx 292 [cv]]) (D:=[g.nx]) o;exact JM _ n1 n2 λJ _ W=>⟨(V J W).e,c,hp,(V J W).sl (i:=0) B,hz⟩
def ADh (c:Base S L) {h:Y} {r:Nat} {l:GX} (hb:Cell h b 0 (.map (I r))) (M:HE h r l) (e:l.length<=1000000):
 PE S L 9 316 [.func (.func 318) #[] #[AG b 0]] h λw J=>AA h J/\∃a:List (Int×Int),a.Perm (l.map Eh)/\AS J h.nx 298 2 w a.length (Hq a)/\(a=[]->w=.slice Z 0 0):=
 GU (fn:=f316) c Kq B λd f=>by
  refine⟨Dc B,_,AAx c hb M e d G,?_⟩;rintro w J q;exact q
def Rb:∀a:List (Int×Int),Dv (Hq a) (Hq a)=Ag
 |[]=>rfl
 |
  k::a=>by
  show(HS (Vi k.1) (Vi k.1)&&(HS (Vi k.2) (Vi k.2)&&Dv (Hq a) (Hq a)))=Ag;rw[Rb a];show((Ag&&decide (k.1=k.1))&&((Ag&&decide (k.2=k.2))&&Ag))=Ag;simp
def Wb {d:Type} {c:d->d->Int} (C:Cm c) {l m:List d} (p:l.Perm m) (h:m.Pairwise λa b=>c a b≠0):H0 c l=H0 c m/\l.Pairwise λa b=>c a b≠0:=by
 have f:=(p.pairwise_iff (λ{a b} h e=>h (by have:=C.aQ a b;have:=C.aQ b a;omega))).2 h;exact⟨Alc C (((DO l).trans p).trans (DO m).symm) (PX C l f) (PX C m h),f⟩
def Ayn {a b:Int×Int} (h:UY a b=0):a=b:=by
 obtain⟨h1,h⟩:=Ob h;obtain⟨c,_⟩:=Ob h;exact Prod.ext (Mu h1) (Mu c)
def ABp (j:Base S L) (q:S.ov 252=Z) (s:S.nd 252=I 298) (t:S.hk 252=Z) (u:S.ov 317=I (IA Ax 298)) {h:Y} {r:Nat} {l:GX} (hb:Cell h b 0 (.map (I r))) (M:HE h r l) (v:l.length<=1000000):
 Bk S L 11 252 [.func (.func 318) #[] #[AG b 0],.func (.func 254) #[] #[]] h λw J=>AA h J/\∃f:List (Int×Int),Rd J w 2 f.length (f.flatMap E4)/\f.length=l.length/\∀k∈f,∃c,(k,c)∈l:=by
 obtain⟨_,es,ck,_,_,_,z⟩:=id M;have P:=DO (c:=UY) (l.map Eh);refine(Agc (fn:=f252) (k:=2) (xs:=H0 UY (l.map Eh)) Kq t q s Kq (λ_=>rfl) (λxs=>by cases xs with|nil=>rfl|cons x xs=>exact Rb (x::xs)) λd N=>?_).mono ?_
 .refine⟨Dc B,_,ADh j Jq Jq v d G,?_⟩
  rintro w h1 ⟨A,f,g,o,C⟩;obtain⟨m,D⟩:=Wb cmP g (List.pairwise_map.2 (z.imp λh e=>h (Ayn e)):(l.map Eh).Pairwise λa b=>UY a b≠0);refine⟨_,(QS cmP (k:=2) u Kq Kq (λ_=>⟨B,B⟩) o B (by have:=g.length_eq;rw[A4] at this;omega:f.length<=1000000) D (λx _ y _=>ACr j) d G).any,?_⟩;rintro _ E ⟨rfl,F,H⟩;have n:(H0 UY (l.map Eh)).length=f.length:=by rw[←m];exact(DO f).length_eq
  refine⟨(A.then H λi U=>o.ai i U:AA h.ad E).ag,Y7 (Cr:=E4) (λ_=>⟨B,B⟩) (by rw[n,←m];exact F) λh0=>C (BO (by rw[←n,h0];rfl))⟩
 .rintro w J ⟨x,o⟩
  refine⟨x,H0 UY (l.map Eh),o.rd,by rw[P.length_eq,A4],λk K=>?_⟩;obtain⟨p,g,rfl⟩:=List.mem_map.1 (P.subset K);exact⟨p.2,g⟩
section
variable{α:Type} {kt:Ai} {kv vv:α->Aa} {Q:α->α->Bool}
def Q0 {x y:α}:∀{l:List α},y∈KT Q x l->y=x\/y∈l
 |[],h=>.inl (List.mem_singleton.1 h)
 |
  z::l,h=>by
  rw[KT] at h;split at h
  .exact(List.mem_cons.1 h).imp_right Jq
  .rcases List.mem_cons.1 h with h|h
   .exact .inr Jq
   .exact(Q0 h).imp_right Jq
def VF (x:α):∀l:List α,(KT Q x l).length<=l.length+1
 |[]=>Ae _
 |z::l=>by rw[KT];split<;>simp[AO]<;>have:=VF x l<;>omega
def S9 (K:Acl kt kv Q) {x:α}:∀{l:List α},l.Pairwise (λa b=>kv a≠kv b)->(KT Q x l).Pairwise λa b=>kv a≠kv b
 |[],_=>List.pairwise_singleton _ _
 |
  z::l,h=>by
  obtain⟨h1,f⟩:=List.pairwise_cons.1 h;rw[KT];split
  .rename_i d
   exact List.pairwise_cons.2 ⟨λy c=>by rw[(K.iff _ _).1 d];exact h1 y c,f⟩
  .rename_i d
   refine List.pairwise_cons.2 ⟨λy c=>?_,S9 K f⟩;rcases Q0 c with rfl|c
   .exact λe=>d ((K.iff _ _).2 e.symm)
   .exact h1 y c
end
def HZ (e:CI):Value:=.agg ⟨BV {e with c:=0}⟩
def Mx (e:CI):Value:=.int .i64 e.c
def N9 (a b:CI):Bool:=Gp a.rd.data.toList b.rd.data.toList&&(Gp a.tx.data.toList b.tx.data.toList&&(a.l==b.l&&(a.r==b.r&&Ag)))
def Apw:Acl 114 HZ N9:=by
 refine⟨λa b=>?_,λa b=>?_,λa=>?_,λa=>rfl⟩
 .have e:IZ Ax Op.maxDepth 114 (HZ a) (HZ b)=bm (Gp a.rd.data.toList b.rd.data.toList) (bm (Gp a.tx.data.toList b.tx.data.toList) (bm (a.l==b.l) (bm (a.r==b.r) (bm ((0:Int)==0) (I Ag))))):=rfl
  rw[e];simp[L1];simp[N9]
 .unfold N9
  rw[An,An,An,Mh,CJ,CJ];constructor
  .rintro⟨h1,c,d,f⟩
   unfold HZ BV;simp only at h1 c⊢;rw[h1,c,eq_of_beq d,eq_of_beq f]
  .intro h
   unfold HZ BV at h;simp[Value.agg.injEq,Array.mk.injEq,List.cons.injEq,Value.string.injEq,Value.int.injEq,true_and,and_true] at h;exact⟨h.1,h.2.1,by simp[h.2.2.1],by simp[h.2.2.2]⟩
 .have e:Cy (HZ a) (HZ a)=(Gp a.rd.data.toList a.rd.data.toList&&(Gp a.tx.data.toList a.tx.data.toList&&((Ag&&decide (a.l=a.l))&&((Ag&&decide (a.r=a.r))&&((Ag&&decide ((0:Int)=0))&&Ag))))):=rfl
  rw[e,CJ.2 rfl,CJ.2 rfl];simp
def H4 (l:List CI) (e:CI):List CI:=match l.find? (N9 e) with
 |some y=>if e.c<y.c then KT N9 e l else l
 |none=>KT N9 e l
def QP (es:List CI):List CI:=es.foldl H4 []
structure MS (es l:List CI):Prop where
 bd:l.Pairwise λa b=>HZ a≠HZ b
 mem:∀x∈l,x∈es
 len:l.length<=es.length
def MS.step {es l:List CI} (i:MS es l) (e:CI):MS (es++[e]) (H4 l e):=by
 have a:MS (es++[e]) (KT N9 e l):=⟨S9 Apw i.bd,λx b=>by
  rcases Q0 b with rfl|b
  .simp
  .exact DW _ (i.mem x b),by have:=VF (Q:=N9) e l;have:=i.len;rw[Aj,Br];omega⟩
 unfold H4;split
 .split
  .exact a
  .exact (⟨i.bd,λx b=>DW _ (i.mem x b),by have:=i.len;rw[Aj];omega⟩:MS (es++[e]) l)
 .exact a
def SV:∀es:List CI,Dv (es.flatMap BV) (es.flatMap BV)=Ag
 |[]=>rfl
 |
  e::es=>by
  show(Gp e.rd.data.toList e.rd.data.toList&&(Gp e.tx.data.toList e.tx.data.toList&&((Ag&&decide (e.l=e.l))&&((Ag&&decide (e.r=e.r))&&((Ag&&decide (e.c=e.c))&&Dv (es.flatMap BV) (es.flatMap BV))))))=Ag;rw[SV es,CJ.2 rfl,CJ.2 rfl];simp
def Ayg {a b:CI} (h:Xd a b=0):HZ a=HZ b:=by
 obtain⟨h1,h⟩:=Ob h;obtain⟨_,h⟩:=Ob h;obtain⟨d,h⟩:=Ob h;obtain⟨e,h⟩:=Ob h;obtain⟨f,_⟩:=Ob h;unfold HZ;rw[show({a with c:=0}:CI)={b with c:=0} by rw[Xt h1,Xt d,Mu e,Mu f]]
def ZQ (e:Ap):AH:=(AJ e.key).take 4++AJ e.val
def c86 (af:Base S L) (ar:S.ov 86=Z) (au:S.nd 86=I 114) (av:S.hk 86=Z) (aw:S.ov 167=I (IA Ax 114)) {es:List CI} (en:Dq h v es) (hn:es.length<=20000):
 Bk S L 10 86 [v] h λw J=>AA h J/\∃M:List CI,AS J h.nx 114 5 w M.length (M.flatMap BV)/\M.length<=es.length/\∀e'∈M,e'∈es:=by
 have hL:=af.aI;have all:∀k,k<=es.length->MS (es.take k) ((es.take k).foldl H4 []):=by
  intro k
  induction k with
  |zero=>intro _;exact⟨.nil,(λx R=>by cases R),Ae _⟩
  |
   succ k ih=>
   intro hk;rw[A5 G,K1];exact(ih G).step _
 have Da:=all es.length Jq;rw[CS] at Da;have Da:MS es (QP es):=Da;have ag:=Da.bd.imp λh e=>h (Ayg e);have P:=DO (c:=Xd) (QP es);refine(Agc (fn:=f86) (k:=5) (xs:=H0 Xd (QP es)) Kq av ar au Kq (λ_=>rfl) (λxs=>by cases xs with|nil=>rfl|cons x xs=>exact SV (x::xs)) λd be=>?_).mono ?_
 rotate_left
 .rintro w J ⟨x,o⟩
  exact⟨x,_,o,by rw[P.length_eq];exact Da.len,λe T=>Da.mem e (P.subset T)⟩
 have V:=show Rd h.ad _ _ _ _ from en;generalize W:h.ad=b;rw[W] at V;obtain⟨A0,c0,rfl⟩:∃A c,v=.slice A es.length c:=by obtain⟨_,A,c,e,_⟩:=V;exact⟨A,c,e⟩
 have s1:=(Sep.nil b).add (a:=aG HZ Mx b.nx []) (AA.new b (.map [] 0)) ⟨by rw[Ck];omega,[],0,by rw[CK,Bi B],B,B⟩ (λi U=>A2 U.symm);refine⟨Dc B,λC F D q=>∃k:Nat,F=[(3,.map (I b.nx)),(13,.slice A0 es.length c0),(14,Vi es.length),(15,Vi k)]/\D=[]/\C=es.length-k/\k<=es.length/\Sep b q [aG HZ Mx b.nx ((es.take k).foldl H4 [])],
  ⟨_,_,Sq,(by omega:es.length-0<L),0,B,B,B,Al _,s1⟩,?_⟩
 rintro C F D q ⟨k,rfl,rfl,rfl,hk,s⟩ ax;refine Ad (λn=>?_) (λn=>?_)
 .have n:k<es.length:=by have:=Fp n;omega
  obtain⟨a1,y1,e9,_,r⟩:=(Rd.ext V s.e).el n;cases e9;rw[flatK (f:=BV) (λ_=>rfl) es (Ab n)] at r;have ah:=A5 n;generalize es[k]=e at r ah;have N:(es.take (k+1)).foldl H4 []=H4 ((es.take k).foldl H4 []) e:=by rw[ah,K1];rfl
  generalize(es.take k).foldl H4 []=l at s N;obtain⟨g1,z1,X,z2,s2⟩:=s.var (t:=114) (z:=.agg #[.string ⟨#[]⟩,.string ⟨#[]⟩,Vi 0,Vi 0,Vi 0]) Kq (v:=.agg ⟨BV e⟩) B B B;obtain⟨g3,z3,g4,z4,s4⟩:=s2.var (t:=114) (z:=.agg #[.string ⟨#[]⟩,.string ⟨#[]⟩,Vi 0,Vi 0,Vi 0]) Kq (v:=.agg ⟨BV e⟩) B B B;obtain⟨O,z5,E⟩:=s4.st (t:=3) B (i:=0) B (j:=4) (v:=Vi 0) (by show 4<5;decide) B;have c6:BK O X.nx 0 (BV {e with c:=0}):=(E.dD (i:=0) B).cells;have c5:Cell O q.nx 4 (Vi e.c):=(E.dD (i:=1) B).cell (i:=4) B;have m5:TA HZ Mx O b.nx l:=(E.2.1 2 _ B).1;have lk:=m5.look Apw (t:=266) (et:=3) (z:=Vi 0) Kq Kq e;obtain⟨g6,z6,m6,u6⟩:=m5.ah Apw (t:=266) (et:=3) Kq e;have s6:=E.ah (i:=2) (a':=aG HZ Mx b.nx (KT N9 e l)) B u6.ae m6 λx R=>.inl R
  refine⟨G,_,EQ (k:=5) Kq (show BK q a1.block (a1.off+(k:Int).toNat*5) (BV e) from r) B,_,_,z1 _,_,z2,_,EQ (k:=5) Kq (show BK X q.nx 0 (BV e) from (s2.dD (i:=0) B:Own X q.nx 114 (BV e)).cells) B,_,_,z3 _,_,z4,_,z5,_,EQ (k:=5) Kq c6 B,_,_,Cs (CN _) lk,?_⟩;have ai:Sep b g6 [aG HZ Mx b.nx (KT N9 e l)]:=s6.drop 2;cases hf:l.find? (N9 e) with
  |
   none=>
   have H:H4 l e=KT N9 e l:=by unfold H4;rw[hf]
   refine⟨_,_,B,_,EQ (k:=5) Kq c6 B,_,ld B c5,_,_,Cs Nb z6,?_⟩;exact⟨Pq,_,_,Sq,(by omega:es.length-(k+1)<es.length-k),k+1,B,B,B,n,by rw[N,H];exact ai⟩
  |
   some y=>
   refine⟨_,_,B,_,ld B c5,Bz (λk2=>?_) (λk2=>?_)⟩
   .have H:H4 l e=KT N9 e l:=by unfold H4;rw[hf];exact Bi k2
    exact⟨_,EQ (k:=5) Kq c6 B,_,ld B c5,_,_,Cs Nb z6,Pq,_,_,Sq,(by omega:es.length-(k+1)<es.length-k),k+1,B,B,B,n,by rw[N,H];exact ai⟩
   .have H:H4 l e=l:=by unfold H4;rw[hf];exact Bm k2
    exact⟨Pq,_,_,Sq,(by omega:es.length-(k+1)<es.length-k),k+1,B,B,B,n,by rw[N,H];exact (E.drop 2:Sep b O [aG HZ Mx b.nx l])⟩
 .have n:=KK n
  obtain rfl:k=es.length:=G;rw[CS] at s;have s:Sep b q [aG HZ Mx b.nx (QP es)]:=s;generalize QP es=l at s ag Da P;obtain⟨_,u,bf,ay,az,aa⟩:TA HZ Mx q b.nx l:=(s.2.1 0 _ B).1;have bg:u.length=l.length:=by have:=Cs HD aa;simpa using this
  have hl:=Da.len;obtain⟨bh,aj,ak⟩:=s.cN (τ:=Ax) (t:=266) (kt:=114) (et:=3) Kq (i:=0) B (m:=b.nx) (λx=>Iff.rfl) ay az;generalize bi:q.nx=rI at ak aj;have a0:=ak.add (a:=aS b.nx 114 5 (.slice Z 0 0) 0 []) (AA.refl _) (AS.nil _ _ _ _) (λi U=>U.elim);refine⟨_,_,aj,λC F D J=>∃(g:List Ap) (Q:Aa),F=[(9,Q),(41,AG rI 0)]/\D=[]/\C=u.length-g.length/\(g=[]->Q=.slice Z 0 0)/\Sep b J [aS b.nx 114 5 Q g.length (g.flatMap ZQ),Yu rI b.nx u g],
   ⟨_,_,Sq,(by omega:u.length-0<L),[],_,B,B,B,λ_=>rfl,a0⟩,?_⟩
  rintro C F D bj ⟨g,Q,rfl,rfl,rfl,hz,s⟩ ax;refine s.cO (i:=1) B (λa2=>?_) (λe T bk a3 s=>?_)
  .have hp:=(s.it (i:=1) B).all a2
   have o:=s.sl (i:=0) B;obtain⟨K,r,q2⟩:=HH (λa=>(HZ a,Mx a)) (l:=g.map λe:Ap=>(e.key,e.val)) (m:=l) (by rw[←aa];exact hp.map _);have al:K.length=g.length:=by have:=Cs HD r;simpa using this.symm
   have a4:g.flatMap ZQ=K.flatMap BV:=by
    rw[(by rw[UM];rfl:g.flatMap ZQ=(g.map λe:Ap=>(e.key,e.val)).flatMap λp=>(AJ p.1).take 4++AJ p.2),r,UM];rfl
   rw[a4,←al] at o;obtain⟨p1,p2⟩:=Wb cmE q2 ag;have bl:K.length=l.length:=q2.length_eq;refine⟨_,(QS cmE (Cr:=BV) (k:=5) (d:=3) aw Kq Kq (λ_=>⟨B,B⟩) o B G p2 (λx _ y _=>ACb af) d G).any,?_⟩;rintro _ am ⟨rfl,a5,a6⟩;have an:AA b am:=s.e.then a6 λi U=>o.ai i U
   have ao:(H0 Xd l).length=K.length:=by rw[←p1];exact(DO K).length_eq
   refine⟨?_,?_⟩
   .rw[←W] at an;exact an.ag
   .rw[←(by rw[←W];rfl:b.nx=h.nx)]
    exact Y7 (Cr:=BV) (xs:=H0 Xd l) (λ_=>⟨B,B⟩) (by rw[ao,←p1];exact a5) λh0=>hz (BO (by rw[←al,←ao,h0];rfl))
  .obtain⟨m,hm,ap⟩:=List.mem_map.1 (show(e.key,e.val)∈l.map _ from aa▸Gn T)
   have ab:e.key=HZ m:=(Cs Eh ap).symm;have ad:e.val=Mx m:=(Cs Amy ap).symm;have bm:g.length<u.length:=by
    have:=(s.it (i:=1) B).len;rw[Aj,Br] at this;omega
   have aq:=QO (s.it (i:=1) B);rw[ab,ad] at aq;rw[ab,ad];obtain⟨bn,a7,bo,a8,a9⟩:=s.var (t:=114) (z:=.agg #[.string ⟨#[]⟩,.string ⟨#[]⟩,Vi 0,Vi 0,Vi 0]) Kq (v:=HZ m) B B B;obtain⟨ba,bb,ae⟩:=a9.st (t:=3) B (i:=0) B (j:=4) (v:=Vi m.c) (by show 4<5;decide) B;obtain⟨bc,am,t38,bd⟩:=ae.ba (st:=24) (t2:=24) (e:=114) (k:=5) Kq (i:=1) B (ys:=BV m) B B ae.e.nx G (n':=(g++[e]).length) (xs':=(g++[e]).flatMap ZQ) (by simp) (by rw[E0,List.flatMap_singleton,(by unfold ZQ;rw[ab,ad];rfl:ZQ e=BV m)]);exact⟨_,_,Cs (CN _) aq,_,_,a7 _,_,a8,_,bb,_,EQ (k:=5) Kq ((ae.dD (i:=0) B).cells:BK ba a3.nx 0 (BV m)) B,_,_,Iv (τ:=Ax) (t:=24) (e:=114) (k:=5) Kq (.agg ⟨BV m⟩) B B (by decide) _,_,_,t38,_,_,Sq,(by rw[Aj,Br];omega:u.length-(g++[e]).length<_),g++[e],bc,B,B,B,λh=>Cf h (by simp),bd.drop 1⟩
section
variable{P:AN} {τ:Bb} {w:AM}
def JU:AH->Nat->T Aa->T Aa
 |[],_,t=>t
 |v::l,i,t=>JU l (i+1) (bif plainCell v then t.ins i v else t)
def SY:∀(l:AH) (i j:Nat) (t:T Aa),j<i->(JU l i t).get j=t.get j
 |[],_,_,_,_=>rfl
 |
  v::l,i,j,t,h=>by
  rw[JU,SY l (i+1) j _ (by omega)];cases plainCell v with
  |false=>rfl
  |true=>rw[D1,T.dA,Bm (by omega)]
def SN:∀(l:AH) (i k:Nat) (t:T Aa) {v:Aa},l[k]?=I v->plainCell v=Ag->(JU l i t).get (i+k)=I v
 |[],_,_,_,_,h,_=>by cases h
 |
  x::l,i,0,t,v,h,a=>by
  have e:x=v:=by simpa using h
  subst e;show(JU l (i+1) _).get i=_;rw[SY l (i+1) i _ (by omega),a,D1,T.dA,Bi B]
 |
  x::l,i,k+1,t,v,h,a=>by
  rw[JU,show i+(k+1)=i+1+k by omega];exact SN l (i+1) k _ (by simpa using h) a
def SR:∀(l:AH) (i j:Nat) (t:T Aa) {v:Aa},(JU l i t).get j=I v->(∃k,j=i+k/\l[k]?=I v/\plainCell v=Ag)\/t.get j=I v
 |[],_,_,_,_,h=>.inr h
 |
  x::l,i,j,t,v,h=>by
  rw[JU] at h;rcases SR l (i+1) j _ h with⟨k,rfl,h1,b⟩|h
  .exact .inl ⟨k+1,by omega,by simpa using h1,b⟩
  .cases a:plainCell x with
   |false=>rw[a] at h;exact .inr h
   |
    true=>
    rw[a,D1,T.dA] at h;by_cases e:j=i
    .rw[Bi e] at h
     exact .inl ⟨0,e,by simpa using h,by rw[←Option.some.inj h];exact a⟩
    .rw[Bm e] at h;exact .inr h
def Ajy:Obj->HB
 |.cells C e a=>.cells (JU C.toList 0 .nil) C.size e 0 (a.2+1) Ah
 |_=>.dead
def TF:List (Nat×CB)->T HB->T HB
 |[],t=>t
 |(g,b)::l,t=>(TF l t).ins g b.oB
def Q1:∀(l:List (Nat×CB)) (t:T HB) {i:Nat} {hb:HB},(TF l t).get i=I hb->(∃b,(i,b)∈l/\hb=b.oB)\/t.get i=I hb
 |[],_,_,_,h=>.inr h
 |
  (g,b)::l,t,i,hb,h=>by
  rw[TF,T.dA] at h;split at h
  .rename_i e;subst e;cases h;exact .inl ⟨b,Av,rfl⟩
  .rcases Q1 l t h with⟨a,h1,c⟩|h
   .exact .inl ⟨a,Az _ h1,c⟩
   .exact .inr h
def Wc:∀(l:List (Nat×CB)) (t:T HB) {i:Nat} {b:CB},(i,b)∈l->∃a,(i,a)∈l/\(TF l t).get i=I a.oB
 |
  (g,b0)::l,t,i,b,h=>by
  by_cases e:i=g
  .subst e;exact⟨b0,Av,by rw[TF,T.dA,Bi B]⟩
  .rcases List.mem_cons.1 h with h|h
   .cases h;exact Cf B e
   .obtain⟨a,h1,c⟩:=Wc l t h
    exact⟨a,Az _ h1,by rw[TF,T.dA,Bm e];exact c⟩
def GB (a:List (Nat×CB)) (w:AM):Y:=⟨TF a (T.laid (w.heap.toList.map Ajy) 0 .nil),w.heap.size,.no⟩
def OV {i:Nat}:(T.laid (w.heap.toList.map Ajy) 0 .nil).get i=(w.heap[i]?).map Ajy:=by
 rw[T.an,A4,EZ];by_cases h:i<w.heap.size
 .rw[Bi (by omega),DL,AX,Is]
 .rw[Bm (by omega),T.get_nil,Dr (by omega)];rfl
def Pn {a:List (Nat×CB)} (c:H9 P w a) {g:Nat} {b:CB} (d:(g,b)∈a):(GB a w).t.get g=I b.oB:=by
 obtain⟨j,h1,h⟩:=Wc a (T.laid (w.heap.toList.map Ajy) 0 .nil) d;obtain⟨vs,e,rfl,_,i⟩:=Io c d;obtain⟨k,l,rfl,_,f⟩:=Io c h1;rw[i] at f;cases f;exact h
def Abp {n:List (Nat×CB)} (q:H9 P w n) (r:τ.ng<=w.heap.size):C5 P τ (Jr w.heap.size) (GB n w) w:=by
 refine⟨⟨λid o=>?_,λid pl hb e s=>?_,λid pl e=>?_,λi j D E U c d F H t=>?_,λg f=>?_⟩,r⟩
 .have o:w.heap.size<=id:=o
  simp only[Jr];rw[Bm (by omega)]
 .simp only[Jr] at e
  split at e
  case isFalse=>cases e
  rename_i f;cases e;rcases Q1 _ _ s with⟨b,u,rfl⟩|h
  .obtain⟨vs,e,rfl,x,y⟩:=Io q u
   have z:LR (Jr w.heap.size) vs vs:=LR.ak x;refine⟨⟨vs⟩,(0,0),y,by simp,λi U=>by simp,λi v a=>?_,.inl B,λ_=>⟨B,by simp⟩⟩;rw[Ev.T.an] at a;by_cases p:0<=i/\i<0+vs.length
   .rw[Bi p] at a
    simp only[DL] at a;obtain⟨v',h1,l⟩:=z.get a;exact⟨by omega,v',by simpa using h1,l⟩
   .rw[Bm p,Ev.T.get_nil] at a;cases a
  .rw[OV,By f] at h
   cases h;cases A:w.heap[id] with
   |
    cells C e m=>
    refine⟨C,m,by rw[By f,A],by show 0+C.size<=_;omega,λi U=>by show 0+C.size+0*i.size<=_;omega,λi v a=>?_,.inr (.inr ⟨Al _,.inr (Nat.succ_pos _),by show m.2<=0+(m.2+1);omega⟩),λh=>by cases h⟩;rcases SR _ _ _ _ a with⟨k,rfl,h1,l⟩|h
    .rw[Is] at h1
     rw[Ba] at a⊢;exact⟨(Array.getElem?_eq_some_iff.1 h1).1,v,by rw[show(⟨id,0,0⟩:Pl).o+k=k from Ba k];exact h1,VR.av l⟩
    .rw[T.get_nil] at h;cases h
   |_=>trivial
 .simp only[Jr] at e
  split at e
  case isFalse=>cases e
  cases e
  assumption
 .simp only[Jr] at c d
  split at c
  case isFalse=>cases c
  split at d
  case isFalse=>cases d
  cases c;cases d;simp only at t;omega
 .simp only[Jr];rw[Bi (by omega)]
def Ur {a:List (Nat×CB)} (n:H9 P w a) {b:Nat} (D:∃x,w.shape? b=I x):
 b<(GB a w).nx/\∃c m e lo U x,(GB a w).t.get b=I (.cells c m e lo U x)/\∀(k:Nat) (u:Aa),w.cell? ⟨b,k,Z⟩=I u->plainCell u=Ag->c.get k=I u:=by
 obtain⟨x,d⟩:=D;unfold Jd at d;cases hb:w.heap[b]? with
 |none=>rw[hb] at d;cases d
 |
  some o=>
  have E:=(Array.getElem?_eq_some_iff.1 hb).1;refine⟨E,?_⟩;rw[hb] at d;cases o with
  |
   cells C e H=>
   have q:∀{k:Nat} {u:Aa},w.cell? ⟨b,k,Z⟩=I u->C[k]?=I u:=λ{k u} h=>by
    unfold WX at h;simp only[hb] at h;exact h
   obtain⟨r,i⟩:∃r,(GB a w).t.get b=I r:=by
    by_cases g:∃y,(b,y)∈a
    .obtain⟨y,f⟩:=g;exact⟨_,Pn n f⟩
    .have Cw:∀(l:List (Nat×CB)) (t:T HB),(∀y,(b,y)∉l)->(TF l t).get b=t.get b:=by
      intro l t
      induction l with
      |nil=>intro _;rfl
      |
       cons p l F=>
       intro s;rw[TF,T.dA,Bm λe=>s p.2 (by rw[e];exact Av)];exact F λy f=>s y (Az _ f)
     exact⟨_,(Cw a _ λy f=>g ⟨y,f⟩).trans (by rw[OV,hb];rfl)⟩
   rcases Q1 _ _ i with⟨y,g,rfl⟩|h
   .obtain⟨vs,K,rfl,_,z⟩:=Io n g
    rw[hb] at z;cases z;refine⟨_,_,_,_,_,_,i,λk u j A=>?_⟩;have h1:=q j;rw[Db] at h1;have L:=(List.getElem?_eq_some_iff.1 h1).1;rw[T.an,Bi (by omega),DL];exact h1
   .rw[OV,hb] at h
    cases h;refine⟨_,_,_,_,_,_,i,λk u j A=>?_⟩;have h1:=SN C.toList 0 k .nil (v:=u) (by rw[Is];exact q j) A;rw[Ba] at h1;exact h1
  |_=>cases d
def Aad {b:List (Nat×CB)} (g:H9 P w b) {a:BD} {n c k:Nat} {xs:AH} (j:∃x,w.shape? a.block=I x) (l:xs.length=n*k) (o:n<=c) (d:∀i u,xs[i]?=I u->w.cell? ⟨a.block,a.off+i,Z⟩=I u/\plainCell u=Ag):
 Rd (GB b w) (.slice (I a) n c) k n xs:=by
 obtain⟨h1,p,m,e,lo,U,x,q,r⟩:=Ur g j;refine⟨l,I a,c,B,o,(λh=>by cases h),λa' s=>?_⟩;cases s;exact⟨h1,p,m,e,lo,U,x,q,λi u f=>r _ u (d i u f).1 (d i u f).2⟩
def Abf {a:BD} {n c:Nat} (d:a.spot=Z) (hb:a.block<w.heap.size):VR (Jr w.heap.size) (.slice (I a) n c) (.slice (I a) n c):=by
 obtain⟨b,off,sp⟩:=a;have d:sp=none:=d;subst d;exact VR.slice (ρ:=Jr w.heap.size) (id:=b) (off:=off) (sp:=Z) (len:=n) (cap:=c) (pl:=⟨b,0,0⟩) (o':=off) (by unfold Jr;rw[Bi hb]) λ_=>(Ba off).symm
open Classical in
def Yy (h:Y):Aa->Y->RR:=λv' J=>if v'=.bool Ag/\J.lo.ag h.nx=Ag then I [.flat 0 []] else Z
def Abx {l:Be} (p:C8 P τ l) {f:Au} {fn:BC} {cd:DC} {args a:AH} {h:Y} {ρ:Ren} (m:C5 P τ ρ h w) (q:LR ρ args a) (c:CdA l (.func f) args h.ad λv J=>AA h.ad J/\v=.bool Ag)
 (r:P.funcs[f]?=I fn) (s:(fn.name== "runtime.NumGoroutine")=Ah) (hb:fn.body=I cd):CallsIn Fence.wide 0 P f ⟨a⟩ w λe w'=>e=.returned (.bool Ag)/\QR w w':=by
 obtain⟨t,u,_,_⟩:=c (Yy h) (λ_ _=>Z) (λ_=>True) λv J n=>by
  unfold Yy;rw[Bi ⟨n.2,n.1.ag⟩];exact⟨_,B,by simp,λ_ _=>trivial⟩
 have h1:Hk P (callFunc f ⟨a⟩) w (Ho P τ ρ w h.ad (Yy h) (λ_ _=>Z) t):=p (.func f) (.func f) args a h.ad _ _ _ ρ w m (.func f) q u;have x:(callFunc f ⟨a⟩).run P w=.ok (.enter f ⟨a⟩) w:=Go.Proofs.enters_of r s hb _ _;unfold Hk at h1;rw[x] at h1;refine CallsIn.mono h1 λy w' j=>?_;cases y with
 |outgrown=>exact j.elim
 |panicked M=>obtain⟨_,_,_,_,_,_,_,_,_,hb,_⟩:=j;cases hb
 |
  returned v'=>
  obtain⟨N,O,h1,Q,z,R,A,k,S⟩:=j;unfold Yy at k;split at k
  case isFalse=>cases k
  rename_i d;obtain⟨rfl,C⟩:=d;have g:=A.br;have D:∀i pl',h1.lo.has i->ρ i=I pl'->False:=λi pl' E o=>by
   rcases A8 i h.nx with d|d
   .exact GO C d E
   .rw[m.1.fresh i d] at o;cases o
  cases z;exact⟨B,g.size,λb hb=>g.ae b hb λF H K L=>(D F H K L).elim,g.os,g.out,g.tape⟩
end
abbrev Ovs:=List (Nat×(Be->AH->Y->Jl))
def Xj (a:Ovs) (b:List (Nat×Nat)):A9:={
 ov:=λf=>Mv f (a++[(137,IA Ax 93),(167,IA Ax 114)])
 nd:=λf=>Mv f b
 dv:=λf=>Mv f [(257,λ_ h=>I h),(258,λ_ h=>I h)]
 hk:=λf=>Mv f [(161,Adc 4 (HG 5 64 65 1))]
 rc:=λf=>Mv f [(257,rcF f257),(258,rcF f258)]}
def TW {f e:Nat} (s:TJ prog Ax f e):MO prog Ax f (IA Ax e):=by
 obtain⟨n,h1,rfl,a,b,c⟩:=s;exact⟨λo d args p h J v ρ w g i j k kp l m=>Ami Fi h1 a b c d g i j k kp l m⟩
def Ug {m:Ovs} {q:List (Nat×Nat)} (r:∀p∈m,MO prog Ax p.1 p.2):JX prog Ax (Xj m q):={
 ov:=λf g b=>by
  rcases List.mem_append.1 (JH b:(f,g)∈m++_) with h|_|⟨_,_|⟨_,h⟩⟩
  .exact(r _ h).go
  .exact(TW Aob).go
  .exact(TW Ayd).go
  .cases h
 dv:=Alh Fi λf g b=>by
  rcases(JH b:(f,g)∈_) with _|⟨_,_|⟨_,h⟩⟩
  .exact⟨Ayv,B⟩
  .exact⟨Axj,B⟩
  .cases h
 rc:=λf g b=>by
  rcases(JH b:(f,g)∈_) with _|⟨_,_|⟨_,h⟩⟩
  .have a:Ax.fn.get 257=I f257:=Kq
   exact λargs l v v' h J ρ w hk d n j=>Aft Fi a B B Jq (IT codeOk (Fi.fn _ _ a).1 rfl).2 args l v v' h J ρ w hk d n j
  .have a:Ax.fn.get 258=I f258:=Kq
   exact λargs l v v' h J ρ w hk d n j=>Aft Fi a B B Jq (IT codeOk (Fi.fn _ _ a).1 rfl).2 args l v v' h J ρ w hk d n j
  .cases h
 ex:=λf e s args l h J v ρ w hk d j=>Afc Fi (Avb f e s) hk d j
 cr:=λf fn c a hb=>IT codeOk (Fi.fn _ _ a).1 hb
 hk:=λf g b fn c a hb i x t k u=>by
  rcases(JH b:(f,g)∈_) with _|⟨_,h⟩
  .unfold Adc at k
   cases o:Am i 4 with
   |false=>rw[o] at k;cases k
   |
    true=>
    rw[o] at k;cases k;obtain rfl:=Af o;exact Ayj Fi func161 Ayh fn c t a hb u
  .cases h}
def Aol {c:Ovs} {d:List (Nat×Nat)} {L:Nat} (g:(c++[(137,IA Ax 93),(167,IA Ax 114)]).all (λp=>Nf.contains p.1)=Ag) (h:d.all (λp=>Nf.contains p.1)=Ag) (i:1125899906842624<=L):Base (Xj c d) L:=
 ⟨λf b=>⟨Kf λp a e=>(by have:=List.all_eq_true.1 g p a;rw[e,b] at this;cases this),
  Kf λp a e=>(by have:=List.all_eq_true.1 h p a;rw[e,b] at this;cases this),
  Kf λp a e=>by
   obtain rfl:=List.mem_singleton.1 a;rw[←e] at b;cases b⟩,i⟩
def Aec (n:Nat):C8 prog Ax (B8 Ax (Xj [] []) 1125899906842624 n):=JL Fi (Ug λ_ h=>by cases h) (Va Fi _) (λ_ a=>J6 Fi a) _ n
def Aeo:Base (Xj [] []) 1125899906842624:=Aol B B (Ae _)
def Awl:Apl (Xj [] []):=⟨B,B,B,B⟩
def Alo:MO prog Ax 113 QB:=⟨λf g args j h J v ρ w a b c k kp l d=>by
 obtain⟨rfl,u,i,bs,rfl,hb,rfl⟩:=Air c;obtain⟨n,r,e⟩:=RC hb;exact Agf (Aec 5) (Azh Aeo Awl ⟨B,B,B⟩ (show Rd (Y.ad _) _ _ _ _ from r) e) (Ae _) (Yo bs i) a b d⟩
def Alm:MO prog Ax 114 Ph:=⟨λf g args j h J v ρ w a b c k kp l d=>by
 obtain⟨rfl,u,i,bs,rfl,hb,rfl⟩:=Agz c;obtain⟨n,r,e⟩:=RC hb;exact Agf (Aec 5) (Axc Aeo Awl ⟨B,B,B⟩ (show Rd (Y.ad _) _ _ _ _ from r) e) (Ae _) (Yp bs i) a b d⟩
def Ahg:MO prog Ax 173 Oz:=⟨λl m args n h J v ρ w c d e k kp g i=>by
 obtain⟨a,h1,j,b⟩:∃a:Go.Shelf.Ren,Lays.n190 prog a/\a.f 190=173/\EV Ax 173=true:=⟨_,b7,B,Kq⟩;rw[←j] at b⊢;exact Aii Fi h1 b c d e k kp g i⟩
def Lk:Be->AH->Y->Jl:=λ_ _ _=>Z
def Zbt:E2:=⟨[],[],[],.map (I 10),[.map Hp 87]⟩
def ST (s:Bd) (v:Aa):E2:=⟨[(0,Ft),(1,Fu)],[.string s],[],v,[]⟩
def Zc8 {a:Be} {f:Au} {s:Bd} {v:Aa} {J:Y} (b:C8 prog Ax a) (x:AA Nm J) (e:∀k kp,a (.func f) [.string s] Nm k kp=k v J) (c:∀m,K9 m 6 v v=Ag):JZ prog Ax f (ST s v):=by
 refine Tm b (o:=[.val v J]) (e _ _) λv g d=>⟨[],?_⟩;cases List.mem_singleton.1 d;have q:J.lo.ag (Ax.ng+0)=true:=x.lo _ (Ae _) rfl;show(J.lo.ag (Ax.ng+0)&&Ag&&Ag&&K9 _ 6 v v&&Ag)=Ag;rw[q,c];rfl
def Zc9 {s:Bd} {v:Aa} {h:Y} (U:Ce h) (a:∀m,Qs m 6 v=I v):QG Ax (ST s v) [.string s] h=I (v,h):=by
 have e:QG Ax (ST s v) [.string s] h=(bif Ag&&(Gp s.data.toList s.data.toList&&Ag)&&Ag&&(AD 0 Ax.ng&&Hv (De Ax.ng []) Ft (h.t.get 0)&&(AD 1 Ax.ng&&Hv (De Ax.ng []) Fu (h.t.get 1)&&Ag)) then (match Qs (XC (Ax.ng+0) 0 (De Ax.ng []) h.nx) 6 v,I ([]:List CB) with|some v,I bs=>I (v,⟨Nj bs h.nx h.t,h.nx+0,h.lo⟩)|_,_=>Z) else Z):=rfl
 rw[e,U.1,U.2.1,CJ.2 rfl,a];have Cw:(Ag&&(Ag&&Ag)&&Ag&&(AD 0 Ax.ng&&Hv (De Ax.ng []) Ft (I Ft.oB)&&(AD 1 Ax.ng&&Hv (De Ax.ng []) Fu (I Fu.oB)&&Ag)))=true:=by kernel_rfl
 rw[Cw];cases h;rfl
open Classical in
def Zc4 (p:Bd->Prop) (F:Bd->Aa):Be->AH->Y->Jl:=λ_ args h=>match args with
 |[.string s]=>if p s then QG Ax (ST s (F s)) args h else Z
 |_=>Z
def Zc6 {p:Bd->Prop} {F:Bd->Aa} {f:Au} (H:∀s,p s->JZ prog Ax f (ST s (F s))):MO prog Ax f (Zc4 p F):=⟨λe j args c h J v ρ w g i a k kp b d=>by
 unfold Zc4 at a;split at a
 ·split at a
  ·exact Agr (H _ ‹_›) g i a k kp b d
  ·cases a
 ·cases a⟩
open Classical in
def Zc5 {S:A9} {L:Nat} {f:Au} {p:Bd->Prop} {F:Bd->Aa} {s:Bd} (e:S.ov f=I (Zc4 p F)) (b:p s) (U:Ce h) (c:∀m,Qs m 6 (F s)=I (F s)):Bk S L 1 f [.string s] h λw g=>AA h g/\w=F s:=by
 refine Lm e (λa=>?_) ⟨AA.refl h,rfl⟩;show(if p s then QG Ax (ST s (F s)) [.string s] h else Z)=_
 rw[if_pos b];exact Zc9 U c
def Zda:JX prog Ax Zc3:={
 ov:=λf g a=>by cases a
 dv:=Alh Fi λf g a=>by cases a
 rc:=λf g a=>by cases a
 ex:=λf e i args b h J v ρ w d j k=>Afc Fi (Avb f e i) d j k
 cr:=λf fn c l m=>IT codeOk (Fi.fn _ _ l).1 m
 hk:=λf g a=>by cases a}
open Classical in
def Zdd {s:Bd} (a:s.size<=100000000):JZ prog Ax 139 (ST s (.bool (FH s))):=by
 obtain⟨w,J,⟨x,b,rfl⟩,e⟩:=ACv (S:=Zc3) (L:=1125899906842624) (h:=Nm) ⟨λ_ _=>⟨rfl,rfl,rfl⟩,Ae _⟩ (λ_ _ _=>rfl) ⟨rfl,rfl⟩ ⟨Kq,Kq,Ac Kq⟩ a 2 (Ae _);have c:FH s=b:=by
  unfold FH;cases b with
  |true=>exact decide_eq_true ⟨J,x,e⟩
  |
   false=>
   refine decide_eq_false λ⟨f,_,e2⟩=>?_;have:=(e (λv h=>I [.val v h]) (λ_ _=>Z)).symm.trans (e2 _ _);cases this
 rw[c];exact Zc8 (JL Fi Zda (Va Fi _) (λ_ d=>J6 Fi d) _ 2) x e λ_=>by cases b<;>rfl
def Zdc:Be->AH->Y->Jl:=Zc4 (λs=>s.size<=100000000) λs=>.bool (FH s)
abbrev smW (g9:Be->AH->Y->Jl) (kk:Nat->Be->AH->Y->Jl) (sp:Be->AH->Y->Jl):A9:=Xj [(9,g9),(113,QB),(114,Ph),(173,Oz),(317,IA Ax 298),(139,Zdc),(26,sp),(27,kk 27),(42,kk 42),(43,kk 43),(44,kk 44),(78,Vh Ax [Zbt])] [(15,9),(86,114),(252,298)]
section
variable{g9:Be->AH->Y->Jl}
def Afl {kk:Nat->Be->AH->Y->Jl} {sp:Be->AH->Y->Jl} (H:MO prog Ax 9 g9) (HS:MO prog Ax 26 sp) (HK:∀i,MO prog Ax i (kk i)) (a:MO prog Ax 78 (Vh Ax [Zbt])):JX prog Ax (smW g9 kk sp):=Ug λp b=>by
 rcases b with _|⟨_,_|⟨_,_|⟨_,_|⟨_,_|⟨_,_|⟨_,_|⟨_,_|⟨_,_|⟨_,_|⟨_,_|⟨_,_|⟨_,b⟩⟩⟩⟩⟩⟩⟩⟩⟩⟩⟩⟩
 ·exact H
 ·exact Alo
 ·exact Alm
 ·exact Ahg
 ·exact TW Axm
 ·exact Zc6 λ_=>Zdd
 ·exact HS
 ·exact HK _
 ·exact HK _
 ·exact HK _
 ·exact HK _
 ·exact a
 ·cases b
def Aet {kk:Nat->Be->AH->Y->Jl} {sp:Be->AH->Y->Jl} {L:Nat} (c:1125899906842624<=L):Sy (smW g9 kk sp) L:=
 have a:Base (smW g9 kk sp) L:=Aol B B c
 {plain:=a.plain,aI:=a.aI,uint:=rfl,text:=rfl
  cy:=λhb M hl=>ABp a B B B B hb M hl
  b7:=λo b=>Azm B o b
  cc:=λo b d=>c96 a o b d
  valid:=λe f n b=>Zc5 (p:=λs=>s.size<=100000000) (F:=λs=>.bool (FH s)) rfl f e (λ_=>rfl) n G
  cw:=λg b=>(c86 a B B B B g b).mono λw J ⟨x,C3,o,hl,h⟩=>Jq
  cB:=rfl}
def Axo {kk:Nat->Be->AH->Y->Jl} {sp:Be->AH->Y->Jl}:MD (smW g9 kk sp):=⟨rfl,rfl,rfl⟩
def Za5 {kk:Nat->Be->AH->Y->Jl} {sp:Be->AH->Y->Jl} {L:Nat} {h:Y}:Zab (smW g9 kk sp) L h:=λ{J} _=>Lm (g:=Vh Ax [Zbt]) rfl (λa=>by kernel_rfl) ⟨rfl,rfl⟩
def RZ {f:Au}:MO prog Ax f Lk:=⟨λ_ _ _ _ _ _ _ _ _ _ _ a=>by cases a⟩
end
def Ayi (o:Ovs):Be:=QJ Ax (Xj o [(86,114)]) 1000000 200
abbrev Mk:=JZ prog Ax
def E6:∀p∈([]:Ovs),MO prog Ax p.1 p.2:=λ_ h=>by cases h
def Agk {f:Au} {g:Be->AH->Y->Jl} {o:Ovs} (h:MO prog Ax f g) (b:∀p∈o,MO prog Ax p.1 p.2):∀p∈(f,g)::o,MO prog Ax p.1 p.2:=λp a=>by
 cases a with
 |head=>exact h
 |tail _ a=>exact b p a
def EB {f:Au} {l:List E2} {o:Ovs} (h:∀M∈l,Mk f M) (a:∀p∈o,MO prog Ax p.1 p.2):∀p∈(f,Vh Ax l)::o,MO prog Ax p.1 p.2:=Agk (QY h) a
def K4 {o:Ovs} {f:Au} {M:E2} (a:∀p∈o,MO prog Ax p.1 p.2) (b:Ue Ax (Ayi o) f M=true:=by kernel_rfl):Mk f M:=Ahy (Akn Fi (Ug a) _ _) b
def Zbd:MO prog Ax 78 (Vh Ax [Zbt]):=QY (ES (K4 E6) Ht)
end
def gW:Be->AH->Y->Jl:=Vh Ax [m35]
def Ya {h:Y} (a:h.t.get 0=I Ft.oB) (b:h.t.get 1=I Fu.oB) (c:h.t.get 5=I Hu.oB):QG Ax m35 [] h=I (.bool Ag,h):=by
 have e:QG Ax m35 [] h=(bif Ag&&Ag&&Ag&&(AD 0 Ax.ng&&Hv (De Ax.ng []) Ft (h.t.get 0)&&(AD 1 Ax.ng&&Hv (De Ax.ng []) Fu (h.t.get 1)&&(AD 5 Ax.ng&&Hv (De Ax.ng []) Hu (h.t.get 5)&&Ag))) then I (.bool Ag,⟨h.t,h.nx+0,h.lo⟩) else Z):=rfl
 rw[e,a,b,c];have Cw:(Ag&&Ag&&Ag&&(AD 0 Ax.ng&&Hv (De Ax.ng []) Ft (I Ft.oB)&&(AD 1 Ax.ng&&Hv (De Ax.ng []) Fu (I Fu.oB)&&(AD 5 Ax.ng&&Hv (De Ax.ng []) Hu (I Hu.oB)&&Ag))))=true:=by kernel_rfl
 rw[Cw];cases h;rfl
def Abo {L:Nat} {h0 h:Y} {kk:Nat->Be->AH->Y->Jl} {sp:Be->AH->Y->Jl} (b:h0.t.get 0=I Ft.oB) (c:h0.t.get 1=I Fu.oB) (d:h0.t.get 5=I Hu.oB) (e:10<=h0.nx) (x:AA h0 h):Bk (smW gW kk sp) L 1 9 [] h λv J=>AA h J/\v=.bool true:=
 Lm (g:=gW) rfl (λa=>by
  show(match QG Ax m35 [] h with|some r=>I r|none=>Z)=I (.bool Ag,h)
  rw[Ya ((x.t 0 G).trans b) ((x.t 1 G).trans c) ((x.t 5 G).trans d)]) ⟨AA.refl h,rfl⟩
def Aeu:BZ:=[⟨⟨[227,128,135]⟩⟩,⟨⟨[228,184,128]⟩⟩,⟨⟨[228,186,140]⟩⟩,⟨⟨[228,184,137]⟩⟩,⟨⟨[229,155,155]⟩⟩,⟨⟨[228,186,148]⟩⟩,⟨⟨[229,133,173]⟩⟩,⟨⟨[228,184,131]⟩⟩,⟨⟨[229,133,171]⟩⟩,⟨⟨[228,185,157]⟩⟩,⟨⟨[]⟩⟩,⟨⟨[229,141,129]⟩⟩,⟨⟨[231,153,190]⟩⟩,⟨⟨[229,141,131]⟩⟩]
def Zh:BZ:=[⟨⟨[233,155,182]⟩⟩,⟨⟨[229,163,177]⟩⟩,⟨⟨[229,188,144]⟩⟩,⟨⟨[229,143,130]⟩⟩,⟨⟨[229,155,155]⟩⟩,⟨⟨[228,186,148]⟩⟩,⟨⟨[229,133,173]⟩⟩,⟨⟨[228,184,131]⟩⟩,⟨⟨[229,133,171]⟩⟩,⟨⟨[228,185,157]⟩⟩,⟨⟨[]⟩⟩,⟨⟨[230,139,190]⟩⟩,⟨⟨[231,153,190]⟩⟩,⟨⟨[229,141,131]⟩⟩]
def Zn:BZ:=[⟨⟨[]⟩⟩,⟨⟨[228,184,135]⟩⟩,⟨⟨[229,132,132]⟩⟩,⟨⟨[229,133,134]⟩⟩,⟨⟨[228,186,172]⟩⟩]
def Ady:CB:=.cells (Qu Aeu Ah) 342 0 0 Ag
def Aej:CB:=.cells (Qu Zh Ag) 342 0 0 Ag
def Aek:CB:=.cells (AR Zn) 397 0 0 Ag
def Aeb:CB:=.cells ((BG 20).map λi=>.int .u64 ((10^i:Nat):Int)) 445 0 0 Ag
def W5:List (Nat×CB):=[(0,Ft),(1,Fu),(2,Ady),(3,Aej),(4,Aek),(5,Hu),(7,Aeb)]
def Abh:(match Hu with|.cells l _ _ _ _=>Am l.length 16&&l.all (λv=>match v with|.int .u32 (.ofNat x)=>AD x 4294967296|_=>Ah)|_=>Ah)=true:=by kernel_rfl
section
variable{h:Y}
def Y5 (a:h.t.get 0=I Ft.oB) (b:h.t.get 1=I Fu.oB) (c:10<=h.nx):Ce h:=⟨a,b,G⟩
def Auh (a:h.t.get 7=I Aeb.oB) (hn:10<=h.nx):Jx h:=λi U=>OU a (by omega) (by
 rw[AX,Jj (by omega)];rfl)
def Auc (b:h.t.get 2=I Ady.oB) (c:h.t.get 3=I Aej.oB) (d:h.t.get 4=I Aek.oB) (hn:10<=h.nx):Mo h:=by
 have sz:∀l:BZ,l.all (λs=>Ar s.size 100)=Ag->∀s∈l,s.size<=100:=λl e s f=>Ac (List.all_eq_true.1 e s f);exact⟨⟨Aeu,Ah,B,sz _ (by kernel_rfl),Kg b (by omega) λi v a=>by rw[Ba];exact a⟩,
  ⟨Zh,Ag,B,sz _ (by kernel_rfl),Kg c (by omega) λi v a=>by rw[Ba];exact a⟩,
  Zn,B,sz _ (by kernel_rfl),Kg d (by omega) λi v a=>by rw[Ba];exact a⟩
def Ahu (b:h.t.get 5=I Hu.oB) (hn:10<=h.nx):G3 h:=by
 have Cw:=Abh;obtain⟨l,e,c⟩:∃l e,Hu=.cells l e 0 0 true:=⟨_,_,B⟩;rw[c] at Cw b;simp only[An] at Cw;have f:=Af Cw.1;intro i U;have a:=List.all_eq_true.1 Cw.2 l[i] (Bu _);split at a
 .rename_i x d
  exact⟨x,by simpa[AK] using a,OU b (by omega) (by rw[Ab (by omega),d];rfl)⟩
 .cases a
end
def Ajw:List AH->Option (List BI)
 |[]=>I []
 |[.int .i64 a,.int .i64 b,.string s,.int .i64 c,.int .i64 d,.int .i64 e,.int .i64 g]::l=>(match Ajw l with|some r=>I (⟨a,b,s,c,d,e,g⟩::r)|none=>Z)
 |_=>Z
def Alv:∀{l:List AH} {a:List BI},Ajw l=I a->l=a.map Bt:=by
 intro l
 induction l with
 |nil=>intro a h;cases h;rfl
 |
  cons x l b=>
  intro a h;unfold Ajw at h;split at h
  .rename_i e;cases e
  .rename_i e
   cases e;split at h
   .rename_i r c
    cases h;rw[b c];rfl
   .cases h
  .cases h
def Avo (_:Be) (f:AH) (h:Y):Jl:=match f with
 |
  [.slice (I ⟨id,0,Z⟩) len _,.func (.func g) ⟨[]⟩ ⟨[]⟩]=>(match h.t.get id with
  |
   some (.cells c N e 0 0 x)=>(match HF 7 c 0 len with
   |
    some i=>(match Ajw i with
    |some d=>bif Am g 138&&Am e 93&&AD 0 len&&Ar len 1000000&&Ar (len*7) N&&decide (d.Pairwise λa b=>Ty a b≠0) then
     I (.tuple #[],h.put id (.cells (T.laid ((H0 Ty d).map Bt).flatten 0 c) N 93 0 0 x)) else Z
    |none=>Z)
   |none=>Z)
  |_=>Z)
 |_=>Z
def Amc:MO prog Ax 137 Avo:=⟨λ_ _ k l h J v ρ w m f d=>by
 refine(TW Aob).go _ (Aec 5) k l h J v ρ w m f ?_;unfold Avo at d;split at d
 case h_2=>cases d
 rename_i id len z g;split at d
 case h_2=>cases d
 rename_i c N e x o;split at d
 case h_2=>cases d
 rename_i A j;split at d
 case h_2=>cases d
 rename_i C p;replace d:=C1 d;obtain⟨hb,d⟩:=d;obtain⟨hb,q⟩:=Dh hb;obtain⟨hb,r⟩:=Dh hb;obtain⟨hb,s⟩:=Dh hb;obtain⟨hb,t⟩:=Dh hb;obtain⟨u,y⟩:=Dh hb;obtain rfl:=Af u;obtain rfl:=Af y;cases d;cases len with
 |zero=>cases t
 |
  succ n=>
  obtain rfl:=Alv p;have f:=(LK j).1;rw[A4] at f;exact SU cmN Kq (i:=t93) Kq (λ_=>⟨B,B⟩) f (Ac s) (Fp q) (λa _ b _=>Zu (Awf Aeo) (by decide)) o (Ac r) j⟩
def k31:Mk 41 m31:=by
 have a:C8 prog Ax (B8 Ax (smW Lk (λ_=>Lk) Lk) 1125899906842624 7):=JL Fi (Afl RZ RZ (λ_=>RZ) Zbd) (Va Fi _) (λ_ a=>J6 Fi a) _ 7;have c:=c41 (S:=smW Lk (λ_=>Lk) Lk) (s:=⟨⟨ZJ⟩⟩) (h:=Ia Ax m31) (Aet (Ae _)).toBase5 Za5 (Y5 Kq Kq (Ac Kq)) (by decide) 7 (Ae _);obtain⟨o,e,_,b⟩:=c (λv h=>I [.val v h]) (λ_ _=>Z) (λx=>∃v J,x=.val v J/\AA (Ia Ax m31) J/\v=.string ⟨⟨ZJ⟩⟩) λv J ⟨x,z,_⟩=>⟨_,rfl,by simp,λy d=>⟨v,J,List.mem_singleton.1 d,x,z.trans (by rw[Za8])⟩⟩;have f:m31.args=[.string ⟨⟨ZJ⟩⟩]:=Kq;refine Tm a (by rw[f];exact e) λv J g=>⟨[],?_⟩;obtain⟨_,_,i,x,rfl⟩:=b _ g;cases i;have q:J.lo.ag (Ax.ng+m31.ins.length)=true:=x.lo _ (Ae _) rfl;show(J.lo.ag (Ax.ng+m31.ins.length)&&_&&_&&_&&_)=Ag;rw[q];exact Kq
abbrev Zc0:A9:=smW Lk (λ_=>Lk) Lk
def Zah (i:Nat) (s t:Bd):Prop:=t.size<=Zae i s/\∃J,AA Nm J/\∀k kp,B8 Ax Zc0 1125899906842624 8 (.func i) [.string s] Nm k kp=k (.string t) J
def Zbh {i:Nat} {s:Bd} (g:Zag i s):∃t,Zah i s t:=by
 have B:=(Aet (g9:=Lk) (kk:=λ_=>Lk) (sp:=Lk) (Ae _)).toBase5;have U:Ce Nm:=⟨Kq,Kq,Ac Kq⟩;have b:Zad Zc0:=λi a=>by
  simp at a;rcases a with rfl|rfl|rfl|rfl<;>exact⟨λ_ _ _=>rfl,rfl,rfl⟩
 have Da:∀{d n:Nat},Bk Zc0 1125899906842624 d i [.string s] Nm (λw J=>AA Nm J/\VS n w)->d<=8->n<=Zae i s->∃t,Zah i s t:=λc h j=>by
  obtain⟨v,J,⟨x,t,rfl,k⟩,e⟩:=c 8 h;exact⟨t,Ao k j,J,x,e⟩
 rcases g with⟨a,f⟩|⟨rfl,f⟩
 ·exact Da (c27 B Axo b U G a) G (by unfold Zae;rw[if_neg G];exact Ae _)
 ·exact Da (c43 B b Za5 U f) G (Ae _)
open Classical in
def DA (i:Nat) (s:Bd):Bd:=if h:∃t,Zah i s t then Classical.choose h else ⟨#[]⟩
def Zbn {i:Nat} {s:Bd} (a:Zag i s):Zah i s (DA i s):=by
 unfold DA;rw[dif_pos (Zbh a)];exact Classical.choose_spec (Zbh a)
def TK (i:Nat):Be->AH->Y->Jl:=Zc4 (Zag i) λs=>.string (DA i s)
def Zbi {i:Nat}:MO prog Ax i (TK i):=Zc6 λs a=>by
 obtain⟨_,J,x,e⟩:=Zbn a;exact Zc8 (JL Fi (Afl RZ RZ (λ_=>RZ) Zbd) (Va Fi _) (λ_ b=>J6 Fi b) _ 8) x e λ_=>CJ.2 rfl
def Zbk {g9 sp:Be->AH->Y->Jl} {L:Nat} {h:Y} (U:Ce h):Pw (smW g9 TK sp) L DA h:=by
 refine⟨λ{J s} i x a=>?_,λa=>(Zbn a).1,Za5⟩;have e:(smW g9 TK sp).ov i=I (TK i):=by rcases a with⟨rfl|rfl|rfl,_⟩|⟨rfl,_⟩<;>rfl
 exact Zc5 e a (U.ext x) λ_=>rfl
def Zcs {m:Nat->Option Nat}:∀ss:BZ,PI (Qs m 6) (AR ss)=I (AR ss)
 |[]=>rfl
 |s::ss=>by
  show(match I (Value.string s),PI (Qs m 6) (AR ss) with|some u,I r=>I (u::r)|_,_=>Z)=_
  rw[Zcs ss];rfl
def Ik:List (Nat×CB):=[(0,Ft),(1,Fu),(2,Ady),(3,Aej),(4,Aek),(7,Aeb)]
def Vr (s:Bd) (day:Int) (ss:BZ):Option Nat->E2
 |none=>⟨Ik,[.string s,Vi day],[],.slice Z 0 0,[]⟩
 |some c=>⟨Ik,[.string s,Vi day],[],.slice (I ⟨10,0,Z⟩) ss.length c,[.cells (AR ss) 9 0 0 Ah]⟩
abbrev Zc1:A9:=smW Lk TK Lk
def Zca:Y:=Ia Ax ⟨Ik,[],[],.nilFunc,[]⟩
def Zce (s:Bd) (day:Int) (p:BZ×Option Nat):Prop:=p.1.length<=2000/\(p.2=Z->p.1=[])/\(∀c,p.2=I c->p.1.length<=c)/\Mk 26 (Vr s day p.1 p.2)
def Zcy {s:Bd} (n:s.size<=200000) (day:Int):∃p,Zce s day p:=by
 have j:10<=Zca.nx:=Ae _;have U:Ce Zca:=Y5 Kq Kq j;obtain⟨w,J,⟨x,ss,o,u⟩,e⟩:=c26 (S:=Zc1) (L:=1125899906842624) (Aet (Ae _)).toBase5 (λ_ _ _=>rfl) ⟨rfl,rfl⟩ (Zbk U) (Auh Kq j) (Auc Kq Kq Kq j) n (day:=day) 11 (Ae _);have f:C8 prog Ax (B8 Ax Zc1 1125899906842624 11):=JL Fi (Afl RZ RZ (λ_=>Zbi) Zbd) (Va Fi _) (λ_ f=>J6 Fi f) _ 11;have q:J.lo.ag 10=true:=x.lo _ (Ae _) rfl;obtain⟨z,⟨rfl,h0⟩|⟨b,c,A,rfl,D,k,E,l,cc,y,h1,F⟩⟩:=o
 ·obtain rfl:ss=[]:=BO h0;refine⟨([],Z),Al _,λ_=>rfl,(λc h=>by cases h),Zcq f (M:=Vr s day [] Z) (o:=[.val (.slice Z 0 0) J]) (e _ _) λv g m=>⟨[],?_⟩⟩;cases List.mem_singleton.1 m;exact⟨q,rfl,rfl,rfl,λi b l=>by cases l⟩
 ·refine⟨(ss,I c),u,(λh=>by cases h),(λc' h=>by cases h;exact k),Zcq f (M:=Vr s day ss (I c)) (o:=[.val (.slice (I ⟨b,0,Z⟩) ss.length c) J]) (e _ _) λv g m=>⟨[b],?_⟩⟩;cases List.mem_singleton.1 m;have H:Ar 10 b=true:=Aq D;have K:AD b J.nx=true:=by rw[AK];exact l
  refine⟨q,rfl,?_,?_,λi b' d=>?_⟩
  ·show(Ar 10 b&&AD b J.nx&&Ag&&Ag)=Ag;rw[H,K];rfl
  ·show(Am b b&&Ag&&Ag&&Am ss.length ss.length&&Am c c)=Ag;rw[Mi,Mi,Mi];rfl
  ·rcases i with _|i;rotate_left
   ·cases d
   cases d;refine⟨b,_,rfl,h1,rfl,λρ N pl w _ r=>?_⟩;obtain⟨C,O,P,r2,Q,R,V,_⟩:=r;have X:(AR ss).length<=(AR ss++A).length:=by rw[Aj];exact GW _ _
   refine⟨C,O,P,G,λi e=>by have:=Q i e;omega,λi v a=>?_,V,λh=>by cases h⟩;rw[Ev.T.an] at a;split at a
   ·rename_i hi;have a:(AR ss)[i-0]?=I v:=a;rw[DL] at a;obtain⟨_,v',r6,r7⟩:=R i v (F i v (by rw[AB (List.getElem?_eq_some_iff.1 a).1];exact a));refine⟨(List.getElem?_eq_some_iff.1 a).1,v',r6,?_⟩;obtain⟨t,_,rfl⟩:=List.mem_map.1 (AZ a);cases r7;exact .string _
   ·cases a
open Classical in
def So (s:Bd) (day:Int):BZ×Option Nat:=if h:∃p,Zce s day p then Classical.choose h else ([],Z)
def Zcx {s:Bd} (a:s.size<=200000) (day:Int):Zce s day (So s day):=by
 unfold So;rw[dif_pos (Zcy a day)];exact Classical.choose_spec (Zcy a day)
def Zcd (s:Bd) (day:Int):BZ:=(So s day).1
open Classical in
def VA:Be->AH->Y->Jl:=λ_ args h=>match args with
 |[.string s,.int .i64 day]=>if s.size<=200000 then QG Ax (Vr s day (So s day).1 (So s day).2) args h else Z
 |_=>Z
def Zcu:MO prog Ax 26 VA:=⟨λe i args c h J v ρ w f g a k kp b d=>by
 unfold VA at a;split at a
 ·split at a
  ·exact Agr (Zcx ‹_› _).2.2.2 f g a k kp b d
  ·cases a
 ·cases a⟩
def Zb9 (h:Y):Prop:=∀p∈Ik,h.t.get p.1=I p.2.oB
def Zcp {h:Y} (g:Zb9 h):QL Ax.ng (De Ax.ng []) h.t Ik=true:=by
 have e:∀p∈Ik,h.t.get p.1=I p.2.oB:=g;show(AD 0 Ax.ng&&Hv _ Ft (h.t.get 0)&&(AD 1 Ax.ng&&Hv _ Fu (h.t.get 1)&&(AD 2 Ax.ng&&Hv _ Ady (h.t.get 2)&&(AD 3 Ax.ng&&Hv _ Aej (h.t.get 3)&&(AD 4 Ax.ng&&Hv _ Aek (h.t.get 4)&&(AD 7 Ax.ng&&Hv _ Aeb (h.t.get 7)&&Ag))))))=Ag;rw[show h.t.get 0=_ from e (0,Ft) (by simp[Ik]),show h.t.get 1=_ from e (1,Fu) (by simp[Ik]),show h.t.get 2=_ from e (2,Ady) (by simp[Ik]),show h.t.get 3=_ from e (3,Aej) (by simp[Ik]),show h.t.get 4=_ from e (4,Aek) (by simp[Ik]),show h.t.get 7=_ from e (7,Aeb) (by simp[Ik])];kernel_rfl
open Classical in
def Zcz {g9:Be->AH->Y->Jl} {L:Nat} {h:Y} (g:Zb9 h) (E:10<=h.nx):R0 (smW g9 TK VA) L Zcd h:=λ{J s day} x k=>by
 obtain⟨h1,m,n,_⟩:=Zcx k day;have w:Zb9 J:=λp d=>(x.t p.1 (by unfold Ik at d;simp at d;rcases d with rfl|rfl|rfl|rfl|rfl|rfl<;>simp<;>omega)).trans (g p d);have q:=Zcp w;have u:Ln (K9 (De Ax.ng []) 6) [.string s,Vi day] [.string s,Vi day]=true:=by
  have e:Aeh day day=true:=by cases day<;>exact Mi _
  show(Gp s.data.toList s.data.toList&&(Ag&&Aeh day day&&Ag))=Ag;rw[CJ.2 rfl,e];rfl
 have f:∀b,VA b [.string s,Vi day] J=QG Ax (Vr s day (So s day).1 (So s day).2) [.string s,Vi day] J:=λ_=>by
  show(if s.size<=200000 then _ else Z)=_
  rw[if_pos k]
 unfold Zcd;cases d:So s day with
 |mk ss o=>
 rw[d] at h1 m n f;cases o with
 |none=>
  obtain rfl:ss=[]:=m rfl;refine Lm (g:=VA) (v:=.slice Z 0 0) (J:=J) rfl (λb=>?_) ⟨AA.refl _,⟨(AS.nil J 0 9 1).rd,λ_ h=>h.elim⟩,(λ_ h=>h.elim),Al _⟩;rw[f];have e:QG Ax (Vr s day [] Z) [.string s,Vi day] J=(bif Ag&&Ln (K9 (De Ax.ng []) 6) [.string s,Vi day] [.string s,Vi day]&&Ag&&QL Ax.ng (De Ax.ng []) J.t Ik then I (.slice Z 0 0,⟨J.t,J.nx+0,J.lo⟩) else Z):=rfl
  rw[e,u,q];cases J;rfl
 |some c=>
  have y:=AA.new J (.cells (Ev.T.laid (AR ss) 0 .nil) (AR ss).length 9 0 0 Ah);refine Lm (g:=VA) (v:=.slice (I ⟨J.nx,0,Z⟩) ss.length c) (J:=J.new (.cells (Ev.T.laid (AR ss) 0 .nil) (AR ss).length 9 0 0 Ah)) rfl (λb=>?_) ⟨y,⟨⟨by rw[CM,BJ],_,_,rfl,n c rfl,(λh=>by cases h),λa z=>?_⟩,λi j=>?_⟩,(λi j=>A2 j.symm),h1⟩
  ·rw[f];have e:QG Ax (Vr s day ss (I c)) [.string s,Vi day] J=(bif Ag&&Ln (K9 (De Ax.ng []) 6) [.string s,Vi day] [.string s,Vi day]&&Ag&&QL Ax.ng (De Ax.ng []) J.t Ik then (match Qs (XC (Ax.ng+0) 1 (De Ax.ng []) J.nx) 6 (.slice (I ⟨10,0,Z⟩) ss.length c),U7 (XC (Ax.ng+0) 1 (De Ax.ng []) J.nx) [.cells (AR ss) 9 0 0 Ah] with|some v,I bs=>I (v,⟨Nj bs J.nx J.t,J.nx+1,J.lo⟩)|_,_=>Z) else Z):=rfl
   rw[e,u,q];have A:Qs (XC (Ax.ng+0) 1 (De Ax.ng []) J.nx) 6 (.slice (I ⟨10,0,Z⟩) ss.length c)=I (.slice (I ⟨J.nx,0,Z⟩) ss.length c):=rfl;have C:U7 (XC (Ax.ng+0) 1 (De Ax.ng []) J.nx) [.cells (AR ss) 9 0 0 Ah]=I [.cells (AR ss) 9 0 0 Ah]:=by
    show(match(match PI (Qs _ 6) (AR ss) with|some l=>I (CB.cells l 9 0 0 Ah)|none=>Z),I [] with|some c,I r=>I (c::r)|_,_=>Z)=_
    rw[Zcs]
   rw[A,C];rfl
  ·cases z;exact⟨by rw[Ck];exact HL _,_,_,_,_,_,_,by rw[CK,if_pos rfl],λi v D=>by rw[Ba];exact NP (AR ss) D⟩
  ·rw[show i=J.nx from j,Ck];exact HL _
def k6:Mk 18 m6:=K4 E6
def k15:Mk 46 m15:=K4 E6
def k8:Mk 48 m8:=K4 E6
def k11:Mk 118 m11:=K4 E6
def k12:Mk 118 m12:=K4 E6
def k16:Mk 19 m16:=K4 (EB (ES k8 Ht) (EB (ES k11 (ES k12 Ht)) (EB (ES k15 Ht) E6)))
def k22:Mk 129 m22:=K4 E6
def k24:Mk 129 m24:=K4 E6
def k25:Mk 57 m25:=K4 (EB (ES k22 (ES k24 Ht)) (Agk Amc E6))
def k26:Mk 20 m26:=K4 (EB (ES k25 Ht) E6)
def k27:Mk 8 m27:=K4 (EB (ES k6 Ht) (EB (ES k16 Ht) (EB (ES k26 Ht) E6)))
def k28:Mk 12 m28:=K4 E6
def k29:Mk 26 m29:=K4 E6
def k32:Mk 43 m32:=K4 E6
def k33:Mk 15 m33:=K4 (EB (ES k31 Ht) (EB (ES k32 Ht) E6))
def k34:Mk 10 m34:=K4 (EB (ES k28 Ht) (EB (ES k29 Ht) (EB (ES k33 Ht) E6)))
def k35:Mk 9 m35:=K4 (EB (ES k27 Ht) (EB (ES k34 Ht) E6))
def Ii {W:AM} (a:H9 prog W W5) (d:Ax.ng<=W.heap.size) {g:Nat} {b:CB} (c:(g,b)∈W5):(GB W5 W).ad.t.get g=I b.oB:=Pn a c
def Yn {W:AM} (f:H9 prog W W5) (d:Ax.ng<=W.heap.size) {x:Aco} {m:Nat} (q:m<=255) {L:Nat} (r:1125899906842624<=L) (a:Lt L (GB W5 W) x.c) (s:LR (Jr W.heap.size) x.cells x.cells):
 CallsIn Fence.wide 0 prog 5 ⟨[.agg ⟨x.cells⟩,.int .u8 m]⟩ W λe t=>e=.returned (.bool Ag)/\QR W t:=by
 have u:=Abp (τ:=Ax) f d;have j:C8 prog Ax (B8 Ax (smW gW TK VA) L 34):=JL Fi (Afl (QY (ES k35 Ht)) Zcu (λ_=>Zbi) Zbd) (Va Fi _) (λ_ j=>J6 Fi j) L 34;have i:10<=(GB W5 W).ad.nx:=d;have k:=Ii f d (g:=0) (b:=Ft) (by unfold W5;simp);have l:=Ii f d (g:=1) (b:=Fu) (by unfold W5;simp);have v:=Ii f d (g:=2) (b:=Ady) (by unfold W5;simp);have w:=Ii f d (g:=3) (b:=Aej) (by unfold W5;simp);have y:=Ii f d (g:=4) (b:=Aek) (by unfold W5;simp);have o:=Ii f d (g:=5) (b:=Hu) (by unfold W5;simp);have z:=Ii f d (g:=7) (b:=Aeb) (by unfold W5;simp);have c:=Zap (Aet (g9:=gW) r) ⟨rfl,rfl,rfl⟩ (Zbk (Y5 k l i)) (Zcz (λp n=>by unfold Ik at n;simp at n;rcases n with rfl|rfl|rfl|rfl|rfl|rfl<;>assumption) i) (Y5 k l i) (Ahu o i) (λJ x=>Abo k l o i x) (x:=x) (a.ext (AA.ad _)) q 34 (Ae _)
 exact Abx j (h:=GB W5 W) u (.cons (.agg s) (.cons (.int _ _) .nil)) c func5 (by kernel_rfl) (cd:=Fq f5) (by kernel_rfl)
section
variable{H:Type} {Cr:Ai×Aa->H} {W:AM} {sp:Nat->Bool} {Ei:Bool}
def c9:prog.cellsOf 9=1:=by kernel_rfl
def c3:prog.cellsOf 3=1:=by kernel_rfl
def Pg {n i:Nat} {l:AH} {xs:List (JO H×List IY)} (h:DataW.trod Cr prog W 0 sp Ei n 9 l=xs[i]?) (U:i<xs.length):∃s,l=[.string s]:=by
 rw[Ab U] at h;obtain⟨s,e,_⟩:=DataW.trod_string underlying9 h;exact⟨s,e⟩
def Hx {n i:Nat} {l:AH} {xs:List (JO H×List IY)} (h:DataW.trod Cr prog W 0 sp Ei n 3 l=xs[i]?) (U:i<xs.length):∃z,l=[.int .i64 z]:=by
 rw[Ab U] at h;obtain⟨z,e,_⟩:=DataW.trod_int underlying3 h;exact⟨z,e⟩
def ABm {l:AH} (h:l.length=5):∃a b c d e,l=[a,b,c,d,e]:=by
 rcases l with _|⟨a,_|⟨b,_|⟨c,_|⟨d,_|⟨e,_|⟨f,l⟩⟩⟩⟩⟩⟩<;>first|(exact⟨_,_,_,_,_,rfl⟩)|(simp at h)
def Aqc {l:AH} (h:l.length=3):∃a b c,l=[a,b,c]:=by
 rcases l with _|⟨a,_|⟨b,_|⟨c,_|⟨d,l⟩⟩⟩⟩<;>first|(exact⟨_,_,_,rfl⟩)|(simp at h)
def AAq {l:AH} (h:l.length=2):∃a b,l=[a,b]:=by
 rcases l with _|⟨a,_|⟨b,_|⟨c,l⟩⟩⟩<;>first|(exact⟨_,_,rfl⟩)|(simp at h)
def Aho {p:Nat} {cs:AH} {y:JO H×List IY} (h:DataW.trod Cr prog W 0 sp Ei p 114 cs=I y):∃e:CI,cs=BV e:=by
 obtain⟨xs,n,_,_,g,i,f⟩:=DataW.trod_struct underlying114 h;rw[show prog.cellsOf 114=5 by kernel_rfl] at g;obtain⟨a,b,c,d,e,rfl⟩:=ABm g;have i:xs.length=5:=i;have j:DataW.trod Cr prog W 0 sp Ei n 9 (([a,b,c,d,e].drop 0).take (prog.cellsOf 9))=xs[0]?:=f 0 _ B;have k:DataW.trod Cr prog W 0 sp Ei n 9 (([a,b,c,d,e].drop 1).take (prog.cellsOf 9))=xs[1]?:=f 1 _ B;have l:DataW.trod Cr prog W 0 sp Ei n 3 (([a,b,c,d,e].drop 2).take (prog.cellsOf 3))=xs[2]?:=f 2 _ B;have m:DataW.trod Cr prog W 0 sp Ei n 3 (([a,b,c,d,e].drop 3).take (prog.cellsOf 3))=xs[3]?:=f 3 _ B;have o:DataW.trod Cr prog W 0 sp Ei n 3 (([a,b,c,d,e].drop 4).take (prog.cellsOf 3))=xs[4]?:=f 4 _ B;rw[c9] at j k;rw[c3] at l m o;obtain⟨q,r⟩:=Pg j (by omega);obtain⟨s,t⟩:=Pg k (by omega);obtain⟨u,v⟩:=Hx l (by omega);obtain⟨w,x⟩:=Hx m (by omega);obtain⟨z,A⟩:=Hx o (by omega);cases r;cases t;cases v;cases x;cases A;exact⟨⟨q,s,u,w,z⟩,B⟩
def VT {t s:Nat} (u:t=59\/t=61) {cs:AH} {y:JO H×List IY} (h:DataW.trod Cr prog W 0 sp Ei s t cs=I y):∃e:RT,cs=Qm e:=by
 rcases u with rfl|rfl
 .obtain⟨xs,n,_,_,f,g,d⟩:=DataW.trod_struct underlying59 h
  rw[show prog.cellsOf 59=3 by kernel_rfl] at f;obtain⟨a,b,c,rfl⟩:=Aqc f;have g:xs.length=3:=g;have i:DataW.trod Cr prog W 0 sp Ei n 9 (([a,b,c].drop 0).take (prog.cellsOf 9))=xs[0]?:=d 0 _ B;have j:DataW.trod Cr prog W 0 sp Ei n 9 (([a,b,c].drop 1).take (prog.cellsOf 9))=xs[1]?:=d 1 _ B;have k:DataW.trod Cr prog W 0 sp Ei n 3 (([a,b,c].drop 2).take (prog.cellsOf 3))=xs[2]?:=d 2 _ B;rw[c9] at i j;rw[c3] at k;obtain⟨l,m⟩:=Pg i (by omega);obtain⟨o,p⟩:=Pg j (by omega);obtain⟨q,r⟩:=Hx k (by omega);cases m;cases p;cases r;exact⟨⟨l,o,q⟩,B⟩
 .obtain⟨xs,n,_,_,f,g,d⟩:=DataW.trod_struct underlying61 h
  rw[show prog.cellsOf 61=3 by kernel_rfl] at f;obtain⟨a,b,c,rfl⟩:=Aqc f;have g:xs.length=3:=g;have i:DataW.trod Cr prog W 0 sp Ei n 9 (([a,b,c].drop 0).take (prog.cellsOf 9))=xs[0]?:=d 0 _ B;have j:DataW.trod Cr prog W 0 sp Ei n 9 (([a,b,c].drop 1).take (prog.cellsOf 9))=xs[1]?:=d 1 _ B;have k:DataW.trod Cr prog W 0 sp Ei n 3 (([a,b,c].drop 2).take (prog.cellsOf 3))=xs[2]?:=d 2 _ B;rw[c9] at i j;rw[c3] at k;obtain⟨l,m⟩:=Pg i (by omega);obtain⟨o,p⟩:=Pg j (by omega);obtain⟨q,r⟩:=Hx k (by omega);cases m;cases p;cases r;exact⟨⟨l,o,q⟩,B⟩
def Ip {c:Type} {encA:c->AH} {st e k:Nat} (q:prog.underlying st=I (.slice e)) (hk:prog.cellsOf e=k) (he:∀{s:Nat} {cs:AH} {y:JO H×List IY},DataW.trod Cr prog W 0 sp Ei s e cs=I y->∃a:c,cs=encA a)
 (M:∀a,(encA a).all plainCell=Ag/\(encA a).length=k) (aa:0<k) {base:Nat} {v:Aa} (t:Cell.okWide prog W .any base st v) {s:Nat} {x:JO H×List IY} (ht:DataW.trod Cr prog W 0 sp Ei s st [v]=I x) {w:List (Nat×CB)} (z:H9 prog W w):
 ∃l:List c,Rd (GB w W) v k l.length (l.flatMap encA)/\VR (Jr W.heap.size) v v/\l.length<=9223372036854775807:=by
 rcases DataW.trod_slice q ht with⟨A,_⟩|⟨a,len,cap,ah,rest,n,_,A,_,_,ab,hm,ai,hx,_⟩
 .cases A
  exact⟨[],⟨by simp,Z,0,B,Ae _,λ_=>rfl,λa h=>by cases h⟩,.az _ _,Al _⟩
 cases A;have C:Cell.ok prog W .any base st (.slice (I a) len cap):=by
  unfold Cell.okWide at t;rw[q] at t;exact t
 unfold Cell.ok at C;rw[q] at C;obtain⟨_,_,_,D,aj,ak,m,_⟩:=C;have hb:a.block<W.heap.size:=by
  unfold Jd at m;cases h:W.heap[a.block]? with
  |none=>rw[h] at m;cases m
  |some o=>exact(Array.getElem?_eq_some_iff.1 h).1
 have N:∀i,i<len->∃b:c,W.cells? 0 (a.add (i*k)) k=I (encA b):=λi U=>by
  have O:=hx i U;rw[Ab (by omega),hk] at O;obtain⟨cs,E,p⟩:=Option.bind_eq_some_iff.1 O;obtain⟨b,rfl⟩:=he p;exact⟨b,E⟩
 obtain⟨F,K,ad⟩:=a;have D:ad=none:=D;subst D;obtain⟨f,ae⟩:∃f:Fin len->c,∀i:Fin len,W.cells? 0 (Addr.add ⟨F,K,Z⟩ (i.1*k)) k=I (encA (f i)):=⟨λi=>Classical.choose (N i.1 i.2),λi=>Classical.choose_spec (N i.1 i.2)⟩;have af:∀i (U:i<len) r,r<k->W.cell? ⟨F,K+(i*k+r),Z⟩=(encA (f ⟨i,U⟩))[r]?:=λi U r hr=>by
  have h:=ae ⟨i,U⟩;unfold World.cells? at h;rw[Bi (Al _)] at h;have E:=mapM_some_get h r r (by simp[hr]);rw[←E,EL,EL,DD]
 obtain⟨l,P⟩:∃l:List c,l=List.ofFn f:=⟨_,B⟩;have L:l.length=len:=by rw[P,List.length_ofFn]
 have Q:l.flatMap encA=(l.map encA).flatten:=rfl;have S:∀g∈l.map encA,g.length=k:=λg z=>by
  obtain⟨b,_,rfl⟩:=List.mem_map.1 z;exact(M b).2
 have T:(l.flatMap encA).length=len*k:=by rw[Q,IU _ S,A4,L]
 have R:Rd (GB w W) (.slice (I ⟨F,K,Z⟩) len cap) k len (l.flatMap encA):=Aad z ⟨_,m⟩ T ab λj u d=>by
  have V:j<len*k:=by rw[←T];exact(List.getElem?_eq_some_iff.1 d).1
  have X:j/k<len:=Nat.div_lt_of_lt_mul (by rw[UI];exact V);rw[Q,IL _ S j (by rw[A4,L];exact V),AX,Ab (by omega)] at d;simp only[Ek,CC] at d;have ag:l[j/k]'(by omega)=f ⟨j/k,X⟩:=by simp only[P,List.getElem_ofFn]
  rw[ag] at d;have p:=af (j/k) X (j%k) (Je _ aa);rw[show j/k*k+j%k=j by rw[UI];exact Nat.div_add_mod j k,d] at p;exact⟨p,List.all_eq_true.1 (M _).1 u (AZ d)⟩
 exact⟨l,by rw[L];exact R,Abf B hb,by have:maxLen=9223372036854775807:=rfl;omega⟩
end
section
variable{H:Type} {Cr:Ai×Aa->H} {W:AM} {sp:Nat->Bool} {Ei:Bool}
def Aiv {j:Nat} {cs:AH} {y:JO H×List IY} (h:DataW.trod Cr prog W 0 sp Ei j 112 cs=I y):∃e:JT,cs=Mm e:=by
 obtain⟨xs,n,_,_,c,d,f⟩:=DataW.trod_struct underlying112 h;rw[show prog.cellsOf 112=2 by kernel_rfl] at c;obtain⟨a,b,rfl⟩:=AAq c;have d:xs.length=2:=d;have g:DataW.trod Cr prog W 0 sp Ei n 9 (([a,b].drop 0).take (prog.cellsOf 9))=xs[0]?:=f 0 _ B;have i:DataW.trod Cr prog W 0 sp Ei n 3 (([a,b].drop 1).take (prog.cellsOf 3))=xs[1]?:=f 1 _ B;rw[c9] at g;rw[c3] at i;obtain⟨k,l⟩:=Pg g (by omega);obtain⟨m,o⟩:=Hx i (by omega);cases l;cases o;exact⟨(k,m),B⟩
def Aat {l:Nat} {cs:AH} {y:JO H×List IY} (h:DataW.trod Cr prog W 0 sp Ei l 208 cs=I y):∃e:Qz,cs=YD e:=by
 obtain⟨xs,n,_,_,f,g,d⟩:=DataW.trod_struct underlying208 h;rw[show prog.cellsOf 208=3 by kernel_rfl] at f;obtain⟨a,b,c,rfl⟩:=Aqc f;have g:xs.length=3:=g;have i:DataW.trod Cr prog W 0 sp Ei n 3 (([a,b,c].drop 0).take (prog.cellsOf 3))=xs[0]?:=d 0 _ B;have j:DataW.trod Cr prog W 0 sp Ei n 3 (([a,b,c].drop 1).take (prog.cellsOf 3))=xs[1]?:=d 1 _ B;have k:DataW.trod Cr prog W 0 sp Ei n 3 (([a,b,c].drop 2).take (prog.cellsOf 3))=xs[2]?:=d 2 _ B;rw[c3] at i j k;obtain⟨m,o⟩:=Hx i (by omega);obtain⟨p,q⟩:=Hx j (by omega);obtain⟨r,s⟩:=Hx k (by omega);cases o;cases q;cases s;exact⟨(m,p,r),B⟩
def Aza {l:AH} (h:l.length=13):∃a0 a1 a b c d e f g i b0 b1 j,l=[a0,a1,a,b,c,d,e,f,g,i,b0,b1,j]:=by
 rcases l with _|⟨a0,_|⟨a1,_|⟨a,_|⟨b,_|⟨c,_|⟨d,_|⟨e,_|⟨f,_|⟨g,_|⟨i,_|⟨b0,_|⟨b1,_|⟨j,_|⟨k,l⟩⟩⟩⟩⟩⟩⟩⟩⟩⟩⟩⟩⟩⟩<;>first|(exact⟨_,_,_,_,_,_,_,_,_,_,_,_,_,rfl⟩)|(simp at h)
def Alb:prog.cellTypes prog.depth 34=I [22,3,23,24,9,27,28,3,3,3,3,3,3]:=by kernel_rfl
def IF {A:Type} {xs:List A} {i:Nat} {o:Option A} (h:o=xs[i]?) (U:i<xs.length):∃y,o=I y:=⟨xs[i],by rw[h,Ab U]⟩
def Ahx {base:Nat} {v:Aa} (M:Acg prog W .any base 34 v) {d:JO H} {ps:List IY} (r:DataW.Trod Cr prog W 0 sp Ei 34 v d ps) {R:List (Nat×CB)} (s:H9 prog W R):
 ∃x:Aco,v=.agg ⟨x.cells⟩/\LR (Jr W.heap.size) x.cells x.cells/\∃L,1125899906842624<=L/\Lt L (GB R W) x.c:=by
 unfold Acg at M;rw[underlying34] at M;obtain⟨⟨cs⟩,rfl,N,ts,S,_,ae⟩:=M;rw[Alb] at S;cases S;have N:cs.length=13:=N.trans (by kernel_rfl);obtain⟨a0,a1,a,b,h,f,g,j,l,m,b0,b1,o,rfl⟩:=Aza N;have w:∀(i:Nat) (v:Aa) (u:Ai),[a0,a1,a,b,h,f,g,j,l,m,b0,b1,o][i]?=I v->([22,3,23,24,9,27,28,3,3,3,3,3,3]:List Ai)[i%13]?=I u->Cell.okWide prog W .any base u v:=λi v u h1 h2=>by
  obtain⟨u',C,h4⟩:=ae i v (by simpa using h1);have C:([22,3,23,24,9,27,28,3,3,3,3,3,3]:List Ai)[i%13]?=I u':=C;rw[h2] at C;cases C;exact h4
 obtain⟨af,r⟩:=r;obtain⟨xs,n,_,_,_,T,q⟩:=DataW.trod_struct underlying34 (show DataW.trod Cr prog W 0 sp Ei af 34 [a0,a1,a,b,h,f,g,j,l,m,b0,b1,o]=I (d,ps) from r);have T:xs.length=6:=T;have ag:prog.cellsOf 30=7:=by kernel_rfl
 have c32:prog.cellsOf 32=2:=by kernel_rfl
 have c26:prog.cellsOf 26=4:=by kernel_rfl
 have y:∀t∈[22,23,24,27,28],prog.cellsOf t=1:=by
  intro t r;have k:([22,23,24,27,28]:Bo).all (λt=>Am (prog.cellsOf t) 1)=true:=by kernel_rfl
  exact Af (List.all_eq_true.1 k t r)
 have f0:DataW.trod Cr prog W 0 sp Ei n 30 (([a0,a1,a,b,h,f,g,j,l,m,b0,b1,o].drop 0).take (prog.cellsOf 30))=xs[0]?:=q 0 _ B;have f1:DataW.trod Cr prog W 0 sp Ei n 32 (([a0,a1,a,b,h,f,g,j,l,m,b0,b1,o].drop 7).take (prog.cellsOf 32))=xs[1]?:=q 1 _ B;have f2:DataW.trod Cr prog W 0 sp Ei n 3 (([a0,a1,a,b,h,f,g,j,l,m,b0,b1,o].drop 9).take (prog.cellsOf 3))=xs[2]?:=q 2 _ B;have f3:DataW.trod Cr prog W 0 sp Ei n 3 (([a0,a1,a,b,h,f,g,j,l,m,b0,b1,o].drop 10).take (prog.cellsOf 3))=xs[3]?:=q 3 _ B;have f4:DataW.trod Cr prog W 0 sp Ei n 3 (([a0,a1,a,b,h,f,g,j,l,m,b0,b1,o].drop 11).take (prog.cellsOf 3))=xs[4]?:=q 4 _ B;have f5:DataW.trod Cr prog W 0 sp Ei n 3 (([a0,a1,a,b,h,f,g,j,l,m,b0,b1,o].drop 12).take (prog.cellsOf 3))=xs[5]?:=q 5 _ B;rw[ag] at f0;rw[c32] at f1;rw[c3] at f2 f3 f4 f5;obtain⟨z2,e2⟩:=Hx f2 (by omega);obtain⟨z3,e3⟩:=Hx f3 (by omega);obtain⟨z4,e4⟩:=Hx f4 (by omega);obtain⟨z5,e5⟩:=Hx f5 (by omega);cases e2;cases e3;cases e4;cases e5;obtain⟨y1,g1⟩:=IF f1 (by omega);obtain⟨O,V,_,_,_,X,aa⟩:=DataW.trod_struct underlying32 g1;have X:O.length=2:=X;have s0:DataW.trod Cr prog W 0 sp Ei V 3 (([j,l].drop 0).take (prog.cellsOf 3))=O[0]?:=aa 0 _ B;have s1:DataW.trod Cr prog W 0 sp Ei V 3 (([j,l].drop 1).take (prog.cellsOf 3))=O[1]?:=aa 1 _ B;rw[c3] at s0 s1;obtain⟨zF,e6⟩:=Hx s0 (by omega);obtain⟨zT,e7⟩:=Hx s1 (by omega);cases e6;cases e7;obtain⟨y0,g0⟩:=IF f0 (by omega);obtain⟨z,D,_,_,_,ab,E⟩:=DataW.trod_struct underlying30 g0;have ab:z.length=4:=ab;have t0:DataW.trod Cr prog W 0 sp Ei D 26 (([a0,a1,a,b,h,f,g].drop 0).take (prog.cellsOf 26))=z[0]?:=E 0 _ B;have t1:DataW.trod Cr prog W 0 sp Ei D 9 (([a0,a1,a,b,h,f,g].drop 4).take (prog.cellsOf 9))=z[1]?:=E 1 _ B;have t2:DataW.trod Cr prog W 0 sp Ei D 27 (([a0,a1,a,b,h,f,g].drop 5).take (prog.cellsOf 27))=z[2]?:=E 2 _ B;have t3:DataW.trod Cr prog W 0 sp Ei D 28 (([a0,a1,a,b,h,f,g].drop 6).take (prog.cellsOf 28))=z[3]?:=E 3 _ B;rw[c26] at t0;rw[c9] at t1;rw[y 27 (by simp)] at t2;rw[y 28 (by simp)] at t3;obtain⟨ah,e8⟩:=Pg t1 (by omega);cases e8;obtain⟨y2,g2⟩:=IF t0 (by omega);obtain⟨A,F,_,_,_,ad,K⟩:=DataW.trod_struct underlying26 g2;have ad:A.length=4:=ad;have u0:DataW.trod Cr prog W 0 sp Ei F 22 (([a0,a1,a,b].drop 0).take (prog.cellsOf 22))=A[0]?:=K 0 _ B;have u1:DataW.trod Cr prog W 0 sp Ei F 3 (([a0,a1,a,b].drop 1).take (prog.cellsOf 3))=A[1]?:=K 1 _ B;have u2:DataW.trod Cr prog W 0 sp Ei F 23 (([a0,a1,a,b].drop 2).take (prog.cellsOf 23))=A[2]?:=K 2 _ B;have u3:DataW.trod Cr prog W 0 sp Ei F 24 (([a0,a1,a,b].drop 3).take (prog.cellsOf 24))=A[3]?:=K 3 _ B;rw[y 22 (by simp)] at u0;rw[c3] at u1;rw[y 23 (by simp)] at u2;rw[y 24 (by simp)] at u3;obtain⟨df,e9⟩:=Hx u1 (by omega);cases e9;obtain⟨_,q0⟩:=IF u0 (by omega);obtain⟨_,q2⟩:=IF u2 (by omega);obtain⟨_,q3⟩:=IF u3 (by omega);obtain⟨_,q4⟩:=IF t2 (by omega);obtain⟨_,q5⟩:=IF t3 (by omega);obtain⟨p,r0,v0,l0⟩:=Ip (encA:=Mm) (k:=2) underlying22 (by kernel_rfl) Aiv (λ_=>⟨B,B⟩) (by decide) (w 0 _ _ B B) q0 s;obtain⟨c,r1,v1,l1⟩:=Ip (encA:=YD) (k:=3) underlying23 (by kernel_rfl) Aat (λ_=>⟨B,B⟩) (by decide) (w 2 _ _ B B) q2 s;obtain⟨e,r2,v2,l2⟩:=Ip (encA:=BV) (k:=5) underlying24 (by kernel_rfl) Aho (λ_=>⟨B,B⟩) (by decide) (w 3 _ _ B B) q3 s;obtain⟨P,r3,v3,l3⟩:=Ip (encA:=Qm) (k:=3) underlying27 (by kernel_rfl) (VT (.inl B)) (λ_=>⟨B,B⟩) (by decide) (w 5 _ _ B B) q4 s;obtain⟨Q,r4,v4,l4⟩:=Ip (encA:=Qm) (k:=3) underlying28 (by kernel_rfl) (VT (.inr B)) (λ_=>⟨B,B⟩) (by decide) (w 6 _ _ B B) q5 s;refine⟨⟨⟨⟨a0,df,a,b,p,c,e⟩,ah,f,g,P,Q⟩,zF,zT,z2,z3,z4,z5⟩,B,?_,1125899906842625+p.length+c.length+e.length+P.length+Q.length,by omega,?_⟩
 .exact .cons v0 (.cons (.int _ _) (.cons v1 (.cons v2 (.cons (.string _) (.cons v3 (.cons v4 (.cons (.int _ _) (.cons (.int _ _) (.cons (.int _ _) (.cons (.int _ _) (.cons (.int _ _) (.cons (.int _ _) .nil))))))))))))
 .exact⟨⟨⟨r0,r1,r2⟩,⟨by show p.length<_;omega,l0⟩,⟨by show c.length<_;omega,l1⟩,⟨by show e.length<_;omega,l2⟩⟩,⟨r3,r4⟩,⟨by show P.length<_;omega,l3⟩,⟨by show Q.length<_;omega,l4⟩⟩
end
end
end Go.Ev
