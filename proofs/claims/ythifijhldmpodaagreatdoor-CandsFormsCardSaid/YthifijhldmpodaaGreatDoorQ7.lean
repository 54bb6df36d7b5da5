/-
  A part of the proof.
-/
import Derived.Test.YthifijhldmpodaaGreatDoorQ6
import Derived.Test.YthifijhldmpodaaGreatDoorQ4
import Derived.Test.YthifijhldmpodaaGreatDoorQ5
import Derived.Test.YthifijhldmpodaaGreatDoorQ2
import Derived.Shelf.Slices.In.SortAlone
import Derived.Shelf.Slices.In.SortNone
import Derived.Test.YthifijhldmpodaaGreatDoorRows
import Derived.ChangeArms
set_option maxRecDepth 100000
set_option maxHeartbeats 40000000
set_option linter.all false
open Bool renaming false->Ah,true->Ag,and_eq_true->An,or_eq_true->Dm,and_true->Mh,false_eq_true->BE
open Go renaming Addr->BD,Code->DC,DataW->JO,Deferred->Hh,Func->BC,FuncId->Au,MapEntry->Ap,MemPlace->IY,Oper->C0,Operand->BU,Program->AN,TypeId->Ai,Value->Aa,World->AM
open Option renaming none->Z,some->I,map_some->Ek,bind_some->CC
open List renaming replicate->AE,length_take->Cg,length_drop->AV,foldl_cons->F7,length_cons->AO,take_append_drop->FO,map_replicate->KD,map_set->Cp,length_set->B4,range->BG,drop_eq_nil_of_le->Ef,take->Ana,nil_append->IW,length_append->Aj,getElem?_append->Amz,length_singleton->Br,map_append->BS,length_nil->Acd,prefix_refl->Eb,prefix_append->GS,getElem?_of_mem->Iz,getElem?_append_left->AB,getElem?_append_right->Bq,length_map->A4,getElem?_eq_getElem->Ab,getElem_mem->Bu,take_succ_eq_append_getElem->A5,foldl_append->K1,take_of_length_le->Bj,nodup_nil->Jg,append_assoc->KA,getElem_map->EU,drop_eq_getElem_cons->Di,getElem?_map->AX,eq_nil_of_length_eq_zero->BO,drop_drop->GR,set_append->Hj,getElem!_eq_getElem?_getD->UJ,getElem!_toArray->ZE,length_mergeSort->ZF,getElem?_eq_none->CD,map_map->O5,map_cons->Bp,length->HD,mem_map_of_mem->Gn,perm_append_singleton->Gm,map_singleton->Ajh,drop_zero->Ajb,take_append_of_le_length->UR,flatMap_cons->Dg,cons_append->KB,mem_append_left->DW,take_length->CS,flatMap_map->UM,flatMap_append->E0,mem_cons_self->Av,mem_cons_of_mem->Az,getElem?_toArray->Db,getElem?_range->Jj,mem_of_getElem?->AZ
open Nat renaming zero_le->Al,le_refl->Ae,le_of_ble_eq_true->Ac,le_trans->Ao,le_of_eq->A2,blt->AD,ble->Ar,blt_eq->AK,zero_add->Ba,beq->Am,ble_eq_true_of_le->Aq,eq_of_beq_eq_true->Af,lt_or_ge->A8,add_sub_cancel_left->Ds,lt_trichotomy->FD,mul_one->BJ,lt_succ_self->HL,eq_zero_or_pos->KQ,sub_zero->DL,le_add_right->GW,lt_of_lt_of_le->AC,succ->A3,beq_refl->Mi,add_mul->Dw,add_assoc->DD,mul_comm->UI,mod_lt->Je
open Int renaming toNat_of_nonneg->UQ,eq_ofNat_of_zero_le->B9,ofNat->AQ,toNat_natCast->UG
open ByteArray renaming size_append->KF,size->K2,data_append->Tr
open Prod renaming fst->Eh,snd->Amy
open Go.Value renaming tuple->C4,bool->CU,int->AL,okWide->Acg
open Go.World renaming cell?->WX,shape?->Jd
open Array renaming getElem?_modify->B3,getElem?_mapIdx->Acj,getElem?_eq_getElem->By,getElem?_append_left->KP,length_toList->EZ,getElem?_toList->Is,getElem?_eq_none->Dr
namespace Go.Ev
open Go Go.Proofs Tryz
noncomputable section
section
variable {h J h0 h1 H:Y} {v fv nv pv cv ev lv u v':Aa} {xs args vs ys:AH} {n b N i k e r j x m c q d a p t2 st sb mo ck lp rm b0 sz off:Nat} {t:Ai} {f:Au} {fn:BC} {s:Bd} {bs:Bl} {ws:Bo} {W:Nat->Prop} {Q:Aa->Y->Prop} {A:Option BD} {z df day:Int} {ss:BZ} {τ:Bb}
variable{S:A9} {L:Nat}
def wkV:AH:=[.int .i32 26085,.int .i32 26376,.int .i32 28779,.int .i32 27700,.int .i32 26408,.int .i32 37329,.int .i32 22303]
def wkB (h:Y):Bs Ax 176 7 [(0,.int .i32 26085),(1,.int .i32 26376),(2,.int .i32 28779),(3,.int .i32 27700),(4,.int .i32 26408),(5,.int .i32 37329),(6,.int .i32 22303)] h=I (sL h.nx 7 7,BN h 21 wkV):=Kq
def Arr:∀i:Nat,i<7->∃z,wkV[i]?=I (.int .i32 z)
 |0,_|1,_|2,_|3,_|4,_|5,_|6,_=>⟨_,B⟩
def ABa (c:Base S L):Bk S L 1 153 [Vi day] h λw J=>AA h J/\∃(t:Bd) (b:Bool),w=.tuple #[.string t,.bool b]/\t.size<=4:=
 Cn f153 c λd g _=>by
  refine Ad (λa=>⟨AA.refl h,_,_,B,by decide⟩) (λa=>Ad (λe=>⟨AA.refl h,_,_,B,by decide⟩) (λe=>?_));have a:=KK a;obtain⟨z,f⟩:=Arr (day%7).toNat G;refine⟨_,_,wkB h,⟨G,by decide⟩,G,_,Dz (ld B ((Own.row h 21 wkV).cell f)) (by show 0+(day%7).toNat*1=_;omega),_,B,AA.row h 21 wkV,_,_,B,Nz _⟩
structure Avk where
 nm:Bd
 y:Int
 m:Int
 d:Int
def Acp (e:Avk):AH:=[.string e.nm,.int .i64 e.y,.int .i64 e.m,.int .i64 e.d]
def Ayf (e:Avk):Prop:=e.nm.size<=10/\1<=e.y/\e.y<=3000
def Azf (w:Aa):Prop:=∃cs,w=.agg cs/\∀k:Nat,k<5->∃e,Ayf e/\I8 Ax 346 (.agg cs) (.int .i64 k)=I (.agg ⟨Acp e⟩)
def Own.cA {t:Nat} (a:ZX τ t k=Ag) {e:Ai} (o:Own h b e xs) (c:vs.length=k) (d:i+k<=xs.length) (h1:vs.all one=Ag) {K:Y->Prop} (H:∀J,Own J b e (I2 xs i vs)->Er b h J->K J):
 ∃J,BA τ t h b i (.agg ⟨vs⟩)=I J/\K J:=by
 obtain⟨J,f,o',u⟩:=o.bD a c d h1;exact⟨J,f,H J o' u⟩
def AEp (a:Base S L):Bk S L 1 225 [] h λw J=>AA h J/\Azf w:=
 Cn f225 a λd f _=>by
  obtain⟨g,y,s⟩:=(Sep.nil h).al (z:=.agg ⟨(AE 5 (Acp ⟨⟨#[]⟩,0,0,0⟩)).flatten⟩) Kq;refine⟨_,_,y _,(s.dD (i:=0) B).cA Kq B Jq B λj b c=>?_⟩;refine⟨_,EQ Kq b.cells B,s.e.ah c Jq,_,B,λk l=>?_⟩;rcases k with _|_|_|_|_|k
  all_goals first
   |exact⟨⟨_,_,_,_⟩,⟨by decide,by decide,by decide⟩,rfl⟩
   |omega
def Awx (w:Aa):Prop:=∃(t:Bd) (z:Nat) (b:Bool),w=.tuple #[.string t,.int .i64 z,.bool b]/\t.size<=10/\(b=Ag->z<=9999)
def AGk (b:Base S L):Bk S L 4 156 [Vi day] h λw J=>AA h J/\Awx w:=
 Cn f156 b λd O P=>by
  refine⟨_,Auk b d G,?_⟩;rintro _ h ⟨rfl|⟨_,y,m,f,rfl,Q,R,T⟩,rfl⟩
  .exact⟨_,_,B,AA.refl _,_,0,_,B,by decide,λh=>by cases h⟩
  refine⟨_,_,B,_,AEp b d G,?_⟩;rintro _ h1 ⟨C,cs,rfl,D⟩;refine⟨λl A a=>∃k:Nat,A=[(5,Vi y),(6,Vi m),(7,Vi f),(19,.agg cs),(20,Vi k)]/\k<=5/\l=5-k/\AA h a,
   ⟨_,_,Sq,G,0,B,Al _,B,C⟩,?_⟩
  rintro l A a ⟨k,rfl,V,rfl,n⟩ W;refine Ad (λg=>?_) (λg=>⟨n,_,0,_,B,by decide,λh=>by cases h⟩);have g:=Fp g;obtain⟨e,⟨E,X,e3⟩,U⟩:=D k G;obtain⟨g1,F,j,H,o⟩:=(Sep.nil a).var (t:=345) (z:=.agg ⟨Acp ⟨⟨#[]⟩,0,0,0⟩⟩) Kq (v:=.agg ⟨Acp e⟩) B B B;have p:=n.trans o.e;have c:∀(i:Nat) v,(Acp e)[i]?=I v->Cell j a.nx i v:=λi v U=>(o.dD (i:=0) B).cell U;have c1:=c 1 _ B;have q:=c 2 _ B;have r:e.y<=y->AA h j/\Awx (.tuple #[.string e.nm,Vi ((y:Int)-e.y+1),.bool Ag]):=λh=>⟨p,_,((y:Int)-e.y+1).toNat,_,by rw[UQ G],E,λ_=>G⟩;refine⟨_,U,_,_,F _,_,H,_,ld B c1,Ad (λs=>?_) (λs=>⟨_,ld B c1,Ad (λu=>⟨_,ld B q,Ad (λK=>?_) (λK=>⟨_,ld B q,Ad (λM=>⟨_,ld B (c 3 _ B),Ad (λk6=>?_) (λk6=>?_)⟩) (λM=>?_)⟩)⟩) (λu=>?_)⟩)⟩
  all_goals first
   |exact⟨Pq,(λN=>⟨_,_,N,(show 5-(k+1)<5-k by omega),k+1,B,G,B,p⟩:∀{A:As},Sub [(5,Vi y),(6,Vi m),(7,Vi f),(19,.agg cs),(20,Vi ((k+1:Nat):Int))] A->∃m' x,Sub x A/\m'<5-k/\∃k:Nat,x=[(5,Vi y),(6,Vi m),(7,Vi f),(19,.agg cs),(20,Vi k)]/\k<=5/\m'=5-k/\AA h j) (Sq)⟩
   |exact⟨[],Kq,_,ld rfl (c 0 _ rfl),_,ld rfl c1,Pq,Pq,r (by have:=Fp s;omega)⟩
   |exact⟨[],Jq,_,ld rfl (c 0 _ rfl),_,ld rfl c1,Pq,Pq,r (by have:=Fp u;omega)⟩
def pfx (s t:Bd):Bool:=if t.size<=s.size then Gp ((s.data.toList.drop 0).take (t.size-0)) t.data.toList else Ah
def Ads (a:Base S L) {t:Bd}:Bk S L 2 130 [Sg s,Sg t] h λw J=>J=h/\w=.bool (pfx s t):=
 Cn f130 a λd b _=>by
  have c:Bk S L 1 207 [Sg s,Sg t] h λw J=>J=h/\w=.bool (pfx s t):=Cn f207 a λd b _=>by
   apply Bz<;>intro e
   .exact⟨_,_,Cs (CN _) (slS G),_,B,B,by unfold pfx;rw[Bi G];rfl⟩
   .exact⟨B,by unfold pfx;rw[Bm G];rfl⟩
  exact⟨_,c d G,λ_ _ h=>h⟩
def AEq (a:Base S L) {n:Int} (b:n=2\/n=3):Bk S L 1 335 [.int .u64 1,.int .u64 n] h λw J=>J=h/\w=.tuple #[.int .u64 0,.int .u64 n]:=by
 rcases b with rfl|rfl
 all_goals exact Co f335 a λd c=>Jq
def ADn (a:Base S L) {n:Int} (i:0<=n/\n<=3):Bk S L 4 224 [Sg ⟨#[48]⟩,Vi n] h λw J=>J=h/\∃t:Bd,w=.string t/\t.size<=10:=by
 have e:n=2\/n=3->Bk S L 4 224 [Sg ⟨#[48]⟩,Vi n] h λw J=>J=h/\∃t:Bd,w=.string t/\t.size<=10:=λf=>Co f224 a λd b=>by
  have g:Bk S L 2 290 [.int .u64 1,.int .u64 n] h λw J=>J=h/\w=.tuple #[.int .u64 0,.int .u64 n]:=Co f290 a λd b=>by
   refine⟨Dc B,_,AEq a f d G,?_⟩;rintro _ h ⟨rfl,rfl⟩;exact⟨B,B⟩
  refine⟨Dc B,?_⟩;rcases f with rfl|rfl
  all_goals
   refine⟨_,.inl ⟨⟨by decide,by decide⟩,B⟩,_,.inl ⟨⟨by decide,by decide⟩,B⟩,_,g d G,?_⟩;rintro _ h ⟨rfl,rfl⟩;refine⟨_,.inl ⟨⟨by decide,by decide⟩,B⟩,⟨by decide,by decide⟩,_,Ads a d G,?_⟩;rintro _ h ⟨rfl,rfl⟩;refine cl (Ads a) ?_;rintro _ h ⟨rfl,rfl⟩;refine cl (Ads a) ?_;rintro _ h ⟨rfl,rfl⟩;exact⟨_,_,B,B,_,B,by decide⟩
 rcases(show n=0\/n=1\/n=2\/n=3 by omega) with rfl|rfl|c|c
 .exact Co f224 a λd b=>⟨Dc B,B,_,B,by decide⟩
 .exact Co f224 a λd b=>⟨Dc B,B,_,B,by decide⟩
 .exact e (.inl c)
 .exact e (.inr c)
def AGp (b:Base S L) (q:Jx h) (c:x<=9999) {n:Int} (g:0<=n/\n<=4):Bk S L 6 155 [Vi x,Vi n] h λw J=>AA h J/\∃t:Bd,w=.string t/\t.size<=20:=
 Cn f155 b λd i _=>by
  refine cl (Aps b q c) ?_;rintro _ h1 ⟨e,ds,rfl,j,k⟩;have a:(EY ds).size=ds.length:=rfl;refine⟨⟨by rw[a];omega,by rw[a];omega⟩,λz f=>?_⟩;rw[a] at f;refine cl (ADn b G) ?_;rintro _ l ⟨rfl,t,rfl,m⟩;exact⟨Sg (t++EY ds),ZS _ _ (by rw[a];omega),e,_,B,by rw[KF,a];omega⟩
end
section
variable{S:A9} {L:Nat}
section
variable {h J h0 h1 H:Y} {v fv nv pv cv ev lv u v':Aa} {xs args vs ys:AH} {n b N i k r j x m c q d a p t2 st sb mo ck lp rm b0 sz off:Nat} {t:Ai} {f:Au} {fn:BC} {s:Bd} {bs:Bl} {ws:Bo} {W:Nat->Prop} {Q:Aa->Y->Prop} {A:Option BD} {z df day:Int} {ss:BZ} {τ:Bb}
def AGn (h0:Y) (b:Nat) (v:Aa) (ss:BZ):List Ct:=[aO b 55 [v],aS h0.nx 9 1 v ss.length (AR ss)]
def MP (h0 h:Y) (b m:Nat):Prop:=∃(v:Aa) (ss:BZ),ss.length<=m/\Sep h0 h (AGn h0 b v ss)
def MP.ext {h0 h J:Y} {b m:Nat} (o:MP h0 h b m) (x:AA h J):MP h0 J b m:=by
 obtain⟨v,ss,h1,s⟩:=o;exact⟨v,ss,h1,s.ext x⟩
def MP.e {h0 h:Y} {b m:Nat} (o:MP h0 h b m):AA h0 h:=by
 obtain⟨v,ss,h1,s⟩:=o;exact s.e
def Xn (a:Base S L) {h0 h:Y} {b m n:Nat} (o:MP h0 h b m) {ps:BZ} (A:m<=100) (q:ps.length=n) (r:ps.length<=100) (u:∀s∈ps,s.size<=10000):Bk S L 6 151 [sL h.nx n n,AG b 0] (BN h 9 (AR ps)) λ_ J=>MP h0 J b (m+1):=
 Cn f151 a λd C _=>by
  subst q;obtain⟨v,ss,h1,s⟩:=o;have w:=AA.row h 9 (AR ps);have c:=s.ext w;have x:Rd (BN h 9 (AR ps)).ad (sL h.nx ps.length ps.length) 1 ps.length (AR ps):=(Own.dB (k:=1) (Own.row h 9 (AR ps)) (by rw[CM];omega)).ext (AA.ad _);refine⟨[],Kq,_,ld B ((c.dD (i:=0) B).cell (i:=0) B),_,Avc a x r u (by decide) d G,?_⟩;rintro _ D ⟨f,t,rfl⟩;have g:=c.bz f;obtain⟨E,y,l,F,t3,p,H⟩:=g.bo (st:=55) (t2:=55) (e:=9) (k:=1) Kq (i:=1) B (ys:=[Sg t]) B B g.e.nx G (n':=(ss++[t]).length) (xs':=AR (ss++[t])) (by simp) (by simp[AR]);obtain⟨K,t4,z⟩:=p.stM (t:=55) B (i:=0) B (j:=0) (v:=l) (by show 0<1;decide) (D5 (p.sl (i:=1) B));subst y;exact⟨f.ag,_,_,Iv (τ:=Ax) (t:=55) (e:=9) (k:=1) Kq (Sg t) B B (by decide) _,_,_,t3,_,t4,l,ss++[t],by simp;omega,z⟩
def AAr (a:Base S L) {h:Y} (q:Jx h) (e:Mo h) {x:Nat} (f:x<=9999):Bk S L 8 157 [Vi x] h λw J=>AA h J/\∃t:Bd,w=.string t/\t.size<=10000:=
 Cn f157 a λd k _=>by
  refine cl (Aps a q f) ?_;rintro _ h1 ⟨c,ds,rfl,g,_⟩;refine cl (Aop a (e.ext c) g) ?_;rintro _ l ⟨i,t,b,rfl,j⟩;exact⟨c.trans i,t,B,j⟩
def Avg (a:Bd) (h:Y):Bs Ax 55 1 [(0,Sg a)] h=I (sL h.nx 1 1,BN h 9 (AR [a])):=Kq
def Aur (a b c:Bd) (h:Y):Bs Ax 55 3 [(0,Sg a),(1,Sg b),(2,Sg c)] h=I (sL h.nx 3 3,BN h 9 (AR [a,b,c])):=Kq
def Awt (a b c d:Bd) (h:Y):Bs Ax 55 4 [(0,Sg a),(1,Sg b),(2,Sg c),(3,Sg d)] h=I (sL h.nx 4 4,BN h 9 (AR [a,b,c,d])):=Kq
def ABb (a b c d e:Bd) (h:Y):Bs Ax 55 5 [(0,Sg a),(1,Sg b),(2,Sg c),(3,Sg d),(4,Sg e)] h=I (sL h.nx 5 5,BN h 9 (AR [a,b,c,d,e])):=Kq
def AAf (a b c d e f:Bd) (h:Y):Bs Ax 55 6 [(0,Sg a),(1,Sg b),(2,Sg c),(3,Sg d),(4,Sg e),(5,Sg f)] h=I (sL h.nx 6 6,BN h 9 (AR [a,b,c,d,e,f])):=Kq
def ABx (a b c d e f g:Bd) (h:Y):Bs Ax 55 7 [(0,Sg a),(1,Sg b),(2,Sg c),(3,Sg d),(4,Sg e),(5,Sg f),(6,Sg g)] h=I (sL h.nx 7 7,BN h 9 (AR [a,b,c,d,e,f,g])):=Kq
end
end
section
variable {h J h0 h1 H:Y} {v fv nv pv cv ev lv u v':Aa} {xs args vs ys:AH} {n b N i k e r j x m c q d a p t2 st sb mo ck lp rm b0 sz off:Nat} {t:Ai} {f:Au} {fn:BC} {s:Bd} {bs:Bl} {ws:Bo} {W:Nat->Prop} {Q:Aa->Y->Prop} {A:Option BD} {z df day:Int} {ss:BZ} {τ:Bb}
variable{S:A9} {L:Nat}
def MP.start (h:Y):∃g,(∀A,D9 Ax A h (.alloc 55)=I (AG h.nx 0,g))/\MP h g h.nx 0:=by
 obtain⟨g,y,s⟩:=(Sep.nil h).al (z:=sN) Kq;exact⟨g,y,_,[],Ae _,(s.add (a:=aS h.nx 9 1 (sN) 0 (AR [])) (AA.refl g) (AS.nil _ _ _ _) λi U=>U.elim).perm (List.Perm.swap ..)⟩
def MP.le (o:MP h0 h b m) (a:m<=n):MP h0 h b n:=by
 obtain⟨v,ss,h1,s⟩:=o;exact⟨v,ss,G,s⟩
def ZI:∀s∈([]:BZ),s.size<=N:=λ_ h=>by cases h
def Nc {a:Bd} {l:BZ} (h:a.size<=N) (t:∀s∈l,s.size<=N):∀s∈a::l,s.size<=N:=λs b=>(List.mem_cons.1 b).elim Jq (t s)
def szA {a b:Bd} (h1:a.size<=m) (c:b.size<=n) (h:m+n<=k):(a++b).size<=k:=by rw[KF];omega
def shS (a b:Bd):Bd:=((a++⟨#[230,156,136]⟩)++b)++⟨#[230,151,165]⟩
def Ard {a b:Bd} (h1:a.size<=4) (c:b.size<=4):(shS a b).size<=100:=szA (m:=20) (n:=3) (szA (m:=10) (szA (n:=3) h1 (by decide) Jq) c Jq) (by decide) (by decide)
def J63 (h:Y) (A:As) (c:Y):Prop:=∃(m d b:Nat) (a:Bd),A=[(4,.int .i64 m),(5,.int .i64 d),(7,AG b 0),(8,.func (.func 151) #[] #[AG b 0]),(11,.string a)]/\m<=12/\d<=400/\a.size<=100/\MP h c b 12
def c63 (a:Base S L) (q:Jx h) (aa:Mo h):Bk S L 9 63 [Vi day] h λw J=>AA h J/\Pb h J 14 w:=
 Nu (fn:=f63) a Kq B 11 (J63 h) λn ab=>by
  have hL:=a.aI;have c:∀{x:Nat} {H:Y},AA h H->x<=9999->Cd (B8 Ax S L n) (.func 154) [Vi x] H λw J=>∃t:Bd,w=.string t/\t.size<=4/\AA H J:=λx p=>((Aps a (q.ext x) p).mono λ_ _ ⟨f,ds,e,_,_,j⟩=>⟨_,e,j,f⟩) n G;have u:∀{x:Nat} {z:Int} {H:Y},AA h H->x<=9999->0<=z/\z<=4->Cd (B8 Ax S L n) (.func 155) [Vi x,Vi z] H λw J=>∃t:Bd,w=.string t/\t.size<=20/\AA H J:=λx p l=>((AGp a (q.ext x) p l).mono λ_ _ ⟨f,t,e,j⟩=>⟨t,e,j,f⟩) n G;have C:∀{x:Nat} {H:Y},AA h H->x<=9999->Cd (B8 Ax S L n) (.func 157) [Vi x] H λw J=>∃t:Bd,w=.string t/\t.size<=10000/\AA H J:=λx p=>((AAr a (q.ext x) (aa.ext x) p).mono λ_ _ ⟨f,t,e,j⟩=>⟨t,e,j,f⟩) n G;refine⟨Dc B,?_,?_⟩
  .refine⟨_,Auk a n G,?_⟩
   rintro _ h ⟨rfl|⟨_,y,m,d,rfl,hy,hm,hd⟩,rfl⟩
   .exact⟨_,_,B,AA.refl _,[],AS.nil _ _ _ _,by decide⟩
   obtain⟨g,M,o⟩:=MP.start h;obtain⟨b,hb⟩:∃b,b=h.nx:=⟨_,B⟩;rw[←hb] at M o;refine⟨_,_,B,_,_,M _,_,ABa a n G,?_⟩;rintro _ h1 ⟨x1,w,bw,rfl,hw⟩;have o:=o.ext x1;refine⟨_,c o.e G,?_⟩;rintro _ h2 ⟨t1,rfl,l1,f⟩;have o:=o.ext f;refine⟨_,ZS _ _ (by have:K2 ⟨#[230,156,136]⟩=3:=rfl;omega),_,c o.e G,?_⟩;rintro _ h3 ⟨t2,rfl,l2,x3⟩;have o:=o.ext x3;have N:=Ard l1 l2;have y3:K2 ⟨#[230,156,136]⟩=3:=rfl;have y4:K2 ⟨#[230,151,165]⟩=3:=rfl;refine⟨_,ZS _ _ Jq,_,ZS _ _ Jq,_,c o.e G,?_⟩;rintro _ h4 ⟨t3,rfl,l3,x4⟩;have o:=o.ext x4;refine⟨_,_,Aur _ _ _ _,_,Xn a o Jq (ps:=[t3,_,shS t1 t2]) B Jq (Nc G (Nc (by decide) (Nc G ZI))) n G,?_⟩;rintro _ h5 o;refine⟨_,c o.e G,?_⟩;rintro _ h6 ⟨t4,rfl,l4,x6⟩;have o:=o.ext x6;refine⟨_,_,AAf _ _ _ _ _ _ _,_,Xn a o Jq (ps:=[t4,_,shS t1 t2,_,w,_]) B (Ac B) (Nc G (Nc (by decide) (Nc G (Nc (by decide) (Nc G (Nc (by decide) ZI)))))) n G,?_⟩;rintro _ h7 o;refine⟨λO A D=>∃k:Nat,A=[(0,Vi day),(3,Vi y),(4,Vi m),(5,Vi d),(7,AG b 0),(8,.func (.func 151) #[] #[AG b 0]),(11,Sg (shS t1 t2)),(55,.agg ⟨[Sg ⟨#[47]⟩,Sg ⟨#[45]⟩]⟩),(56,Vi k)]/\k<=2/\O=2-k/\MP h D b (2+k),
    ⟨_,_,Sq,G,0,B,Al _,B,o⟩,?_⟩
   rintro O A D ⟨k,rfl,hk,rfl,o⟩ ad;apply Bz<;>intro k1
   .obtain⟨E,ae,U⟩:∃E:Bd,E.size<=4/\I8 Ax 255 (.agg ⟨[Sg ⟨#[47]⟩,Sg ⟨#[45]⟩]⟩) (Vi k)=I (Sg E):=by
     rcases k with _|_|k
     .exact⟨_,by decide,B⟩
     .exact⟨_,by decide,B⟩
     .omega
    refine⟨_,U,_,u o.e G (by decide),?_⟩;rintro _ P ⟨u1,rfl,m1,F⟩;have o:=o.ext F;refine⟨_,u o.e G (by decide),?_⟩;rintro _ Q ⟨R,rfl,T,r⟩;have o:=o.ext r;refine⟨_,u o.e G (by decide),?_⟩;rintro _ V ⟨u3,rfl,m3,K⟩;have o:=o.ext K;refine⟨_,_,ABb _ _ _ _ _ _,_,Xn a o G B (Ac B) (Nc G (Nc G (Nc G (Nc G (Nc G ZI))))) n G,?_⟩;rintro _ W o;exact⟨Pq,_,_,Sq,(G:2-(k+1)<_),k+1,B,G,B,o.le G⟩
   .refine⟨_,AGk a n G,?_⟩
    rintro _ h9 ⟨x9,nm,z,bb,rfl,af,l⟩;have o:=(o.ext x9).le (n:=4) G;refine Ad (λX=>?_) (λX=>⟨_,Sq,m,d,b,shS t1 t2,B,G,G,N,o.le G⟩);have l:=l X;refine⟨_,c o.e l,?_⟩;rintro _ P ⟨u1,rfl,m1,F⟩;have o:=o.ext F;refine⟨_,C o.e l,?_⟩;rintro _ Q ⟨R,rfl,T,r⟩;have o:=o.ext r;apply Ad<;>intro k3
    all_goals
     refine⟨_,_,Awt _ _ _ _ _,_,Xn a o G B (Ac B) (Nc G (Nc (by first|decide|omega) (Nc (by decide) (Nc G ZI)))) n G,?_⟩
     rintro _ V o;refine⟨_,C o.e G,?_⟩;rintro _ W ⟨u4,rfl,m4,z4⟩;have o:=o.ext z4;refine⟨_,C o.e G,?_⟩;rintro _ g5 ⟨u5,rfl,m5,z5⟩;have o:=o.ext z5;refine⟨_,_,ABx _ _ _ _ _ _ _ _,_,Xn a o G B (Ac B) (Nc G (Nc (by first|decide|omega) (Nc (by decide) (Nc G (Nc (by decide) (Nc G (Nc (by decide) ZI))))))) n G,?_⟩
     rintro _ g6 o;exact⟨_,Sq,m,d,b,shS t1 t2,B,G,G,N,o.le G⟩
  .rintro A D ⟨m,d,b,sh,rfl,hm,hd,hs,o⟩
   refine⟨_,_,Avg _ _,_,Xn a o G B (Ac B) (Nc G ZI) n G,?_⟩;rintro _ P o;refine⟨_,c o.e G,?_⟩;rintro _ Q ⟨R,rfl,T,r⟩;have o:=o.ext r;refine⟨_,c o.e G,?_⟩;rintro _ V ⟨u3,rfl,m3,K⟩;refine⟨_,_,Aur _ _ _ _,_,Xn a (o.ext K) G B (Ac B) (Nc G (Nc (by decide) (Nc G ZI))) n G,?_⟩;rintro _ W ⟨v,ss,j,s⟩;exact⟨_,ld B ((s.dD (i:=0) B).cell B),s.e,ss,s.sl (i:=1) B,G⟩
def TT (R:Aa->Prop) (n:Nat) (cs:AH):Prop:=cs.length=n*2/\cs.all one=Ag/\∀i,i<n->∃(a:Bd) (u:Aa),R u/\(cs.drop (i*2)).take 2=[.string a,u]
def Awy (u:Aa):Prop:=∃z:Int,u=.int .i64 z/\-2<=z/\z<=2
def Apu (u:Aa):Prop:=∃s:Bd,u=.string s/\s.size<=41
def cs0 (n:Nat) (z:Aa):AH:=(AE n [Value.string ⟨#[]⟩,z]).flatten
def c60 (a:Base S L):Bk S L 1 60 [] h λw J=>AA h J/\∃cs,w=.agg ⟨cs⟩/\TT Awy 6 cs:=
 Cn f60 a λd f _=>by
  obtain⟨g,y,s⟩:=(Sep.nil h).al (z:=.agg ⟨cs0 6 (Vi 0)⟩) Kq;refine⟨_,_,y _,(s.dD (i:=0) B).cA Kq B Jq B λj b c=>?_⟩;refine⟨_,EQ Kq b.cells B,s.e.ah c Jq,_,B,B,B,λi U=>?_⟩;rcases i with _|_|_|_|_|_|i
  all_goals first
   |exact⟨_,_,⟨_,rfl,by decide,by decide⟩,rfl⟩
   |omega
def c61 (a:Base S L):Bk S L 1 61 [] h λw J=>AA h J/\∃cs,w=.agg ⟨cs⟩/\TT Apu 12 cs:=
 Cn f61 a λd f _=>by
  obtain⟨g,y,s⟩:=(Sep.nil h).al (z:=.agg ⟨cs0 12 (Sg ⟨#[]⟩)⟩) Kq;refine⟨_,_,y _,(s.dD (i:=0) B).cA Kq B Jq B λj b c=>?_⟩;refine⟨_,EQ Kq b.cells B,s.e.ah c Jq,_,B,B,B,λi U=>?_⟩;rcases i with _|_|_|_|_|_|_|_|_|_|_|_|i
  all_goals first
   |exact⟨_,_,⟨_,rfl,by decide⟩,rfl⟩
   |omega
def AAz (i:Base S L) {a:Bd} (m:one u=Ag) (c:Cell h b 0 (Sg s)) {f:Nat} (j:f=149/\fn=f149\/f=159/\fn=f159):Bk S L 1 f [.agg ⟨[Sg a,u]⟩,AG b 0] h λw J=>AA h J/\∃b,w=.bool b:=by
 rcases j with⟨rfl,rfl⟩|⟨rfl,rfl⟩
 .refine Co f149 i λd k=>?_
  obtain⟨h1,b1,e,g,l⟩:=H1 Ax 145 (.agg ⟨[Sg a,u]⟩) h;exact⟨Dc B,_,_,b1,_,ld B ((g:Own h1 h.nx 145 [Sg a,u]).cell B),_,ld B (c.ext e),_,B,e,_,B⟩
 .refine Co f159 i λd k=>?_
  obtain⟨h1,b1,e,g,l⟩:=H1 Ax 149 (.agg ⟨[Sg a,u]⟩) h;exact⟨Dc B,_,_,b1,_,ld B ((g:Own h1 h.nx 149 [Sg a,u]).cell B),_,ld B (c.ext e),_,B,e,_,B⟩
def Aws (j:Base S L) (r:Rd h v 2 n xs) (H:n<=100000000) {P:AH->Prop} (p:Aee S L e fv h P) (q:∀i,i<n->P ((xs.drop (i*2)).take 2))
 {f:Nat} (h1:Ax.fn.get f=I fn) (l:Nf.contains f=Ah) (s:fn=f148\/fn=f158):Bk S L (e+1) f [v,fv] h λw J=>AA h J/\∃z:Int,w=Vi z/\-1<=z/\z<n:=by
 have K:=j.aI;obtain⟨g,first,cap,rfl,t⟩:=p
 have u:=r;obtain⟨y,C,D,rfl,M,N,O⟩:=r;rcases s with rfl|rfl
 all_goals
  refine Fm j h1 l λd Q=>?_;refine⟨Dc B,λm A a=>∃k:Nat,A=[(0,.slice C n D),(1,.func (.func g) first cap),(7,Vi n),(8,Vi k)]/\k<=n/\m=n-k/\AA h a,
   ⟨_,_,Sq,G,0,B,Al _,B,AA.refl _⟩,?_⟩
  rintro m A a ⟨k,rfl,R,rfl,x⟩ T;refine Ad (λc=>?_) (λc=>⟨x,-1,B,G,G⟩);have c:=Fp c;obtain⟨a1,V,E,_,W⟩:=(u.ext x).el (show k<n by omega);cases E;refine⟨G,_,EQ Kq Jq (by rw[Cg,AV,y];omega:((xs.drop (k*2)).take 2).length=2),_,t _ a (q k G) x d G,?_⟩;rintro _ l ⟨o,b,rfl⟩;exact Ad (λF=>⟨x.trans o,k,B,G,G⟩) λF=>⟨Pq,_,_,Sq,G,k+1,B,G,B,x.trans o⟩
def Aoy (m:Base S L) {R:Aa->Prop} (r:Rd h v 2 n xs) (X:n<=100) (t:TT R n xs) (h1:∀u,R u->one u=Ag) {z:Aa} (F:R z)
 {f:Nat} (N:f=62/\fn=f62/\z=Vi 0\/f=64/\fn=f64/\z=.string ⟨#[]⟩):Bk S L 3 f [v,Sg s] h λw J=>AA h J/\∃(u:Aa) (b:Bool),w=.tuple #[u,.bool b]/\R u:=by
 obtain⟨y,b1,o,O,n1⟩:=H1 Ax 9 (Sg s) h;obtain⟨P,c0,rfl⟩:∃A c,v=.slice A n c:=by obtain⟨_,A,c,e,_⟩:=r;exact⟨A,c,e⟩
 have C:=r.ext o;have H:∀{f:Nat} {fn:BC},(f=149/\fn=f149\/f=159/\fn=f159)->Aee S L 1 (.func (.func f) #[] #[AG h.nx 0]) y λxs=>∃(a:Bd) (u:Aa),R u/\xs=[Sg a,u]:=λQ=>⟨_,_,_,B,λxs J t x=>by
  obtain⟨a,u,j,rfl⟩:=t;exact AAz m (h1 u j) ((O.cell B:Cell y h.nx 0 (Sg s)).ext x) Q⟩
 have D:∀i,i<n->∃(a:Bd) (u:Aa),R u/\(xs.drop (i*2)).take 2=[Sg a,u]:=λi U=>t.2.2 i U;have cl:∀{q:Y} {k:Nat},AA y q->k<n->∃p u,P=I p/\R u/\Cell q p.block (p.off+k*2+1) u:=λg K=>by
  obtain⟨a1,y1,T,_,M⟩:=(C.ext g).el K;cases T;obtain⟨a,u,j,e⟩:=D _ K;rw[e] at M;exact⟨a1,u,B,j,M.at B⟩
 rcases N with⟨rfl,rfl,rfl⟩|⟨rfl,rfl,rfl⟩
 .refine Co f62 m λd V=>⟨Dc B,_,_,b1,_,Aws m C G (H (.inl ⟨B,B⟩)) D Kq B (.inl B) d G,?_⟩
  rintro _ q ⟨g,z,rfl,W,E⟩;refine Ad (λl=>⟨o.trans g,_,_,B,F⟩) (λl=>?_);have l:=KK l;obtain⟨k,rfl⟩:=B9 (show 0<=z by omega);obtain⟨p,u,rfl,j,c⟩:=cl g (k:=k) G;exact⟨⟨G,E⟩,_,ld B c,o.trans g,_,_,B,j⟩
 .refine Co f64 m λd V=>⟨Dc B,_,_,b1,_,Aws m C G (H (.inr ⟨B,B⟩)) D Kq B (.inr B) d G,?_⟩
  rintro _ q ⟨g,z,rfl,W,E⟩;refine Ad (λl=>⟨o.trans g,_,_,B,F⟩) (λl=>?_);have l:=KK l;obtain⟨k,rfl⟩:=B9 (show 0<=z by omega);obtain⟨p,u,rfl,j,c⟩:=cl g (k:=k) G;exact⟨⟨G,E⟩,_,ld B c,o.trans g,_,_,B,j⟩
def OD (p:UInt8->Bool):∀(l:Bl) (n:Nat),l.foldl (λn x=>if p x then n+1 else n) n<=n+l.length
 |[],n=>Ae _
 |
  b::l,n=>by
  rw[F7,AO];cases p b
  .exact Ao (OD p l n) G
  .exact Ao (OD p l (n+1)) G
def ABq (a:Base S L) (b:s.size<=1000):Bk S L 2 227 [Sg s,Sg ⟨#[32]⟩] h λw J=>J=h/\∃n:Nat,w=Vi n/\n<=1000:=
 Cn f227 a λd c _=>by
  refine⟨Jq,_,NA a (e:=.count) (fn:=f292) Kq B Kq B B d G,?_⟩;rintro _ h ⟨rfl,rfl⟩;refine⟨B,_,B,?_⟩;have:=OD (λx=>x==UInt8.ofNat (32:Int).toNat) s.data.toList 0;have e:s.data.toList.length=s.size:=rfl;exact Ao this G
def ADm (a:Base S L) (l:s.size<=1000):Bk S L 4 228 [Sg s,Sg ⟨#[32]⟩] h λw J=>J=h/\∃z:Int,w=Vi z/\(z=-1\/0<=z/\z<s.size):=
 Cn f228 a λd f _=>by
  have g:∀{b:UInt8},Bk S L 2 336 [Sg s,.int .u8 b.toNat] h λw J=>J=h/\∃z:Int,w=Vi z/\(z=-1\/0<=z/\z<s.size):=λ{b}=>Cn f336 a λd f _=>by
   have e:R6 Ax .indexByte [Sg s,.int .u8 b.toNat] h=(match s.data.toList.findIdx? (·==UInt8.ofNat (b.toNat:Int).toNat) with|some i=>I (Vi (AQ i),h)|none=>I (Vi (-1),h)):=rfl
   cases c:s.data.toList.findIdx? (·==UInt8.ofNat (b.toNat:Int).toNat) with
   |
    none=>
    rw[c] at e;refine⟨_,NA a (fn:=f357) Kq B Kq B e d G,?_⟩;rintro _ h ⟨rfl,rfl⟩;exact⟨B,_,B,.inl B⟩
   |
    some i=>
    rw[c] at e;refine⟨_,NA a (fn:=f357) Kq B Kq B e d G,?_⟩;rintro _ h ⟨rfl,rfl⟩;have U:i<s.size:=(List.findIdx?_eq_some_iff_getElem.1 c).1;exact⟨B,_,B,.inr ⟨Int.natCast_nonneg i,by show(i:Int)<_;omega⟩⟩
  have j:Bk S L 3 293 [Sg s,Sg ⟨#[32]⟩] h λw J=>J=h/\∃z:Int,w=Vi z/\(z=-1\/0<=z/\z<s.size):=Cn f293 a λd f _=>by
   exact⟨_,B,Ad (λk=>⟨B,0,B,.inr ⟨by decide,by rw[←CJ.1 k];decide⟩⟩) (λ_=>⟨⟨by decide,by decide⟩,_,g d G,λ_ _ h=>h⟩)⟩
  exact⟨_,j d G,λ_ _ h=>h⟩
def Own.dc (o:Own h b e xs) (hb:N<=b) (d:xs.length=c) (a:n<=c):AS h N e 1 (sL b n c) n (xs.take n):=
 ⟨by rw[Cg];omega,.inr ⟨b,c,xs.drop n,B,hb,a,by rw[FO];omega,by rw[FO];exact o⟩⟩
def AAl (c:Base S L) (o:s.size<=1000):Bk S L 5 160 [Sg s,Sg ⟨#[32]⟩,Vi 0,Vi (-1)] h λw J=>AA h J/\Pb h J 1001 w:=
 Cn f160 c λd H K=>by
  have M:K2 ⟨#[32]⟩=1:=rfl;refine⟨_,B,_,ABq c o d G,?_⟩;rintro _ h ⟨rfl,n,rfl,N⟩;refine⟨Pq,Pq,λz r=>?_⟩;obtain⟨m,rfl⟩:=B9 (show 0<=z by omega);obtain⟨g,u,y,C,O⟩:=MA (τ:=Ax) (t:=55) (z:=.string ⟨#[]⟩) Kq Kq B m G .i64 .i64 h;have D:=(Sep.nil h).add (a:=aO h.nx 9 (AR (AE m ⟨#[]⟩))) y (by rw[AR,KD];exact C) λi U=>A2 U.symm;refine⟨_,_,u,Pq,λp A f=>∃(k:Nat) (t:Bd) (ss:BZ),A=[(0,Sg t),(1,Sg ⟨#[32]⟩),(2,Vi 0),(3,Vi ((m:Int)-1)),(9,sL h.nx m m),(10,Vi k)]/\t.size<=1000/\k+1<=m/\p=m-k/\ss.length=m/\Sep h f [aO h.nx 9 (AR ss)],
   ⟨_,_,Sq,G,0,s,_,B,o,G,B,List.length_replicate,D⟩,?_⟩
  rintro p A f ⟨k,t,ss,rfl,E,q,rfl,F,s⟩ P;have st:∀x:Bd,∃J,BA Ax 9 f h.nx (0+(k:Int).toNat*1) (Sg x)=I J/\Sep h J [aO h.nx 9 (AR (ss.set k x))]:=λx=>by
   obtain⟨J,e,b⟩:=s.st (t:=9) B (i:=0) B (j:=k) (by rw[CM];omega) (v:=.string x) B;refine⟨J,?_,?_⟩
   .rw[show 0+(k:Int).toNat*1=k by omega];exact e
   .have:AR (ss.set k x)=(AR ss).set k (Sg x):=Cp
    rw[this];exact b
  have Da:∀{J:Y},Sep h J [aO h.nx 9 (AR (ss.set k t))]->AA h J/\Pb h J 1001 (sL h.nx (k+1) m):=λ{J} b=>by
   have e:((ss.set k t).take (k+1)).length=k+1:=by rw[Cg,B4];omega
   refine⟨b.e,(ss.set k t).take (k+1),?_,G⟩;have:=(b.dD (i:=0) B).dc (Ae _) (by rw[CM,B4];exact F) q;rw[e];unfold AR at this⊢;rw[List.map_take];exact this
  refine Ad (λl=>⟨_,ADm c E d G,?_⟩) (λl=>?_);rintro _ _ ⟨rfl,z,rfl,r⟩;have l:=Fp l;apply Bz<;>intro Q;rotate_left
  .obtain⟨J,e,b⟩:=st (EY ((t.data.toList.drop 0).take ((z+0).toNat-0)))
   refine⟨Pq,_,_,Cs (CN _) (sHi G G),G,_,e,Pq,_,_,Cs (CN _) (sLo G (by show(z+1:Int)<=_;omega)),Pq,_,_,Sq,Jq,k+1,_,_,B,?_,G,B,Jq,b⟩;have:(EY ((t.data.toList.drop (z+1).toNat).take (t.size-(z+1).toNat))).size=((t.data.toList.drop (z+1).toNat).take (t.size-(z+1).toNat)).length:=rfl;have e:t.data.toList.length=t.size:=rfl;refine Ao (A2 this) ?_;rw[Cg,AV];omega
  all_goals
   obtain⟨J,e,b⟩:=st t;exact⟨G,_,e,Pq,_,_,Cs (CN _) (Avp h.nx 0 m m (k+1) q),Da b⟩
def c65 (a:Base S L) (b:s.size<=1000):Bk S L 6 65 [Sg s,Sg ⟨#[32]⟩] h λw J=>AA h J/\Pb h J 1001 w:=
 Cn f65 a λd c _=>⟨_,AAl a b d G,λ_ _ h=>h⟩
def Tf {b:Nat} (hb:b<256):Fk b<256/\(240<=Fk b\/2<=Fk b%8):=by
 have Cw:(BG 256).all (λb=>AD (Fk b) 256&&(Ar 240 (Fk b)||Ar 2 (Fk b%8)))=true:=by kernel_rfl
 have:=List.all_eq_true.1 Cw b (List.mem_range.2 hb);rw[An,Dm] at this;exact⟨by simpa[AK] using this.1,this.2.imp Ac Ac⟩
def Aev {x:Nat} (a:x<256):D8 .u8 (x:Int) 7=((x%8:Nat):Int):=by
 have Cw:(BG 256).all (λx=>D8 .u8 (x:Int) 7==((x%8:Nat):Int))=true:=by kernel_rfl
 simpa using List.all_eq_true.1 Cw x (List.mem_range.2 a)
def Afn {x:Nat} (a:x<256):DN .u8 (x:Int) 4=((x/16:Nat):Int):=by
 have Cw:(BG 256).all (λx=>DN .u8 (x:Int) 4==((x/16:Nat):Int))=true:=by kernel_rfl
 simpa using List.all_eq_true.1 Cw x (List.mem_range.2 a)
def Abd {t:Ai} {ox oy:BU} {a b:Int}:∃z,Jo Ax .andNot t ox oy (.int .i32 a) (.int .i32 b)=I (.int .i32 z):=by
 have hb:∀u,Hn (binOp .andNot t (.int .i32 a) (.int .i32 b))=I u->Jo Ax .andNot t ox oy (.int .i32 a) (.int .i32 b)=I u:=λu h=>NU h;exact⟨_,hb _ (by rw[CX (by simp) (by simp)];rfl)⟩
def Dec (s:Bd) (w:Aa):Prop:=∃z n:Int,w=.tuple #[.int .i32 z,.int .i64 n]/\1<=n/\n<=s.size
def ADw (n:Base S L) {h:Y} (F:Ce h) {s:Bd} (C:1<=s.size):Bk S L 1 294 [Sg s] h λw J=>AA h J/\Dec s w:=
 Fm (fn:=f294) n (by kernel_rfl) B λd D=>by
  have hb:=UInt8.toNat_lt (Cv s 0);have l:=F.1 (Cv s 0).toNat hb;obtain⟨c,o⟩:=Tf hb;generalize Fk (Cv s 0).toNat=x at l c o;have E:=Aev c;have p:=Afn c;have f:=F.2 (x/16) (G);generalize(K6 (x/16)).1=a at f;generalize(K6 (x/16)).2=b at f;refine⟨Dc B,Bz (λ_=>G) (λ_=>⟨⟨by decide,G⟩,⟨G,by show((Cv s 0).toNat:Int)<256;omega⟩,_,Dz (ld B l) (by show 0+((Cv s 0).toNat:Int).toNat*1=_;omega),Bz (λq=>?_) (λq=>?_)⟩)⟩
  .obtain⟨z,r⟩:=Abd (t:=21) (ox:=.tmp 30) (oy:=.tmp 31) (a:=IntKind.i32.wrap (Cv s 0).toNat) (b:=DN .i32 (Es .i32 (IntKind.i32.wrap x) 31) 31)
   exact⟨_,.inr B,by decide,by decide,⟨by decide,G⟩,_,.inr B,_,r,AA.refl h,_,_,B,by decide,G⟩
  obtain⟨g,u,m,y,j⟩:=(Sep.nil h).var (t:=336) (z:=.agg ⟨[.int .u8 0,.int .u8 0]⟩) (by kernel_rfl) (v:=.agg ⟨[.int .u8 a,.int .u8 b]⟩) B B B;have A:Cell m h.nx 0 (.int .u8 a):=(j.dD (i:=0) B).cell (i:=0) B;have c1:Cell m h.nx 1 (.int .u8 b):=(j.dD (i:=0) B).cell (i:=1) B;have e:=j.e;refine⟨_,.inl Pq,by decide,⟨G,by show DN .u8 (x:Int) 4<16;omega⟩,_,EQ (k:=2) (by kernel_rfl) (show BK h 1 (0+(DN .u8 (x:Int) 4).toNat*2) [.int .u8 a,.int .u8 b] by rw[p,Ba,UG];exact f) B,_,_,u _,_,y,?_⟩;refine Bz (λ_=>⟨e,_,_,B,by decide,G⟩) (λH=>?_);have K:2<=s.size:=by omega
  refine⟨⟨by decide,G⟩,_,ld B A,?_⟩
  repeat' first
   |exact⟨e,_,_,rfl,by decide,G⟩
   |refine⟨_,ld rfl c1,?_⟩
   |apply Bz<;>intro _
   |apply Ad<;>intro _
   |refine⟨⟨by decide,G⟩,?_⟩
   |refine⟨by decide,?_⟩
   |refine⟨_,.inr rfl,?_⟩
def AEf (b:Base S L) {h:Y} (F:Ce h) {s:Bd} (e:1<=s.size):Bk S L 2 229 [Sg s] h λw J=>AA h J/\Dec s w:=
 Fm (fn:=f229) b (by kernel_rfl) B λd g=>by
  have c:∀{k:Aa->Y->Prop},(∀z n:Int,∀J,AA h J->1<=n->n<=s.size->k (.tuple #[.int .i32 z,Vi n]) J)->∃Q,Cd (B8 Ax S L d) (.func 294) [Sg s] h Q/\∀v J,Q v J->k v J:=λH=>⟨_,ADw b F e d (G),by
   rintro _ J ⟨x,z,n,rfl,h1,a⟩;exact H z n J x h1 a⟩
  refine⟨Dc B,_,B,Ad (λf=>?_) (λf=>?_)⟩
  .refine⟨⟨by decide,G⟩,?_⟩
   repeat' first
    |exact⟨⟨by decide,G⟩,_,.inr rfl,AA.refl h,_,_,rfl,by decide,G⟩
    |exact c λz n J x h1 a=>⟨x,_,_,B,h1,a⟩
    |apply Ad<;>intro _
  .repeat' first
    |exact c λz n J x h1 a=>⟨x,_,_,B,h1,a⟩
    |apply Ad<;>intro _
    |exact⟨⟨by decide,G⟩,_,.inr rfl,AA.refl h,_,_,rfl,by decide,G⟩
def W3 (z:Nat):Int:=if z<=127 then 1 else if z<=2047 then 2 else if 55296<=z/\z<=57343 then-1 else if z<=65535 then 3 else if z<=1114111 then 4 else-1
def ADc (a:Base S L) {h:Y} {z:Nat}:Bk S L 1 230 [.int .i32 z] h λw J=>J=h/\w=Vi (W3 z):=
 Fm (fn:=f230) a (by kernel_rfl) B λd b=>by
  have Da:∀v:Int,v=W3 z->(h=h/\(Vi v:Aa)=Vi (W3 z)):=λv e=>⟨B,Cs _ e⟩;refine⟨Dc B,?_⟩
  repeat' first
   |exact Da _ (by unfold W3;(repeat' split)<;>first|rfl|omega)
   |apply Bz<;>intro _
   |apply Ad<;>intro _
def Adl (S:A9) (L e:Nat) (fv:Aa):Prop:=∃g,fv=.func (.func g) #[] #[]/\∀(z:Nat) (h:Y),z<=1114111->Bk S L e g [.int .i32 z] h λw J=>J=h/\∃r:Int,w=.int .i32 r/\-2147483648<=r/\r<=2147483647
def Axp (a:Base S L):Adl S L 2 (PU 67):=⟨_,rfl,λz h b=>Fm (fn:=f67) a (by kernel_rfl) B λd e=>by
 refine⟨Dc B,_,c68 a d (G),?_⟩;rintro _ h ⟨rfl,c,rfl,_,_⟩
 repeat' first
  |exact⟨rfl,_,rfl,G,G⟩
  |exact⟨Pq,rfl,_,rfl,G,G⟩
  |refine Ad (λ_=>?_) (λ_=>?_)⟩
def Aog (a:Base S L):Adl S L 2 (PU 82):=⟨_,rfl,λz h b=>Fm (fn:=f82) a (by kernel_rfl) B λd e=>by
 refine⟨Dc B,_,c68 a d (G),?_⟩;rintro _ h ⟨rfl,c,rfl,_,_⟩;exact Ad (λ_=>⟨Pq,B,_,B,G,G⟩) (λ_=>⟨B,_,B,G,G⟩)⟩
def Azg (a:Base S L):Adl S L 2 (PU 83):=⟨_,rfl,λz h b=>Fm (fn:=f83) a (by kernel_rfl) B λd e=>by
 refine⟨Dc B,Ad (λ_=>⟨B,_,B,by decide,by decide⟩) (λ_=>⟨_,c68 a d (G),?_⟩)⟩;rintro _ h ⟨rfl,c,rfl,_,_⟩;exact Ad (λ_=>⟨Pq,B,_,B,G,G⟩) (λ_=>⟨B,_,B,G,G⟩)⟩
def Adc (m:Nat) (x:Lc):Nat->Option Lc:=λj=>bif Am j m then I x else Z
def Xa:DC->DC
 |.seq a _=>a
 |_=>.skip
def GY:DC->DC
 |.seq _ b=>b
 |_=>.skip
def Aiz {S:A9} {L:Nat} {d:Nat} {f:Au} {fn:BC} {args:AH} {h:Y} {Q:Aa->Y->Prop} {c:DC} (c1 i:DC) {m:Nat} {x:Lc} (w:Ax.fn.get f=I fn) (z:fn.body=I c) (C:S.ov f=Z) (D:S.nd f=Z) (E:S.hk f=I (Adc m x))
 (H:∀(l:Be) (K:Kt) (fr:Fr) (h:Y),Qq Ax l L Z (Adc m x) (IC c) 0 K fr h=B7 Ax l L Z c1 {n:=λfr h=>(match x fr h with|some (a,J)=>B7 Ax l L Z i K a J|none=>Z),x:=K.x,r:=K.r,p:=K.p} fr h)
 (o:As->Y->Prop) (b:args.length<=fn.ntmps)
 (M:∀n,d<=n->J2 Ax (B8 Ax S L n) L fn.ntmps c1 (kp (λA h=>∃g,Sub g A/\o g h) (λ_ _ _=>False) (λA h=>Ex Ax A h fn.results.toList (λvs=>Q (Ff vs) h))) (PJ args 0) h)
 (N:∀n,d<=n->∀A h,o A h->∃s,(∀fr,Gx A fr->fr.sz=fn.ntmps->∃a,x fr h=I (a,h)/\Gx s a/\a.sz=fr.sz/\a.ds=fr.ds)/\
  J2 Ax (B8 Ax S L n) L fn.ntmps i (kp (λA h=>Ex Ax A h fn.results.toList (λvs=>Q (Ff vs) h)) (λ_ _ _=>False) (λA h=>Ex Ax A h fn.results.toList (λvs=>Q (Ff vs) h))) s h):Bk S L (d+1) f args h Q:=by
 intro n ab;obtain⟨q,rfl⟩:∃q,n=q+1:=⟨n-1,G⟩;refine P1.cd C D ?_
 let F:=Qt Ax S fn
 have e:∀k kp,DY Ax S (B8 Ax S L q) L f args h k kp=B7 Ax (B8 Ax S L q) L Z c1 {n:=λfr h=>(match x fr h with|some (a,J)=>B7 Ax (B8 Ax S L q) L Z i (F k kp) a J|none=>Z),x:=(F k kp).x,r:=(F k kp).r,p:=(F k kp).p} ⟨T.laid args 0 .nil,fn.ntmps,[]⟩ h:=λk kp=>by
  have O:GA args fn.ntmps=I ⟨T.laid args 0 .nil,fn.ntmps,[]⟩:=by
   unfold GA;rw[show Ar args.length fn.ntmps=Ag from Aq b];rfl
  unfold DY;rw[w];simp only[z,O];unfold Ss;simp only[E];exact H _ _ _ _
 rw[funext λy:(Aa->Y->RR)×(Aa->Y->RR)=>e y.1 y.2];refine La W0 R3 L _ _ _ _ _ () _ h (M q G) (TB b) B B ⟨λa J _ A u P r ⟨g,R,j⟩=>?_,λ_ _ _ _ _ _ _ _ c=>c.elim,Acv.r,λ_ _ _ _ _ _ _ _ c=>c.elim⟩;obtain⟨V,W,X⟩:=N q G g J j;obtain⟨aa,x1,x2,x3,x4⟩:=W a (λt v b=>r t v (R t v b)) u;simp only[x1];exact La W0 R3 L _ _ _ _ V () aa J X x2 (x3.trans u) (x4.trans P) Acv
def AAn:Aa->Bool
 |.slice Z _ _=>Ag
 |_=>Ah
def Wl {h:Y} {N b:Nat} {v:Aa} {bs:Bl} (H:Ey h N b v bs) {A:As} (q:look A 5=I (AG b 0)) (s:look A 64=Z) {sz:Nat} (z:65<sz):
 ∀fr,Gx A fr->fr.sz=sz->∃d,HG 5 64 65 1 fr h=I (d,h)/\Gx ((65,.bool (AAn v))::A) d/\d.sz=fr.sz/\d.ds=fr.ds:=by
 intro fr r C;have i:=r 5 _ q;obtain⟨c,n,e,lo,U,x,hb,j⟩:∃c n e lo U x,h.t.get b=I (.cells c n e lo U x)/\c.get 1=I v:=by
  rcases H.c with⟨_,c,h1,f⟩|⟨_,c,h1,f⟩
  .exact⟨_,_,_,_,_,_,h1,f 1 _ B⟩
  .exact⟨_,_,_,_,_,_,h1,f 1 _ B⟩
 have l:AD 64 fr.sz=true:=by rw[AK];omega
 have m:AD 65 fr.sz=true:=by rw[AK];omega
 have o:∀w:Aa,Gx ((65,w)::A) ⟨(UT fr.tm 64).ins 65 w,fr.sz,fr.ds⟩:=λw t u a=>by
  rw[Ev.T.dA];replace a:(bif Am 65 t then I w else look A t)=I u:=a
  by_cases g:t=65
  .subst g;rw[Bi B];exact a
  .rw[Bm g,V8]
   rw[show Am 65 t=Ah from Bool.eq_false_iff.2 λh=>g (Af h).symm] at a;by_cases p:t=64
   .subst p;rw[I0,s] at a;cases a
   .rw[Bm p];exact r t u a
 rcases H.o with⟨rfl,_⟩|⟨D,k,E,y,rfl,_,_,F,_⟩
 .exact⟨_,by unfold HG;simp[i,AG,hb,j,l,m];rfl,o _,B,B⟩
 .exact⟨_,by unfold HG;simp[i,AG,hb,j,l,m,show Ar 1 k=Ag from Aq G];rfl,o _,B,B⟩
def pbc {a:Type} {P:a->Prop} {c:Bool} {x y:a} (h1:c=Ag->P x) (b:c=Ah->P y):P (bif c then x else y):=by
 cases c
 .exact b B
 .exact h1 rfl
def Aoq (b c d:Nat) (p:Nat×Nat):Prop:=p.1<=1114111/\(p.1=65533\/(W3 p.1=p.2/\(p.2=1\/(b/64=2/\(p.2=2\/(c/64=2/\(p.2=3\/(d/64=2/\p.2=4))))))))
def Aln (a b c d:Nat):Aoq b c d (ZN a b c d):=by
 have e:Aoq b c d (65533,1):=⟨by decide,.inl B⟩;refine pbc (λh=>?_) λh=>pbc (λh=>pbc (λk=>?_) λ_=>e) λh=>pbc (λh=>pbc (λk=>?_) λ_=>e) λh=>pbc (λh=>pbc (λk=>?_) λ_=>e) λ_=>e
 .rw[AK] at h
  exact⟨by show a<=_;omega,.inr ⟨by show W3 a=_;rw[W3,Bi G];rfl,.inl B⟩⟩
 .rw[An] at h
  have h1:=Af h.2;have k:=Ac k;exact⟨by show a%32*64+b%64<=_;omega,.inr ⟨by show W3 (a%32*64+b%64)=_;rw[W3,Bm G,Bi G];rfl,.inr ⟨h1,.inl B⟩⟩⟩
 .rw[An,An] at h
  rw[An,Dm,AK] at k;have h1:=Af h.1.2;have j:=Af h.2;have f:=Ac k.1;have g:=k.2.imp id Ac;obtain⟨z,i⟩:∃z,z=a%16*4096+b%64*64+c%64:=⟨_,B⟩;rw[←i] at f g⊢;exact⟨by show z<=_;omega,.inr ⟨by show W3 z=_;rw[W3,Bm G,Bm G,Bm G,Bi G];rfl,.inr ⟨h1,.inr ⟨j,.inl B⟩⟩⟩⟩
 .rw[An,An,An] at h
  rw[An] at k;have f:=Ac k.1;have g:=Ac k.2;obtain⟨z,i⟩:∃z,z=a%8*262144+b%64*4096+c%64*64+d%64:=⟨_,B⟩;rw[←i] at f g⊢;exact⟨by show z<=_;omega,.inr ⟨by show W3 z=_;rw[W3,Bm G,Bm G,Bm G,Bm G,Bi G];rfl,.inr ⟨Af h.1.1.2,.inr ⟨Af h.1.2,.inr ⟨Af h.2,B⟩⟩⟩⟩⟩
def T9 {l:Bl} (i:0<l.length):(FF l).1<=1114111/\((FF l).1≠65533->W3 (FF l).1=(FF l).2/\(FF l).2<=l.length):=by
 obtain⟨h1,a⟩:=Aln (b1 l) (b1 (l.drop 1)) (b1 (l.drop 2)) (b1 (l.drop 3));have len:∀k,b1 (l.drop k)/64=2->k<l.length:=λk b=>by
  rcases A8 k l.length with h|h
  .exact h
  .rw[Ef h] at b;cases b
 refine⟨h1,λc=>?_⟩;rcases a with a|⟨a,d⟩
 .exact Cf a c
 refine⟨a,?_⟩;show(ZN _ _ _ _).2<=_;rcases d with h|⟨e,h|⟨f,h|⟨g,h⟩⟩⟩
 .omega
 .have:=len 1 e;omega
 .have:=len 2 f;omega
 .have:=len 3 g;omega
structure MD (S:A9):Prop where
 ov:S.ov 161=Z
 nd:S.nd 161=Z
 hk:S.hk 161=I (Adc 4 (HG 5 64 65 1))
def Aqf:Code:=match f161.body with
 |some c=>c
 |none=>.skip
def Qc (a:Int):(EY ((s.data.toList.drop a.toNat).take (s.size-a.toNat))).size=s.size-a.toNat:=by
 show(Ana _ _).length=_;have e:s.data.toList.length=s.size:=rfl;rw[Cg,AV,e];omega
def Ale (a:Int):(EY ((s.data.toList.drop 0).take (a.toNat-0))).size<=a.toNat:=by
 show(Ana _ _).length<=_;rw[Cg];omega
def Azq (c:Base S L) (HB:MD S) (F:Ce h) (M:Adl S L 2 fv) (hs:s.size<=1000000):Bk S L 5 161 [fv,.string s] h λw J=>AA h J/\∃t:Bd,w=.string t/\t.size<=4*s.size+4:=by
 obtain⟨g,rfl,M⟩:=M;have hL:=c.aI;refine Aiz (fn:=f161) (YC 3 Aqf) (.seq (GY (Xa (Vf 3 Aqf))) (Vf 4 Aqf)) Kq B HB.ov HB.nd HB.hk (λ_ _ _ _=>by kernel_rfl)
  (λA a=>∃(t:Bd) (b:Nat) (v:Aa) (bs:Bl),A=[(0,.func (.func g) #[] #[]),(1,.string t),(5,AG b 0)]/\Sep h a [RK h.nx b v bs]/\bs.length+4*t.size<=4*s.size+4) (Dc B) (λd aa=>?_) (λd aa=>?_)
 .obtain⟨u,y1,s1⟩:=(Sep.nil h).a3
  obtain⟨P,s2⟩:=s1.bt s;refine⟨_,_,y1 _,_,_,P,λy A a=>∃p:Nat,A=[(0,.func (.func g) #[] #[]),(1,.string s),(5,AG h.nx 0),(14,AG u.nx 0)]/\y=s.size-p/\Sep h a [aB u.nx (.str s p),RK h.nx h.nx (.slice Z 0 0) []],
   ⟨_,_,Sq,G,0,B,B,s2⟩,?_⟩
  rintro y A a ⟨p,rfl,rfl,m⟩ ab;rcases m.bL (i:=0) B with⟨Q,w,z,K,⟨ad,hw,o⟩,R,f⟩|⟨Q,R⟩;rotate_left
  .exact⟨_,_,R,_,Sq,s,_,_,[],B,m.drop 1,by show 0+_<=_;omega⟩
  obtain⟨d1,d2⟩:=T9 (by rw[AV];show 0<s.size-p;omega);rw[←o,←hw,AV] at d2;rw[←o] at d1;have af:s.data.toList.length=s.size:=rfl;have C:∀{A:As} {J:Y},Sub [(0,.func (.func g) #[] #[]),(1,.string s),(5,AG h.nx 0),(14,AG u.nx 0)] A->AA K J->∃m' D,Sub D A/\m'<s.size-p/\∃p:Nat,D=[(0,.func (.func g) #[] #[]),(1,.string s),(5,AG h.nx 0),(14,AG u.nx 0)]/\m'=s.size-p/\Sep h J [aB u.nx (.str s p),RK h.nx h.nx (.slice Z 0 0) []]:=λT x=>⟨_,_,T,(show s.size-(p+w)<_ by omega),p+w,B,B,f.ext x⟩;refine⟨_,_,R,_,M z K d1 d G,?_⟩;rintro _ K ⟨rfl,r,rfl,hr⟩;refine Bz (λj=>Ad (λE=>C (Sq) (AA.refl _)) (λE=>?_)) (λj=>?_)
  all_goals
   refine Bz (λk3=>⟨_,_,Cs (CN _) (sLo G G),_,AEf c (F.ext f.e) (by rw[Qc];omega) d G,?_⟩) (λk3=>⟨_,ADc c d G,?_⟩);rintro _ h5 ⟨x5,z2,n,rfl,ag,ae⟩;rw[Qc] at ae;have f:=f.ext x5;have hW:0<=n/\(p:Int)+n<=s.size:=G;refine Ad (λk4=>Ad (λk5=>C (Sq) x5) (λk5=>?_)) (λk4=>?_);rotate_left;rotate_left;rintro _ K ⟨rfl,rfl⟩;have hW:0<=W3 z/\(p:Int)+W3 z<=s.size:=G
   all_goals
    refine⟨⟨by omega,by omega⟩,_,Aut c (f.bl (i:=1) B) f.e.nx G d G,?_⟩;rintro _ h7 k;obtain⟨v7,H⟩:=f.bf (i:=1) B k;have o:=Ale (s:=s) (p:Int);refine⟨_,_,Cs (CN _) (sHi G G),_,c79 c (H.bl (i:=1) B) H.e.nx (by show 0+_<=_;omega) d G,?_⟩;rintro _ h8 w8;obtain⟨v8,N⟩:=H.bf (i:=1) B w8;have hb:([]++(EY ((s.data.toList.drop 0).take ((p:Int).toNat-0))).data.toList).length<=p:=by rw[IW];exact Ao o G
    refine Bz (λk6=>⟨_,c80 c (N.bl (i:=1) B) N.e.nx G d G,?_⟩) (λk6=>?_)
    .rintro _ h9 ⟨cs,V,_,_,w9⟩
     obtain⟨v9,s9⟩:=N.bf (i:=1) B w9;exact⟨⟨by omega,by omega⟩,_,_,Cs (CN _) (sLo G G),_,Sq,_,_,_,_,B,s9.drop 1,by rw[Qc,Aj];omega⟩
    .exact⟨⟨by omega,by omega⟩,_,_,Cs (CN _) (sLo G G),_,Sq,_,_,_,_,B,N.drop 1,by rw[Qc];omega⟩
 .rintro A a ⟨t,b,v,bs,rfl,m,hl⟩
  refine⟨_,Wl (m.bl (i:=0) B) B B (by decide),Ad (λj=>⟨m.e,t,B,G⟩) (λj=>?_)⟩;obtain⟨P,f⟩:=m.bt t;refine⟨_,_,P,λy A hq=>∃(p:Nat) (v:Aa) (bs:Bl),A=[(0,.func (.func g) #[] #[]),(5,AG b 0),(68,AG a.nx 0)]/\y=t.size-p/\bs.length+4*(t.size-p)<=4*s.size+4/\Sep h hq [aB a.nx (.str t p),RK h.nx b v bs],
   ⟨_,_,Sq,G,0,_,_,B,B,hl,f⟩,?_⟩
  rintro y A hq ⟨p,v,bs,rfl,rfl,hl,O⟩ ab;rcases O.bL (i:=0) B with⟨Q,w,z,W,⟨ad,hw,o⟩,X,q⟩|⟨Q,X⟩
  .obtain⟨d1,_⟩:=T9 (by rw[AV];show 0<t.size-p;omega)
   rw[←o] at d1;refine⟨_,_,X,_,M z W d1 d G,?_⟩;rintro _ W ⟨rfl,r,rfl,hr⟩;have C:∀{A:As} {J:Y} {cs:Bl},Sub [(0,.func (.func g) #[] #[]),(5,AG b 0),(68,AG a.nx 0)] A->cs.length<=4->Gu W J h.nx b v (bs++cs)->∃m' D,Sub D A/\m'<t.size-p/\∃(p:Nat) (v:Aa) (bs:Bl),D=[(0,.func (.func g) #[] #[]),(5,AG b 0),(68,AG a.nx 0)]/\m'=t.size-p/\bs.length+4*(t.size-p)<=4*s.size+4/\Sep h J [aB a.nx (.str t p),RK h.nx b v bs]:=λT V k=>by
    obtain⟨v7,H⟩:=q.bf (i:=1) B k;exact⟨_,_,T,(show t.size-(p+w)<_ by omega),p+w,_,_,B,B,by rw[Aj];omega,H⟩
   refine Ad (λj=>Ad (λE=>?_) (λE=>?_)) (λj=>⟨_,_,CG (l:=[(0,_),(5,_),(68,_)]) ⟨B,B,B,trivial⟩,(show t.size-(p+w)<_ by omega),p+w,_,_,B,B,G,q⟩)
   .have j:=Fp j
    have E:=Fp E;refine⟨_,.inl ⟨⟨by omega,by omega⟩,B⟩,?_⟩;obtain⟨x,hx⟩:∃x:UInt8,r=(x.toNat:Int):=⟨UInt8.ofNat r.toNat,by rw[UInt8.toNat_ofNat'];omega⟩;subst hx;exact⟨_,AEi c (q.bl (i:=1) B) q.e.nx G d G,λ_ J k=>C (Sq) (Ac B) k⟩
   .exact⟨_,c80 c (q.bl (i:=1) B) q.e.nx G d G,λ_ J ⟨cs,V,_,_,k⟩=>C (Sq) V.2 k⟩
  .refine⟨_,_,X,_,c81 c (O.bl (i:=1) B) G d G,?_⟩
   rintro _ g ⟨rfl,c6⟩;exact⟨O.e.then c6 λi U=>(O.bl (i:=1) B).o.ge i U,_,B,by show bs.length<=_;omega⟩
def VS (n:Nat) (v:Aa):Prop:=∃t:Bd,v=.string t/\t.size<=n
def c66 (a:Base5 S L) (HB:MD S) {h:Y} (F:Ce h) {fv:Aa} (M:Adl S L 2 fv) {s:Bd} (c:s.size<=1000000):Bk S L 7 66 [.string s,fv] h λw J=>AA h J/\VS (4*s.size+4) w:=
 Cn f66 a.toBase λd f _=>by
  refine⟨_,c77 a F G d G,?_⟩;rintro _ h1 ⟨b,rfl⟩;refine⟨_,_,B,Ad (λ_=>⟨b,s,B,G⟩) (λ_=>⟨_,Azq a.toBase HB (F.ext b) M c d G,?_⟩)⟩;rintro _ g ⟨e,q⟩;exact⟨b.trans e,q⟩
def Zag (i:Nat) (s:Bd):Prop:=(i=27\/i=42\/i=44)/\s.size<=200000\/i=43/\s.size<=1000
def Zae (i:Nat) (s:Bd):Nat:=if i=43 then 1100000 else 4*s.size+4
def Za9 (i:Nat):Bl:=if i<31 then [239,189,UInt8.ofNat (161+i)] else [239,190,UInt8.ofNat (97+i)]
def Zbw:Bo:=[12290,12300,12301,12289,12539,12530,12449,12451,12453,12455,12457,12515,12517,12519,12483,12540,12450,12452,12454,12456,12458,12459,12461,12463,12465,12467,12469,12471,12473,12475,12477,12479,12481,12484,12486,12488,12490,12491,12492,12493,12494,12495,12498,12501,12504,12507,12510,12511,12512,12513,12514,12516,12518,12520,12521,12522,12523,12524,12525,12527,12531]
def Zbx:List (Nat×Bl):=Zbw.mapIdx (λi r=>(r,Za9 i))++((18::(List.range' 21 15++List.range' 41 5)).map λi=>(if i=18 then 12532 else Zbw.getD i 0+1,Za9 i++[239,190,158]))++(List.range' 41 5).map λi=>(Zbw.getD i 0+2,Za9 i++[239,190,159])
def Za0:List MapEntry:=Zbx.mapIdx λi p=>⟨.int .i32 (p.1:Int),.string ⟨⟨p.2⟩⟩,i⟩
def Zab (S:A9) (L:Nat) (h:Y):Prop:=∀{J:Y},AA h J->Bk S L 1 78 [] J λw g=>w=.map (some J.nx)/\g=J.new (.map Za0 87)
structure Zai (S:A9) (L:Nat) (Zaf:Nat->Bd->Bd) (h:Y):Prop where
 kan:∀{J:Y} {s:Bd} (i:Nat),AA h J->Zag i s->Bk S L 1 i [.string s] J λw g=>AA J g/\w=.string (Zaf i s)
 ksz:∀{i:Nat} {s:Bd},Zag i s->(Zaf i s).size<=Zae i s
 kfm:Zab S L h
def Zai.ext {Zaf:Nat->Bd->Bd} (K:Zai S L Zaf h) (x:AA h J):Zai S L Zaf J:=⟨λi y=>K.kan i (x.trans y),K.ksz,λy=>K.kfm (x.trans y)⟩
def Zaa (fn:Func) {d:Nat} (s:1125899906842624<=L) (j:∀a,(match S.ov f with|some g=>g a args h|none=>none)=none) (i:S.nd f=none/\S.hk f=none)
 (H:∀n,d<=n->Adq Ax (B8 Ax S L n) L fn args h Q) (l:Ax.fn.get f=some fn:=by kernel_rfl) (b:Nat.ble args.length fn.ntmps=true:=by rfl):Bk S L (d+1) f args h Q:=λn t=>by
 obtain⟨m,rfl⟩:∃m,n=m+1:=⟨n-1,G⟩;have c:=H m G;unfold Adq at c;split at c
 case h_2=>cases c
 rename_i o;have b:=Nat.le_of_ble_eq_true b;have p:P1 Q λy=>DY Ax S (B8 Ax S L m) L f args h y.1 y.2:=by simp only[QM l i.2 o b];exact La W0 R3 L _ _ _ _ _ () _ h c (TB b) rfl rfl Acv
 cases e0:S.ov f with
 |none=>exact p.imp λ_ h=>h.imp λ_ ⟨q,e⟩=>⟨q,λk kp=>by simp only[B8,e0,ndK,i.1];exact e k kp⟩
 |some g=>
  have r:g (B8 Ax S L m) args h=none:=by
   have:=j (B8 Ax S L m);rw[e0] at this;exact this
  exact p.imp λ_ h=>h.imp λ_ ⟨q,e⟩=>⟨q,λk kp=>by simp only[B8,e0,r,ndK,i.1];exact e k kp⟩
def Zad (S:A9):Prop:=∀i∈[27,42,43,44],(∀a args h,(match S.ov i with|some g=>g a args h|none=>none)=none)/\S.nd i=none/\S.hk i=none
def c27 (B:Base5 S L) (HB:MD S) (a:Zad S) (F:Ce h) (c:s.size<=1000000) {i:Nat} (e:i=27\/i=42\/i=44):Bk S L 8 i [.string s] h λw J=>AA h J/\VS (4*s.size+4) w:=by
 rcases e with rfl|rfl|rfl
 ·exact Zaa f27 B.aI (λ_=>(a 27 (by simp)).1 _ _ _) (a 27 (by simp)).2 λd b=>⟨_,c66 B HB F (Axp B.toBase) c d G,λ_ _ h=>h⟩
 ·exact Zaa f42 B.aI (λ_=>(a 42 (by simp)).1 _ _ _) (a 42 (by simp)).2 λd b=>⟨_,c66 B HB F (Aog B.toBase) c d G,λ_ _ h=>h⟩
 ·exact Zaa f44 B.aI (λ_=>(a 44 (by simp)).1 _ _ _) (a 44 (by simp)).2 λd b=>⟨_,c66 B HB F (Azg B.toBase) c d G,λ_ _ h=>h⟩
def Qv (v:Aa):Prop:=∃z:Int,v=.int .i32 z
def YF:K8 Ax 21 Qv:=by
 rintro _ ⟨a,rfl⟩;refine⟨B,?_⟩;rintro _ ⟨b,rfl⟩;refine⟨a==b,B,λh=>?_⟩;obtain rfl:=eq_of_beq h;show(O9 .i32 .i32&&decide (a=a))=Ag;rw[decide_eq_true B];rfl
def Za2:(Za0.all λe=>match e.key,e.val with|.int .i32 _,.string x=>Nat.ble x.size 1000|_,_=>false)=true:=by kernel_rfl
def Za1 {e:MapEntry} (a:e∈Za0):∃z x,e.key=.int .i32 z/\e.val=.string x/\x.size<=1000:=by
 have:=List.all_eq_true.1 Za2 e a;split at this
 ·rename_i z x h1 b;exact⟨z,x,h1,b,Nat.le_of_ble_eq_true this⟩
 ·cases this
def Zao:Fc 87 0 Za0=true:=by kernel_rfl
def Zal (h:Y):(PW h.nx Qv (VS 1000) 500).holds (h.new (.map Za0 87)):=
 ⟨⟨by rw[Ck];omega,Za0,87,by rw[CK,if_pos rfl],λe a=>by obtain⟨z,x,h1,b,c⟩:=Za1 a;exact⟨⟨z,h1⟩,x,b,c⟩,Zao⟩,Za0,87,by rw[CK,if_pos rfl],Nat.le_of_ble_eq_true (by kernel_rfl)⟩
def c43 (B:Base5 S L) (V:Zad S) (FW:Zab S L h) (F:Ce h) {s:Bd} (hs:s.size<=1000):Bk S L 7 43 [.string s] h λw J=>AA h J/\VS 1100000 w:=
 Zaa f43 B.aI (λ_=>(V 43 (by simp)).1 _ _ _) (V 43 (by simp)).2 λd hd'=>by
  have hL:=B.aI;refine⟨_,c77 B F G d G,?_⟩;rintro _ h1 ⟨D,rfl⟩;refine⟨_,_,rfl,Ad (λ_=>⟨D,s,rfl,G⟩) (λ_=>⟨_,FW D d G,?_⟩)⟩;rintro _ _ ⟨rfl,rfl⟩;obtain⟨r,hr⟩:∃r,r=h1.nx:=⟨_,rfl⟩;have E:=((Sep.nil h).ext D).add (a:=PW h1.nx Qv (VS 1000) 500) (AA.new _ (.map Za0 87)) (Zal h1) λi H=>Nat.le_of_eq (show i=h1.nx from H).symm;rw[←hr] at E⊢;obtain⟨f,K⟩:∃x,x=h1.new (.map Za0 87):=⟨_,rfl⟩;rw[←K] at E⊢;obtain⟨m,y1,s3⟩:=E.a3;obtain⟨y2,s4⟩:=s3.bt s;refine⟨_,_,y1 _,_,_,y2,λμ A X=>∃(p:Nat) (v:Value) (bs:Bl),A=[(3,.map (some r)),(4,AG f.nx 0),(15,AG m.nx 0)]/\μ=s.size-p/\bs.length<=1000*p/\p<=s.size+3/\Sep h X [aB m.nx (.str s p),RK h.nx f.nx v bs,PW r Qv (VS 1000) 500],
   ⟨_,_,Sq,G,0,_,[],rfl,rfl,Nat.le_refl _,G,s4⟩,?_⟩
  rintro μ A X ⟨p,v,bs,rfl,rfl,hb,hp,q⟩ hLt;rcases q.bL (i:=0) rfl with⟨N,w,z,C,⟨hw1,hw,hz⟩,O,j⟩|⟨N,O⟩
  ·have hw4:w<=4:=by rw[hw];exact TI _ _ _ _
   obtain⟨d1,_⟩:=T9 (l:=s.data.toList.drop p) (by rw[List.length_drop];show 0<s.size-p;omega);rw[←hz] at d1;obtain⟨g,P,M⟩:=Aog (L:=L) B.toBase;have P:Value.func (.func 82) #[] #[]=.func (.func g) #[] #[]:=P;cases P;refine⟨_,_,O,_,M z C d1 d G,?_⟩;rintro _ C ⟨rfl,y,rfl,_⟩;obtain⟨u,b,Q,l2,l3⟩:=QH (τ:=Ax) (t:=174) (kt:=21) (et:=9) Kq YF (z:=.string ⟨#[]⟩) Kq (j.cz (i:=2) rfl) (k:=.int .i32 y) ⟨_,rfl⟩ true;have Q:BW Ax 174 (.map (some r)) (.int .i32 y) true C=some (.tuple #[u,.bool b]):=Q;refine⟨_,_,congrArg (CN _) Q,?_⟩;have c:∀{A:As} {J:Y} {R:Bl},Sub [(3,.map (some r)),(4,AG f.nx 0),(15,AG m.nx 0)] A->R.length<=1000->Gu C J h.nx f.nx v (bs++R)->∃m' A0,Sub A0 A/\m'<s.size-p/\∃(p:Nat) (v:Value) (bs:Bl),A0=[(3,.map (some r)),(4,AG f.nx 0),(15,AG m.nx 0)]/\m'=s.size-p/\bs.length<=1000*p/\p<=s.size+3/\Sep h J [aB m.nx (.str s p),RK h.nx f.nx v bs,PW r Qv (VS 1000) 500]:=λU hc n=>by
    obtain⟨v7,s7⟩:=j.bf (i:=1) rfl n;exact⟨_,_,U,(show s.size-(p+w)<_ by omega),p+w,_,_,rfl,rfl,by rw[List.length_append];omega,G,s7⟩
   cases b
   ·exact⟨_,c80 B.toBase (j.bl (i:=1) rfl) j.e.nx G d G,λ_ J ⟨R,hc,_,_,n⟩=>c (Sq) G n⟩
   ·obtain⟨x,rfl,hx⟩:=l2 rfl;exact⟨_,c79 B.toBase (j.bl (i:=1) rfl) j.e.nx G d G,λ_ J n=>c (Sq) hx n⟩
  ·refine⟨_,_,O,_,c81 B.toBase (q.bl (i:=1) rfl) G d G,?_⟩;rintro _ g ⟨rfl,c6⟩;exact⟨q.e.then c6 λi H=>(q.bl (i:=1) rfl).o.ge i H,_,rfl,by show bs.length<=_;omega⟩
def ZJ:Bl:=[227,129,139,227,129,141]
section
variable{α:Type} {kt:Ai} {kv vv:α->Aa} {Q:α->α->Bool}
structure Acl (kt:Ai) (kv:α->Aa) (Q:α->α->Bool):Prop where
 eq:∀a b,IZ Ax Op.maxDepth kt (kv a) (kv b)=I (Q a b)
 iff:∀a b,Q a b=Ag↔kv a=kv b
 self:∀a,Cy (kv a) (kv a)=Ag
 ty:∀a,Do Ax 5 kt (kv a)=Ag
def TA (kv vv:α->Aa) (h:Y) (r:Nat) (l:List α):Prop:=r<h.nx/\∃b ck,h.t.get r=I (.map b ck)/\Fc ck 0 b=Ag/\b.map (λe:Ap=>(e.key,e.val))=l.map λa=>(kv a,vv a)
def aG (kv vv:α->Aa) (r:Nat) (l:List α):Ct:={
 am:=λi=>i=r
 holds:=λh=>TA kv vv h r l
 aH:=λc a o=>⟨AC o.1 c.nx,by rw[c.t r o.1 (a r B)];exact o.2⟩
 lt:=λo i U=>by rw[U];exact o.1
 bk:=λo=>by unfold TA;rw[CL,DF];exact o}
def KT (Q:α->α->Bool) (x:α):List α->List α
 |[]=>[x]
 |y::l=>if Q x y=Ag then x::l else y::KT Q x l
def Aei (K:Acl kt kv Q) (x:α):∀(g:List Ap) (l:List α) (i ck:Nat),g.map (λe:Ap=>(e.key,e.val))=l.map (λa=>(kv a,vv a))->
 (CE Ax kt (kv x) g i=I Z/\l.find? (Q x)=Z/\(g++[({key:=kv x,val:=vv x,born:=ck}:Ap)]).map (λe:Ap=>(e.key,e.val))=(KT Q x l).map λa=>(kv a,vv a))\/
 ∃j e m,CE Ax kt (kv x) g i=I (I (i+j,e))/\e.val=vv m/\l.find? (Q x)=I m/\Cy e.key (kv x)=Ag/\(Cu g j λe=>{e with key:=kv x,val:=vv x}).map (λe:Ap=>(e.key,e.val))=(KT Q x l).map λa=>(kv a,vv a)
 |[],[],i,ck,_=>.inl Jq
 |[],_::_,_,_,h=>by cases h
 |_::_,[],_,_,h=>by cases h
 |
  e::g,m::l,i,ck,h=>by
  simp[Bp,List.cons.injEq,Prod.mk.injEq] at h;obtain⟨⟨h1,b⟩,c⟩:=h;rw[CE,h1,K.eq x m,KT];cases d:Q x m with
  |
   true=>
   refine .inr ⟨0,e,m,B,b,Jq,?_,?_⟩
   .rw[h1,←(K.iff _ _).1 d];exact K.self x
   .simp[Cu,c]
  |
   false=>
   rw[List.find?_cons_of_neg Jq];rcases Aei K x g l (i+1) ck c with⟨n,k,o⟩|⟨j,f,p,n,k,q,r,s⟩
   .refine .inl ⟨n,k,?_⟩
    simp[BE,if_false,KB,Bp,h1,b,o]
   .refine .inr ⟨j+1,f,p,Jq,k,q,r,?_⟩
    simp[BE,if_false,Cu,Bp,h1,b,s]
def TA.look (K:Acl kt kv Q) {et:Ai} {z:Aa} (a:Ax.ds.get t=I (.map kt et)) (b:CP Ax et=I z) {l:List α} (m:TA kv vv h r l) (x:α):
 BW Ax t (.map (I r)) (kv x) Ag h=I (.tuple #[match l.find? (Q x) with|some y=>vv y|none=>z,.bool (l.find? (Q x)).isSome]):=by
 obtain⟨_,g,ck,h1,_,c⟩:=m;unfold BW;rcases Aei K x g l 0 0 c with⟨d,f,_⟩|⟨j,e,m,d,f,i,_⟩
 .simp only[a,K.ty,D1,h1,d,b,f];rfl
 .simp only[a,K.ty,D1,h1,d,f,i];rfl
def TA.ah (K:Acl kt kv Q) {et:Ai} (a:Ax.ds.get t=I (.map kt et)) {l:List α} (m:TA kv vv h r l) (x:α):∃J,BH Ax t (.map (I r)) (kv x) (vv x) h=I J/\TA kv vv J r (KT Q x l)/\Er r h J:=by
 obtain⟨b,g,ck,h1,c,d⟩:=m;unfold BH;rcases Aei K x g l 0 ck d with⟨i,_,k⟩|⟨j,e,m,i,_,_,n,o⟩
 .exact⟨h.put r (.map (g++[({key:=kv x,val:=vv x,born:=ck}:Ap)]) (ck+1)),by simp[a,K.ty,D1,h1,i],⟨by rw[Cc];exact b,_,_,by rw[BQ,Bi B],Kd _ _ g ck 0 c (Al _),k⟩,Er.put _ _ _⟩
 .rw[Ba] at i
  exact⟨h.put r (.map (Cu g j λe=>{e with key:=kv x,val:=vv x}) ck),by simp[a,K.ty,D1,h1,i,n],⟨by rw[Cc];exact b,_,_,by rw[BQ,Bi B],Kc (f:=λe=>{e with key:=kv x,val:=vv x}) (λ_=>rfl) g _ ck 0 c,o⟩,Er.put _ _ _⟩
end
def Zb6 {α:Type} {Q:α->α->Bool} {x:α}:∀{l:List α},(∀y∈l,Q x y=false)->KT Q x l=l++[x]
 |[],_=>rfl
 |y::l,h=>by rw[KT,h y (by simp),if_neg (by simp),Zb6 λz a=>h z (by simp[a])];rfl
def Sep.upG {α:Type} {kt et:TypeId} {kv vv:α->Value} {Q:α->α->Bool} (K:Acl kt kv Q) (b:Ax.ds.get t=some (.map kt et)) {l:List Ct} {xs:List α} (s:Sep h0 h l) (a:l[i]?=some (aG kv vv r xs)) (x:α):∃J,BH Ax t (.map (some r)) (kv x) (vv x) h=some J/\Sep h0 J (l.set i (aG kv vv r (KT Q x xs))):=by
 obtain⟨J,e,m,u⟩:=TA.ah K b (s.2.1 i _ a).1 x;exact⟨J,e,s.ah a u.ae m λx c=>.inl c⟩
abbrev Zak:=Bd×Bd
def Zbf (p:Zak):Value:=.string p.1
def Zb7 (p:Zak):Value:=.string p.2
def Zbz (a b:Zak):Bool:=Gp a.1.data.toList b.1.data.toList
def Zb0 {a b:Zak}:Zbz a b=true↔a.1=b.1:=CJ
def Zbm:Acl 9 Zbf Zbz:=⟨λ_ _=>rfl,λa b=>Zb0.trans ⟨λh=>by unfold Zbf;rw[h],λh=>by injection h⟩,λa=>CJ.2 rfl,λ_=>rfl⟩
def Zaz (e:MapEntry):Zak:=match e.key,e.val with
 |.int _ z,.string x=>(x,Utf8.encode z)
 |_,_=>(⟨#[]⟩,⟨#[]⟩)
def Zbp:List Zak:=[(⟨#[239,190,158]⟩,⟨#[227,130,155]⟩),(⟨#[239,190,159]⟩,⟨#[227,130,156]⟩)]
def Zbq:List Zak:=Zbp++Za0.map Zaz
def Zau:List Zak->Bool
 |[]=>true
 |a::l=>l.all (λb=>!Zbz a b)&&Zau l
def Zav:∀{l:List Zak},Zau l=true->l.Pairwise λa b=>a.1≠b.1
 |[],_=>.nil
 |a::l,h=>by
  unfold Zau at h;rw[Bool.and_eq_true] at h;exact .cons (λb c e=>by have:=List.all_eq_true.1 h.1 b c;rw[Zb0.2 e] at this;cases this) (Zav h.2)
def Zat:Zbq.Pairwise λa b=>a.1≠b.1:=Zav (by kernel_rfl)
def Zb4:(Zbq.all λp=>Nat.ble p.2.size 8)=true:=by kernel_rfl
def Zby {α:Type} {R:α->α->Prop} (c:∀a b,R a b->R b a):∀{l:List α} {a b:α},l.Pairwise R->a∈l->b∈l->a=b\/R a b
 |_::_,a,b,.cons h1 h2,ha,hb=>by
  rcases List.mem_cons.1 ha with rfl|p<;>rcases List.mem_cons.1 hb with rfl|q
  ·exact .inl rfl
  ·exact .inr (h1 _ q)
  ·exact .inr (c _ _ (h1 _ p))
  ·exact Zby c h2 p q
def Zbl {a b:Zak} (c:a∈Zbq) (d:b∈Zbq) (e:a.1=b.1):a=b:=(Zby (λ_ _ h=>h.symm) Zat c d).resolve_right λh=>h e
def Zay {e c:MapEntry} (h:e∈Za0) (J:c∈Za0) (g:(Zaz e).1=(Zaz c).1):e=c:=by
 have d:(Za0.map Zaz).Pairwise λa b=>a.1≠b.1:=(List.pairwise_append.1 Zat).2.1;exact (Zby (R:=λa b=>(Zaz a).1≠(Zaz b).1) (λ_ _ h=>h.symm) ((List.pairwise_map (f:=Zaz) (R:=λa b:Zak=>a.1≠b.1)).1 d) h J).resolve_right λh=>h g
def Zaj (t:Bd):Option Zak:=Zbq.find? (Zbz (t,⟨#[]⟩))
def Zbr {l:List Zak} (c:∀p,p∈l↔p∈Zbq) (t:Bd):l.find? (Zbz (t,⟨#[]⟩))=Zaj t:=by
 unfold Zaj;cases h1:l.find? (Zbz (t,⟨#[]⟩)) with
 |none=>exact (List.find?_eq_none.2 λp d=>List.find?_eq_none.1 h1 p ((c p).2 d)).symm
 |some y=>
  cases h2:Zbq.find? (Zbz (t,⟨#[]⟩)) with
  |none=>exact absurd (List.find?_some h1) (List.find?_eq_none.1 h2 y ((c y).1 (List.mem_of_find?_eq_some h1)))
  |some y'=>
   have a:t=y.1:=Zb0.1 (List.find?_some h1);have b:t=y'.1:=Zb0.1 (List.find?_some h2);rw[Zbl ((c y).1 (List.mem_of_find?_eq_some h1)) (List.mem_of_find?_eq_some h2) (a.symm.trans b)]
def Zbs {t:Bd} {y:Zak} (h:Zaj t=some y):y.2.size<=8:=Nat.le_of_ble_eq_true (List.all_eq_true.1 Zb4 y (List.mem_of_find?_eq_some h))
def Zb1 (l:AH) (k:Nat):Int:=match l[k]? with|some (.int _ z)=>z|_=>0
def Zb2 (l:AH) (k:Nat):Bd:=match FU ((l.drop k).take 2) with|some b=>⟨⟨b⟩⟩|none=>⟨#[]⟩
def Zb5 (l:AH) (k:Nat):Nat×Bl:=match (if k+1<l.length then Zaj (Zb2 l k) else none) with
 |some y=>(k+2,y.2.data.toList)
 |none=>(k+1,match Zaj (Utf8.encode (Zb1 l k)) with|some y=>y.2.data.toList|none=>Zax (Zb1 l k))
def Zba (l:AH):Nat->Nat×Bl
 |0=>(0,[])
 |n+1=>if (Zba l n).1<l.length then ((Zb5 l (Zba l n).1).1,(Zba l n).2++(Zb5 l (Zba l n).1).2) else Zba l n
def Zbb {l:AH} {n:Nat} (h:l.length<=(Zba l n).1):∀d,Zba l (n+d)=Zba l n
 |0=>rfl
 |d+1=>by rw[←Nat.add_assoc,Zba,Zbb h d,if_neg G]
def Zbc {l:AH} {n m:Nat} (h:l.length<=(Zba l n).1) (J:l.length<=(Zba l m).1):Zba l n=Zba l m:=by
 rcases Nat.le_total n m with a|a<;>obtain⟨d,rfl⟩:=Nat.le.dest a
 ·exact (Zbb h d).symm
 ·exact Zbb J d
open Classical in
def Za6 (s:Bd):Bd:=if FH s=true then (if h:∃n,(CA s.size s.data.toList).length<=(Zba (CA s.size s.data.toList) n).1 then ⟨⟨(Zba (CA s.size s.data.toList) (Classical.choose h)).2⟩⟩ else s) else s
def Za7 {s:Bd} {n:Nat} (a:FH s=true) (h:(CA s.size s.data.toList).length<=(Zba (CA s.size s.data.toList) n).1):Za6 s=⟨⟨(Zba (CA s.size s.data.toList) n).2⟩⟩:=by
 have e:∃n,(CA s.size s.data.toList).length<=(Zba (CA s.size s.data.toList) n).1:=⟨n,h⟩;unfold Za6;rw[if_pos a,dif_pos e,Zbc (Classical.choose_spec e) h]
def c41 (B:Base5 S L) (FW:Zab S L h) (F:Ce h) (hs:s.size<=1000):PE S L 7 41 [.string s] h λw J=>AA h J/\w=.string (Za6 s)/\(Za6 s).size<=10000:=
 GU (fn:=f41) B.toBase Kq rfl λd hd'=>by
  have hL:=B.aI;refine⟨Dc rfl,_,(c77 B F G d G).any,?_⟩;rintro _ h1 ⟨x1,rfl⟩;refine⟨_,_,rfl,Ad (λk0=>?_) (λk0=>?_)⟩
  ·have e:Za6 s=s:=by unfold Za6;rw[if_neg (by simpa using k0)]
   rw[e];exact⟨x1,rfl,G⟩
  have hv:FH s=true:=by simpa using k0
  obtain⟨b,D⟩:∃b,b=h1.nx:=⟨_,rfl⟩;have s1:Sep h (h1.new (.map [] 0)) [aG Zbf Zb7 b []]:=((Sep.nil h).ext x1).add (a:=aG Zbf Zb7 b []) (AA.new _ _) ⟨by rw[D,Ck];omega,[],0,by rw[D,CK,if_pos rfl],rfl,rfl⟩ λi R=>Nat.le_of_eq (D.symm.trans (show i=b from R).symm);obtain⟨h2,u2,s2⟩:=s1.upG (t:=173) (et:=9) (i:=0) Zbm Kq rfl (⟨#[239,190,158]⟩,⟨#[227,130,155]⟩);obtain⟨h3,u3,s3⟩:=s2.upG (t:=173) (et:=9) (i:=0) Zbm Kq rfl (⟨#[239,190,159]⟩,⟨#[227,130,156]⟩);have e3:KT Zbz (⟨#[239,190,159]⟩,⟨#[227,130,156]⟩) (KT Zbz (⟨#[239,190,158]⟩,⟨#[227,130,155]⟩) [])=Zbp:=by kernel_rfl
  have s3:Sep h h3 [aG Zbf Zb7 b (KT Zbz (⟨#[239,190,159]⟩,⟨#[227,130,156]⟩) (KT Zbz (⟨#[239,190,158]⟩,⟨#[227,130,155]⟩) []))]:=s3;rw[e3] at s3;rw[D] at u2 u3;refine⟨_,_,congrArg Nb u2,_,_,congrArg Nb u3,_,(FW s3.e d G).any,?_⟩;rw[←D];rintro _ _ ⟨rfl,rfl⟩;obtain⟨r,hr⟩:∃r,r=h3.nx:=⟨_,rfl⟩;have s4:=s3.add (a:=aB h3.nx (.map Za0 87)) (AA.new _ (.map Za0 87)) ⟨by rw[Ck];omega,by rw[CK,if_pos rfl]⟩ λi R=>Nat.le_of_eq (show i=h3.nx from R).symm;rw[←hr] at s4⊢;generalize h3.new (.map Za0 87)=h4 at s4⊢;have h87:Za0.length=87:=by kernel_rfl
  obtain⟨h5,y5,s5⟩:=s4.cN (τ:=Ax) (t:=174) (kt:=21) (et:=9) Kq (i:=0) rfl (λx=>Iff.rfl) (s4.2.1 0 _ rfl).1.2 Zao;refine⟨_,_,y5,λμ A DD K=>∃M:List MapEntry,A=[(0,.string s),(3,.map (some b)),(20,AG h4.nx 0)]/\DD=[]/\μ=Za0.length-M.length/\Sep h K [Yu h4.nx r Za0 M,aG Zbf Zb7 b (Zbp++M.map Zaz)],
   ⟨_,_,Sq,G,[],rfl,rfl,rfl,s5⟩,?_⟩
  rintro μ A DD N ⟨M,rfl,rfl,rfl,s6⟩ hLt;refine s6.cO (i:=0) rfl (λhall=>?_) (λe he hn h7 O=>?_);rotate_left
  ·obtain⟨z,x,hk,hx,_⟩:=Za1 he;have ent:=QO (O.it (i:=0) rfl);have:=(O.it (i:=0) rfl).len;rw[List.length_append,List.length_singleton] at this;have ep:Zaz e=(x,Utf8.encode z):=by unfold Zaz;rw[hk,hx]
   have E:=(s6.it (i:=0) rfl).sub;obtain⟨h8,u8,s8⟩:=O.upG (t:=173) (et:=9) (i:=1) Zbm Kq rfl (x,Utf8.encode z);rw[Zb6 λy V=>Bool.eq_false_iff.2 λP=>?_,←ep,List.append_assoc,show M.map Zaz++[Zaz e]=(M++[e]).map Zaz by simp] at s8;rotate_left
   ·have P:(Zaz e).1=y.1:=by rw[ep];exact Zb0.1 P
    have he9:Zaz e∈Zbq:=List.mem_append_right _ (List.mem_map_of_mem he);rcases List.mem_append.1 V with V|V
    ·exact (List.pairwise_append.1 Zat).2.2 y V _ (List.mem_map_of_mem he) P.symm
    ·obtain⟨e',he',rfl⟩:=List.mem_map.1 V;exact hn (Zay he (E e' he') P▸he')
   rw[hk,hx] at ent⊢;exact⟨_,_,congrArg (CN _) ent,_,rfl,_,_,congrArg Nb u8,_,_,Sq,(by rw[List.length_append,List.length_singleton];omega:Za0.length-(M++[e]).length<_),_,rfl,rfl,rfl,s8⟩
  have E:=(s6.it (i:=0) rfl).sub;have hm:∀p,p∈Zbp++M.map Zaz↔p∈Zbq:=λp=>by
   unfold Zbq;simp only[List.mem_append,List.mem_map];exact or_congr Iff.rfl ⟨λ⟨e,h,q⟩=>⟨e,E e h,q⟩,λ⟨e,h,q⟩=>⟨e,hall e h,q⟩⟩
  have lk:=Zbr hm;generalize Zbp++M.map Zaz=lF at s6 lk;obtain⟨l,hl⟩:∃l,l=CA s.size s.data.toList:=⟨_,rfl⟩;obtain⟨r1,r2⟩:=LJ s.size s.data.toList;have Da:∀{n:Nat} {k:Nat} {bs:Bl},Zba l n=(k,bs)->l.length<=k->Za6 s=⟨⟨bs⟩⟩:=λe hk=>by
   rw[hl] at e hk;rw[Za7 hv (n:=_) (by rw[e];exact hk),e]
  rw[←hl] at r1 r2;have cv:Ea Ax 9 176 (.string s) N=some (.slice (some ⟨N.nx,0,none⟩) l.length l.length,HY N 21 l):=by rw[hl];rfl
  have O:=(s6.drop 1:Sep h N [aG Zbf Zb7 b lF]).add (a:=aO N.nx 21 l) (AA.a4 N 21 l) (Own.a4 N 21 l) λi R=>Nat.le_of_eq R.symm;obtain⟨Q,P⟩:∃q,q=N.nx:=⟨_,rfl⟩;rw[←P] at O cv;obtain⟨g1,y1,s8⟩:=O.a3;refine⟨_,_,cv,_,_,y1 _,?_⟩;generalize(HY N 21 l).nx=bb at s8;refine⟨λμ A DD K=>∃(k n:Nat) (v:Value) (bs:Bl),A=[(3,.map (some b)),(6,.slice (some ⟨Q,0,none⟩) l.length l.length),(7,AG bb 0),(8,.int .i64 k)]/\DD=[]/\μ=l.length-k/\k<=l.length/\bs.length<=8*k/\Zba l n=(k,bs)/\Sep h K [RK h.nx bb v bs,aO Q 21 l,aG Zbf Zb7 b lF],
   ⟨_,_,Sq,G,0,0,_,[],rfl,rfl,rfl,Nat.zero_le _,Nat.le_refl _,rfl,s8⟩,?_⟩
  rintro μ A DD K ⟨k,n,v,bs,rfl,rfl,rfl,hk,hb,hn9,f⟩ hLt;refine Ad (λk1=>?_) (λk1=>⟨_,(c81 B.toBase (f.bl (i:=0) rfl) G d G).any,?_⟩);rotate_left
  ·rintro _ g ⟨rfl,c6⟩;have:=of_decide_eq_false k1;rw[Da hn9 G];exact⟨f.e.then c6 λi R=>(f.bl (i:=0) rfl).o.ge i R,rfl,by show bs.length<=_;omega⟩
  have k1:=of_decide_eq_true k1;have X:k<l.length:=G;have rd:Rd K (.slice (some ⟨Q,0,none⟩) l.length l.length) 1 l.length l:=Own.dB (k:=1) (f.dD (i:=1) rfl) G;have H:∀{A:As} {J:Y} {cs:Bl} {k':Nat},Sub [(3,.map (some b)),(6,.slice (some ⟨Q,0,none⟩) l.length l.length),(7,AG bb 0),(8,.int .i64 k')] A->k<k'->k'<=l.length->cs.length<=8->Zb5 l k=(k',cs)->Gu K J h.nx bb v (bs++cs)->∃m' A0,Sub A0 A/\m'<l.length-k/\∃(k n:Nat) (v:Value) (bs:Bl),A0=[(3,.map (some b)),(6,.slice (some ⟨Q,0,none⟩) l.length l.length),(7,AG bb 0),(8,.int .i64 k)]/\([]:Bo)=[]/\m'=l.length-k/\k<=l.length/\bs.length<=8*k/\Zba l n=(k,bs)/\Sep h J [RK h.nx bb v bs,aO Q 21 l,aG Zbf Zb7 b lF]:=λE h1 h2 hc P w7=>by
   obtain⟨v7,O⟩:=f.bf (i:=0) rfl w7;exact⟨_,_,E,(show l.length-_<_ by omega),_,n+1,_,_,rfl,rfl,rfl,h2,by rw[List.length_append];omega,by rw[Zba,hn9];simp only[];rw[if_pos X,P],O⟩
  have Aoa:∀{t:Bd} {y:Zak},Zaj t=some y->BW Ax 173 (.map (some b)) (.string t) true K=some (.tuple #[Zb7 y,.bool true]):=λ{t y} e=>by
   have:=TA.look (t:=173) (et:=9) (z:=.string ⟨#[]⟩) Zbm Kq Kq (f.2.1 2 _ rfl).1 (t,⟨#[]⟩);rw[lk t,e] at this;exact this
  have Ayk:∀{t:Bd},Zaj t=none->BW Ax 173 (.map (some b)) (.string t) true K=some (.tuple #[.string ⟨#[]⟩,.bool false]):=λ{t} e=>by
   have:=TA.look (t:=173) (et:=9) (z:=.string ⟨#[]⟩) Zbm Kq Kq (f.2.1 2 _ rfl).1 (t,⟨#[]⟩);rw[lk t,e] at this;exact this
  obtain⟨A3,c3,z,e3,cz⟩:=rd.rune r2 (k:=k) G;cases e3;have hz:Zb1 l k=z:=by
   obtain⟨z',hz'⟩:=r2 l[k] (List.getElem_mem X);have h1:l[k]?=some (.int .i32 z'):=by rw[List.getElem?_eq_getElem X,hz']
   have:=(ld (τ:=Ax) (t:=21) rfl cz).symm.trans (Dz (ld rfl ((f.dD (i:=1) rfl).cell h1)) (by show 0+k*1+0=k;omega));cases this;unfold Zb1;rw[h1]
  refine⟨Pq,Bz (λk2=>?_) (λk2=>?_)⟩;obtain⟨v',e1,rd2,_⟩:=Rd.slice (τ:=Ax) (t:=176) (k:=1) Kq rd (lo:=some (.int .i64 k)) (U:=some (.int .i64 ((k:Int)+2))) (l:=k) (m:=k+2) rfl rfl G G;obtain⟨A',c',rfl⟩:∃A c,v'=.slice A (k+2-k) c:=by obtain⟨_,A,c,e,_⟩:=rd2;exact⟨A,c,e⟩
  obtain⟨t,e2,_,e4⟩:=Zi rd2 λu hu=>r2 u (List.mem_of_mem_drop (List.mem_of_mem_take hu));have et:Zb2 l k=t:=by
   have e4:=e4 G;rw[Nat.mul_one,Nat.mul_one,show k+2-k=2 by omega] at e4;unfold Zb2;rw[e4]
  rcases j:Zaj t with _|y;rotate_left
  ·have V:=Zbs j;refine⟨Pq,_,_,congrArg (CN _) e1,_,e2,_,_,congrArg (CN _) (Aoa j),_,(c79 B.toBase (f.bl (i:=0) rfl) f.e.nx G d G).any,λ_ J w7=>⟨Pq,Pq,H (k':=k+2) (Sq) G G (Zbs j) (by unfold Zb5;rw[if_pos G,et,j]) w7⟩⟩
  rotate_left;refine⟨Pq,_,_,congrArg (CN _) e1,_,e2,_,_,congrArg (CN _) (Ayk j),?_⟩
  all_goals
   have st:Zb5 l k=(k+1,match Zaj (Utf8.encode z) with|some y=>y.2.data.toList|none=>Zax z):=by
    unfold Zb5;rw[hz]
    first|rw[if_neg G]|rw[if_pos G,et,j]
   have la:∀{v},Bw Ax 21 K Q (0+k*1+0)=some v->Bw Ax 21 K Q (0+(k:Int).toNat*1)=some v:=λh=>Dz h (by show 0+(k:Int).toNat*1=0+k*1+0;omega);rcases C:Zaj (Utf8.encode z) with _|y
   ·rw[C] at st;exact⟨G,_,la (ld rfl cz),_,rfl,_,_,congrArg (CN _) (Ayk C),G,_,la (ld rfl cz),_,(c80 B.toBase (f.bl (i:=0) rfl) f.e.nx G d G).any,λ_ J ⟨cs,hc,_,hka,w7⟩=>⟨Pq,H (k':=k+1) (Sq) G G G (by rw[st,hka]) w7⟩⟩
   ·rw[C] at st;have V:=Zbs C;exact⟨G,_,la (ld rfl cz),_,rfl,_,_,congrArg (CN _) (Aoa C),_,(c79 B.toBase (f.bl (i:=0) rfl) f.e.nx G d G).any,λ_ J w7=>⟨Pq,H (k':=k+1) (Sq) G G (Zbs C) st w7⟩⟩
def Za8:Za6 ⟨⟨ZJ⟩⟩=⟨⟨ZJ⟩⟩:=(Za7 (n:=2) (by kernel_rfl) (Nat.le_of_ble_eq_true (by kernel_rfl))).trans (by kernel_rfl)
section
variable{α:Type} {kt:Ai} {kv vv:α->Aa} {Q:α->α->Bool}
def YG {a:Type} (Cr:a->AH) (xs:List a):AH:=match xs with
 |[]=>[.pointer Z]
 |x::xs=>(x::xs).flatMap Cr
def Y7 {d:Type} {Cr:d->AH} (g:∀a,(Cr a).length=k/\(Cr a).all plainCell=Ag) {h:Y} {xs:List d} (o:AS h N e k v xs.length (xs.flatMap Cr)) (i:xs=[]->v=.slice Z 0 0):MB h N e k v=I (xs.length,YG Cr xs):=by
 cases xs with
 |nil=>rw[i B];rfl
 |
  cons x xs=>
  obtain⟨t,⟨_,j⟩|⟨b,c,A,rfl,l,m,w,n⟩⟩:=o
  .cases j
  obtain⟨z,y,p,f⟩:=n.bx (off:=0) (k:=(x::xs).length*k) Jq;have q:((x::xs).flatMap Cr).all plainCell=true:=List.all_eq_true.2 λu r=>by
   obtain⟨a,_,s⟩:=List.mem_flatMap.1 r;exact List.all_eq_true.1 (g a).2 u s
  rw[Ajb,UR G,Bj G] at f;unfold MB;simp only[p,Aq l,show Am e e=Ag from Mi e,Aq (show 0+c*k<=(((x::xs).flatMap Cr)++A).length by omega),Aq m,Mh,D1,f,q];rfl
def Agc {b:Type} {Cr:b->AH} {f:Nat} {h:Y} {xs:List b} (g:Ax.fn.get f=I fn) (j:S.hk f=Z) (l:S.ov f=Z) (o:S.nd f=I e) (U:(match Ax.aj.get e with|some i=>Am i.size k|none=>Ah)=Ag)
 (p:∀a,(Cr a).length=k) (r:∀xs:List b,Dv (YG Cr xs) (YG Cr xs)=Ag)
 (c:∀n,d<=n->MT Ag Ax (B8 Ax S L n) L fn args h.ad λv J=>J.lo.ag h.nx=Ag/\MB J h.nx e k v=I (xs.length,YG Cr xs)):Bk S L (d+1) f args h λw J=>AA h J/\AS J h.nx e k w xs.length (xs.flatMap Cr):=by
 intro n A;obtain⟨m,rfl⟩:∃q,n=q+1:=⟨n-1,G⟩;obtain⟨i,s,t⟩:∃i,Ax.aj.get e=I i/\i.size=k:=by
  split at U
  .exact⟨_,by assumption,Af U⟩
  .cases U
 subst t;refine(Axf g j l o s (r xs) (λh0=>by rw[BO h0];rfl) (c m G)).mono λw J u=>?_;rcases u with⟨h0,rfl,rfl⟩|⟨h0,rfl,rfl⟩
 .rw[BO h0]
  exact⟨AA.refl _,AS.nil _ _ _ _⟩
 .cases xs with
  |nil=>exact Cf B h0
  |
   cons x xs=>
   refine⟨AA.a4 _ _ _,Own.bN (Own.a4 _ _ _) ?_ Jq⟩;have:∀ys:List b,(ys.flatMap Cr).length=ys.length*i.size:=λys=>by
    induction ys with
    |nil=>simp
    |cons y ys z=>rw[Dg,Aj,p,z,AO,Dw,Nat.one_mul];omega
   exact this _
end
open Classical in
def Zar (o:BZ) (x:Bd):BZ:=if x∈o then o else o++[x]
def Za4 (Zaf:Nat->Bd->Bd) (s:Bd):BZ:=[Zaf 27 (Za6 s),Zaf 42 (Za6 s),Zaf 43 s,Zaf 44 s].foldl Zar []
def Za3 (xs:BZ):xs.flatMap (λs=>[Value.string s])=AR xs:=by
 induction xs with
 |nil=>rfl
 |cons x xs ih=>rw[List.flatMap_cons,ih];rfl
def Zb3:∀xs:BZ,Dv (AR xs) (AR xs)=true
 |[]=>rfl
 |x::xs=>by
  show(Gp x.data.toList x.data.toList&&Dv (AR xs) (AR xs))=true;rw[Zb3 xs,CJ.2 rfl];rfl
def Zas:∀(l o:BZ),(l.foldl Zar o).length<=o.length+l.length
 |[],_=>Nat.le_refl _
 |x::l,o=>by
  have h:=Zas l (Zar o x);have a:(Zar o x).length<=o.length+1:=by
   unfold Zar;split
   ·exact Nat.le_succ _
   ·rw[List.length_append];exact Nat.le_refl _
  show(l.foldl Zar (Zar o x)).length<=_;rw[List.length_cons];omega
def c15 (B:Base5 S L) (C:S.ov 15=none/\S.nd 15=some 9/\S.hk 15=none) {Zaf:Nat->Bd->Bd} (K:Zai S L Zaf h) (F:Ce h) {s:Bd} (M:s.size<=1000):Bk S L 9 15 [.string s] h λw J=>AA h J/\AS J h.nx 9 1 w (Za4 Zaf s).length (AR (Za4 Zaf s))/\(Za4 Zaf s).length<=4:=by
 refine(Agc (fn:=f15) (e:=9) (k:=1) (Cr:=λs=>[Value.string s]) (xs:=Za4 Zaf s) Kq C.2.2 C.1 C.2.1 Kq (λ_=>rfl) (λxs=>?_) λd V=>?_).mono λw J ⟨x,o⟩=>⟨x,by rw[Za3] at o;exact o,Zas _ _⟩
 ·cases xs with
  |nil=>rfl
  |cons x xs=>
   show Dv ((x::xs).flatMap _) ((x::xs).flatMap _)=true;rw[Za3];exact Zb3 _
 have hL:=B.aI;have K:=K.ext (AA.ad h);have F:=F.ext (AA.ad h);obtain⟨H0,D⟩:∃H0,H0=h.ad:=⟨_,rfl⟩;have E:h.nx=H0.nx:=by rw[D];rfl
 rw[←D] at K F⊢;rw[E];refine⟨Dc rfl,_,c41 B K.kfm F M d G,?_⟩;rintro _ h1 ⟨N,rfl,ht⟩;refine⟨_,(K.kan 27 N (.inl ⟨.inl rfl,G⟩) d G).any,?_⟩;rintro _ h2 ⟨p,rfl⟩;have p:=N.trans p;refine⟨_,(K.kan 42 p (.inl ⟨.inr (.inl rfl),G⟩) d G).any,?_⟩;rintro _ h3 ⟨q,rfl⟩;have q:=p.trans q;refine⟨_,(K.kan 43 q (.inr ⟨rfl,M⟩) d G).any,?_⟩;rintro _ h4 ⟨r,rfl⟩;have r:=q.trans r;refine⟨_,(K.kan 44 r (.inl ⟨.inr (.inr rfl),G⟩) d G).any,?_⟩;rintro _ O ⟨H,rfl⟩;have H:=r.trans H;obtain⟨f,j⟩:∃f,f=[Zaf 27 (Za6 s),Zaf 42 (Za6 s),Zaf 43 s,Zaf 44 s]:=⟨_,rfl⟩;have X:f.length=4:=by rw[j];rfl
 have hf:Za4 Zaf s=f.foldl Zar []:=by rw[j];rfl
 rw[hf];have P:=(((Sep.nil H0).ext H).cE 4 (ss:=[Zaf 27 (Za6 s),Zaf 42 (Za6 s),Zaf 43 s,Zaf 44 s]) rfl).add (a:=aS H0.nx 9 1 (.slice none 0 0) 0 (AR [])) (AA.refl _) (AS.nil _ _ _ _) λi hi=>hi.elim;refine⟨_,_,Awt _ _ _ _ _,?_⟩;rw[←j] at P⊢;refine⟨λμ A Q R=>∃(k:Nat) (v:Value),A=[(3,v),(17,.slice (some ⟨O.nx,0,none⟩) 4 4),(18,.int .i64 4),(19,.int .i64 k)]/\Q=[]/\μ=4-k/\k<=4/\((f.take k).foldl Zar []=[]->v=.slice none 0 0)/\Sep H0 R [aS H0.nx 9 1 v ((f.take k).foldl Zar []).length (AR ((f.take k).foldl Zar [])),aS H0.nx 9 1 (.slice (some ⟨O.nx,0,none⟩) 4 4) 4 (AR f)],
  ⟨_,_,Sq,G,0,_,rfl,rfl,rfl,Nat.zero_le _,λ_=>rfl,P⟩,?_⟩
 rintro μ A Q R ⟨k,v,rfl,rfl,rfl,hk,y,s⟩ hLt;refine Ad (λl=>?_) (λl=>?_);rotate_left
 ·have l:=of_decide_eq_false l;rw[List.take_of_length_le G] at y s;refine⟨?_,Y7 (Cr:=λs=>[Value.string s]) (λ_=>⟨rfl,rfl⟩) (by rw[Za3];exact s.sl (i:=0) rfl) y⟩;have x:=s.e;rw[D] at x⊢;exact x.ag
 have l:=of_decide_eq_true l;have m:k<f.length:=G;have g:(f.take (k+1)).foldl Zar []=Zar ((f.take k).foldl Zar []) f[k]:=by rw[List.take_succ_eq_append_getElem m,List.foldl_append];rfl
 have U:=Zas (f.take k) [];rw[List.length_take,List.length_nil] at U;generalize(f.take k).foldl Zar []=ss at U s g y;have o:=s.sl (i:=0) rfl;obtain⟨A1,c1,rfl⟩:∃A c,v=.slice A ss.length c:=by obtain⟨_,A,c,e,_⟩:=o.rd;exact⟨A,c,e⟩
 obtain⟨b,c,e,_,cl⟩:=(s.sl (i:=1) rfl).cell (i:=k) (Dl m);cases e;generalize f[k]=u at cl g;refine⟨G,_,Dz (ld rfl cl) (by show 0+(k:Int).toNat*1=_;omega),_,(c45 B.toBase o.rd G d G).any,?_⟩;rintro _ h9 ⟨rfl,b2,rfl,n⟩;refine⟨_,_,rfl,Ad (λz=>?_) (λz=>?_)⟩
 ·have g:(f.take (k+1)).foldl Zar []=ss++[u]:=by rw[g];unfold Zar;rw[if_neg λh=>by rw[n.2 h] at z;cases z]
  obtain⟨v',J,t5,s5⟩:=s.ba (st:=55) (t2:=55) (e:=9) (k:=1) Kq (i:=0) rfl (ys:=[.string u]) rfl rfl s.e.nx G (n':=(ss++[u]).length) (xs':=AR (ss++[u])) (by simp) (by simp[AR]);exact⟨_,_,Iv (τ:=Ax) (t:=55) (e:=9) (k:=1) Kq (.string u) rfl rfl (by decide) _,_,_,t5,Pq,_,_,Sq,(by omega:4-(k+1)<_),k+1,_,rfl,rfl,rfl,G,λh=>by rw[g] at h;simp at h,by rw[g];exact s5⟩
 ·have g:(f.take (k+1)).foldl Zar []=ss:=by rw[g];unfold Zar;rw[if_pos (n.1 (by cases b2;cases z;rfl))]
  exact⟨Pq,_,_,Sq,(by omega:4-(k+1)<_),k+1,_,rfl,rfl,rfl,G,by rw[g];exact y,by rw[g];exact s⟩
def Sep.cS {h0 h:Y} {l:List Ct} {v w:Aa} {ss a:BZ} (s:Sep h0 h l) {i:Nat} (U:l[i]?=I (aS h0.nx 9 1 v ss.length (AR ss))) (r:Rd h w 1 a.length (AR a)) (hb:ss.length+a.length<=1000000):
 ∃v' J,Bx Ax .append [55,55] [v,w] h=I (v',J)/\Sep h0 J (l.set i (aS h0.nx 9 1 v' (ss++a).length (AR (ss++a)))):=by
 obtain⟨b,c1,rfl⟩:∃A c,w=.slice A a.length c:=by obtain⟨_,A,c,e,_⟩:=r;exact⟨A,c,e⟩
 obtain⟨v',J,d,f,g,j⟩:=UN (τ:=Ax) (st:=55) (t2:=55) (e:=9) (k:=1) Kq (s.sl U) (x:=.slice b a.length c1) r.bu r.src (by rw[CM];omega) (by unfold AR;rw[List.all_map];exact List.all_eq_true.2 λ_ _=>rfl) s.e.nx G;refine⟨v',J,d,s.ah U g ?_ j⟩;show AS J h0.nx 9 1 v' (ss++a).length (AR (ss++a));rw[Aj,show AR (ss++a)=AR ss++AR a from BS];exact f
def Sep.cu {τ:Bb} {t K:Nat} (d:ZX τ t K=Ag) {h0 h:Y} {l:List Ct} (s:Sep h0 h l) {i b e:Nat} {xs vs:AH} (U:l[i]?=I (aO b e xs)) (c:vs.length=K) (a:xs.length=K) (h1:vs.all one=Ag):
 ∃J,BA τ t h b 0 (.agg ⟨vs⟩)=I J/\Sep h0 J (l.set i (aO b e vs)):=by
 obtain⟨J,f,o,u⟩:=(s.dD U).bD (i:=0) d c G h1;have:=JB vs [] xs (c.trans a.symm);simp only[IW,Acd] at this;rw[this] at o;exact⟨J,f,s.ah U u.ae o λx a=>.inl a⟩
def Own.cI {h:Y} {b e n k:Nat} {ys:AH} (o:Own h b e ys) (a:ys.length=n*k):Rd h (.slice (I ⟨b,0,I 0⟩) n n) k n ys:=
 Own.cV (pre:=[]) (post:=[]) (by simpa using o) a (Ae _)
def J26 (h:Y) (A:As) (a:Y):Prop:=∃(v:Aa) (ss:BZ) (t:Bd) (b:Nat) (ys:AH),A=[(5,v),(6,.string t),(8,AG b 0)]/\ss.length<=30/\TT Apu 12 ys/\Sep h a [aO b 150 ys,aS h.nx 9 1 v ss.length (AR ss)]
def c26 (B:Base5 S L) {Zaf:Nat->Bd->Bd} {h:Y} (K:Zai S L Zaf h) (q:Jx h) (P:Mo h) {s:Bd} (hs:s.size<=200000) {day:Int}:Bk S L 11 26 [.string s,.int .i64 day] h λw J=>AA h J/\Pb h J 2000 w:=
 Nu (fn:=f26) B.toBase Kq rfl 5 (J26 h) λd hd'=>by
  have hL:=B.aI;refine⟨Dc rfl,⟨_,c59 B.toBase P G d G,?_⟩,?_⟩
  ·rintro v h1 ⟨m,ss,Q,hl1⟩;refine⟨_,K.kan 27 m (.inl ⟨.inl rfl,hs⟩) d G,?_⟩;rintro _ h2 ⟨r,rfl⟩;generalize Zaf 27 s=t;refine⟨_,c60 B.toBase d G,?_⟩;rintro _ h3 ⟨x3,x,rfl,n⟩;refine⟨_,c61 B.toBase d G,?_⟩;rintro _ h4 ⟨x4,ys,rfl,c⟩;have j:=(((Sep.nil h).add (a:=aS h.nx 9 1 v ss.length (AR ss)) m Q Q.ai).ext (r.trans x3)).ext x4;obtain⟨g5,U,V⟩:=j.al (t:=146) (z:=.agg ⟨cs0 6 (.int .i64 0)⟩) Kq;obtain⟨g6,X,y⟩:=V.al (t:=150) (z:=.agg ⟨cs0 12 (.string ⟨#[]⟩)⟩) Kq;obtain⟨b1,C⟩:∃b,b=h4.nx:=⟨_,rfl⟩;obtain⟨g,D⟩:∃b,b=g5.nx:=⟨_,rfl⟩;rw[←C] at U V y;rw[←D] at X y;obtain⟨g7,y7,s7⟩:=y.cu (τ:=Ax) (t:=146) (K:=12) Kq (i:=1) rfl n.1 rfl n.2.1;obtain⟨g8,y8,o⟩:=s7.cu (τ:=Ax) (t:=150) (K:=24) Kq (i:=0) rfl c.1 rfl c.2.1;have o:Sep h g8 [aO g 150 ys,aO b1 146 x,aS h.nx 9 1 v ss.length (AR ss)]:=o;refine⟨_,_,U _,_,_,X _,_,y7,_,y8,_,_,rfl,_,Aoy (R:=Awy) B.toBase ((o.dD (i:=1) rfl).cI n.1) (by decide) n (λu ⟨z,e,_⟩=>by rw[e];rfl) ⟨0,rfl,by decide,by decide⟩ (.inl ⟨rfl,rfl,rfl⟩) d G,?_⟩;rintro _ h9 ⟨x9,u,b,rfl,z,rfl,hz⟩;have p:=o.ext x9;have f:∀{A:As},Sub [(5,v),(6,.string t),(8,AG g 0)] A->∃A0,Sub A0 A/\J26 h A0 h9:=λE=>⟨_,E,v,ss,t,g,ys,rfl,G,c,(p.perm (l':=[aO b1 146 x,aO g 150 ys,aS h.nx 9 1 v ss.length (AR ss)]) (.swap ..)).drop 1⟩;cases b
   ·exact f (Sq)
   refine Ad (λk=>Ad (λF=>?_) (λF=>?_)) (λk=>?_)
   ·have k:=of_decide_eq_true k;have F:=of_decide_eq_true F;refine⟨Pq,_,c63 B.toBase (q.ext p.e) (P.ext p.e) d G,?_⟩;rintro w h10 ⟨H,l,M,hl10⟩;obtain⟨v',J,N,O⟩:=(p.ext H).cS (i:=2) rfl M.rd G;refine⟨_,_,N,_,Sq,v',ss++l,t,g,ys,rfl,by rw[List.length_append];omega,c,(O.perm (l':=[aO b1 146 x,aO g 150 ys,aS h.nx 9 1 v' (ss++l).length (AR (ss++l))]) (.swap ..)).drop 1⟩
   ·exact f (Sq)
   ·exact f (Sq)
  ·rintro A hh ⟨v,ss,t,b,ys,rfl,hl,c,s⟩;refine⟨_,_,rfl,_,Aoy (R:=Apu) B.toBase ((s.dD (i:=0) rfl).cI c.1) (by decide) c (λu ⟨z,e,_⟩=>by rw[e];rfl) ⟨_,rfl,by decide⟩ (.inr ⟨rfl,rfl,rfl⟩) d G,?_⟩;rintro _ h1 ⟨m,u,b',rfl,z,rfl,hz⟩;have j:=s.ext m;refine Ad (λk=>⟨_,c65 B.toBase G d G,?_⟩) (λk=>⟨j.e,ss,j.sl (i:=1) rfl,G⟩);rintro w h2 ⟨r,l,o2,hl2⟩;obtain⟨v',J,e3,s3⟩:=(j.ext r).cS (i:=1) rfl o2.rd G;exact⟨_,_,e3,s3.e,ss++l,s3.sl (i:=1) rfl,by rw[List.length_append];omega⟩
def A6.Ends.len {s:A6} {r n:Int} (h:s.Ends r n k) (a:0<=n):((s.St r k).2.2.length:Int)<=n:=by
 cases k with
 |zero=>exact a
 |
  succ k=>
  have:=Aha s r k;have:=(h.1 k G).2;omega
def Agq {k:Int} {cs:List Eu} (h:cs.length<=mo) (t:Bd):(Gz mo k cs t).length<=mo:=by
 unfold Gz;split
 .rename_i a;rw[Aj,Br];omega
 .exact h
def LB {k:Int}:∀(a:BZ) {cs:List Eu},cs.length<=mo->(a.foldl (Gz mo k) cs).length<=mo
 |[],_,h=>h
 |t::a,_,h=>LB a (Agq h t)
def NK {k:Int}:∀(a:BZ) (cs:List Eu),cs<+:a.foldl (Gz mo k) cs
 |[],_=>Eb _
 |
  t::a,cs=>by
  refine List.IsPrefix.trans ?_ (NK a _);unfold Gz;split
  .exact GS _ _
  .exact Eb _
def H7.bk {ob a c d most:Nat} {cs:List Eu} (O:H7 J N ob a c d cv most cs):H7 (h.aa J) N ob a c d cv most cs:=
 ⟨O.o.aa,O.s.aa,O.k.aa,O.m.aa,by unfold UV;rw[CL,DF];exact O.t,O.ne,O.b⟩
def Adg (N ob d e f:Nat) (cv:Aa) (most:Nat) (cs:List Eu):Ct:={
 am:=λi=>i=ob\/i=d\/i=e\/i=f\/BY cv i
 holds:=λh=>H7 h N ob d e f cv most cs
 aH:=λc a O=>⟨O.o.ae c (a _ (.inl B)),O.s.ae c λi U=>a i (.inr (.inr (.inr (.inr U)))),O.k.ae c (a _ (.inr (.inl B))),O.m.ae c (a _ (.inr (.inr (.inl B)))),O.t.ae c (a _ (.inr (.inr (.inr (.inl B))))),O.ne,O.b⟩
 lt:=λ{h} O i U=>by
  rcases U with rfl|rfl|rfl|rfl|U
  .exact O.o.1
  .exact O.k.1
  .exact O.m.1
  .exact O.t.1
  .exact O.s.aw i U
 bk:=λO=>O.bk}
def Sep.cg (q:Base S L) {l:List Ct} {ob b d g:Nat} {cs:List Eu} {o:Int} {f:BZ} (s:Sep h0 h l) (U:l[i]?=I (Adg h0.nx ob b d g cv mo cs)) (p:l[j]?=I (aS N 9 1 v n (AR f))) (r:n=f.length) (t:j≠i) (u:mo<=1000) (w:f.length<=1000000):
 Bk S L 1 24 [Vi o,v,AG ob 0,AG d 0,AG b 0] h λ_ J=>∃k,Sep h0 J (l.set i (Adg h0.nx ob b d g k mo (f.foldl (Gz mo o) cs))):=by
 subst r;refine(c24 q ((s.2.1 i _ U).1:H7 h h0.nx ob b d g cv mo cs) s.e.nx u (s.sl p).rd w λx a=>?_).mono λ_ J ⟨k,y,c,hb⟩=>⟨k,s.ah U (c.mono λx a=>?_) y λx a=>?_⟩
 .have m:=s.2.2 j i _ _ t p U x a
  exact⟨λe=>m (.inl e),λe=>m (.inr (.inr (.inr (.inl e)))),λe=>m (.inr (.inr (.inr (.inr e))))⟩
 .exact a.elim .inl λh=>h.elim (λe=>.inr (.inr (.inr (.inl e)))) λe=>.inr Jq
 .rcases a with e|e|e|e|e
  .exact .inl (.inl e)
  .exact .inl (.inr (.inl e))
  .exact .inl (.inr (.inr (.inl e)))
  .exact .inl (.inr (.inr (.inr (.inl e))))
  .exact(hb x e).imp (λe=>.inr (.inr (.inr (.inr e)))) id
def Sep.merge {d e:List Ct} (s:Sep h0 h (d++e)) (a:Ct) (v:a.holds h) (r:∀x,a.am x->∃b∈d,b.am x):Sep h0 h (a::e):=by
 have t:∀x (k:Nat) b,a.am x->e[k]?=I b->h0.nx<=x/\¬b.am x:=λx k b f n=>by
  obtain⟨c,o,l⟩:=r x f;obtain⟨m,g⟩:=Iz o;have w:=(List.getElem?_eq_some_iff.1 g).1;have u:(d++e)[m]?=I c:=by rw[AB w];exact g
  exact⟨(s.2.1 _ _ u).2 x l,s.2.2 _ _ c b G u (by rw[Bq G,Ds];exact n:(d++e)[d.length+k]?=I b) x l⟩
 have old:∀(k:Nat) b,e[k]?=I b->(d++e)[d.length+k]?=I b:=λk b n=>by rw[Bq G,Ds];exact n
 refine⟨s.1,λi b U=>?_,λi j b c y U p x f q=>?_⟩
 .cases i with
  |
   zero=>
   cases U;refine⟨v,λx f=>?_⟩;obtain⟨c,o,l⟩:=r x f;obtain⟨m,g⟩:=Iz o;exact(s.2.1 m c (by rw[AB (List.getElem?_eq_some_iff.1 g).1];exact g)).2 x l
  |succ i=>exact s.2.1 _ _ (old i b U)
 .cases i with
  |
   zero=>
   cases j with
   |zero=>exact y B
   |succ j=>cases U;exact(t x j c f p).2 q
  |
   succ i=>
   cases j with
   |zero=>cases p;exact(t x i b q U).2 f
   |succ j=>exact s.2.2 _ _ b c G (old i b U) (old j c p) x f q
def Agb (Zaf:Nat->Bd->Bd) (h J:Y) (V:Cb) (F T r d a:Int) (w:Value):Prop:=((F<0\/T<=F\/(V.fs.length:Int)<T\/a<1)/\w=.slice none 0 0)\/((0<=F/\F<T/\T<=V.fs.length/\1<=a)/\∃b:List Eu,AS J h.nx 47 2 w b.length (b.flatMap ME)/\(b.length:Int)<=min a 60/\
 ∃c:List Eu,b=(Za4 Zaf (RV V.tx F T).1).foldl (Gz (min a 60).toNat 3) c)
def Aiy (s:Bd) (f t:Int):(RV s f t).1.size<=s.size:=by
 unfold RV;split
 .exact Al _
 .show(Ana _ _).length<=_
  have:s.data.toList.length=s.size:=rfl;rw[Cg,AV];omega
def c10 (B:Sy S L) (hN:S.ov 15=none/\S.nd 15=some 9/\S.hk 15=none) {Zaf:Nat->Bd->Bd} (K:Zai S L Zaf h) (U:Ce h) (q:Jx h) (gn:Mo h) {V:Cb} (A:EI h lp V) (ok:V.Ok) {F T r lf l:Int}:
 Bk S L 14 10 [AG lp 0,.agg #[Vi F,Vi T],Vi r,Vi lf,Vi day,Vi l] h λw J=>AA h J/\Agb Zaf h J V F T r lf l w:=
 Zd (fn:=f10) B.toBase Kq rfl λd hd'=>by
  have hL:=B.aI;obtain⟨g1,y1,s1⟩:=(Sep.nil h).box Ax 32 (.agg #[Vi F,Vi T]);obtain⟨g2,y2,C⟩:=s1.box Ax 3 (Vi l);obtain⟨D,hpb⟩:∃b,b=h.nx:=⟨_,rfl⟩;obtain⟨E,hmb⟩:∃b,b=g1.nx:=⟨_,rfl⟩;have C:Sep h g2 [aO E 3 [Vi l],aO D 32 [Vi F,Vi T]]:=by rw[hpb,hmb];exact C
  rw[←hpb] at y1;rw[←hmb] at y2;have Q:∀{H:Y},AA h H->(F<0\/T<=F\/(V.fs.length:Int)<T\/l<1)->AA h H/\Agb Zaf h H V F T r lf l (.slice none 0 0):=λx hb=>⟨x,.inl ⟨hb,rfl⟩⟩;have cF:∀{H l'},Sep h H (aO E 3 l'::[aO D 32 [Vi F,Vi T]])->Cell H D 0 (Vi F)/\Cell H D 1 (Vi T):=λs=>⟨(s.dD (i:=1) rfl).cell rfl,(s.dD (i:=1) rfl).cell rfl⟩;refine⟨Dc rfl,_,_,y1,_,_,y2,[],Kq,_,rfl,_,ld rfl (cF C).1,Ad (λk1=>Q C.e (.inl (of_decide_eq_true k1))) (λk1=>⟨_,ld rfl (cF C).1,_,ld rfl (cF C).2,Ad (λk2=>Q C.e (.inr (.inl (of_decide_eq_true k2)))) (λk2=>⟨_,ld rfl (cF C).2,_,c11 B.toBase (A.ext (C.e.trans (AA.ad g2))) d G,?_⟩)⟩)⟩;rintro _ _ ⟨rfl,rfl⟩;have s3:=C.ext (AT (AA.refl g2));refine⟨rfl,Ad (λk3=>Q s3.e (.inr (.inr (.inl (of_decide_eq_true k3))))) (λk3=>⟨_,ld rfl ((s3.dD (i:=0) rfl).cell rfl),Ad (λk4=>Q s3.e (.inr (.inr (.inr (of_decide_eq_true k4))))) (λk4=>?_)⟩)⟩;have k1:=of_decide_eq_false k1;have k2:=of_decide_eq_false k2;have k3:=of_decide_eq_false k3;have k4:=of_decide_eq_false k4;refine⟨_,ld rfl ((s3.dD (i:=0) rfl).cell rfl),λz hz=>?_⟩;obtain⟨mo,rfl⟩:=Int.eq_ofNat_of_zero_le (show 0<=z by omega);obtain⟨g4,y4,s4⟩:=s3.st (t:=3) rfl (i:=0) rfl (by show 0<1;decide) (v:=Vi mo) rfl;obtain⟨g5,y5,s5⟩:=s4.al (z:=.slice none 0 0) Kq;have s6:=s5.add (a:=aB g5.nx (.map [] 0)) (AA.new _ (.map [] 0)) ⟨by rw[Ck];omega,by rw[CK,if_pos rfl]⟩ λi hi=>Nat.le_of_eq hi.symm;obtain⟨ob,hob⟩:∃b,b=g4.nx:=⟨_,rfl⟩;obtain⟨u,hkm⟩:∃b,b=g5.nx:=⟨_,rfl⟩;obtain⟨g7,y7,g8,y8,n⟩:=s6.var (t:=72) (z:=.map none) Kq (v:=.map (some u)) rfl rfl rfl;obtain⟨M,hkb⟩:∃b,b=(g5.new (.map [] 0)).nx:=⟨_,rfl⟩;have n:Sep h g8 ([aO M 72 [.map (some u)],aB u (.map [] 0),aO ob 41 [.slice none 0 0],aO E 3 [Vi mo]]++[aO D 32 [Vi F,Vi T]]):=by rw[hkb,hkm,hob];rw[hkm] at n;exact n
  have ne:∀{i j:Nat} {a b:Ct} {x y:Nat},i≠j->([aO M 72 [.map (some u)],aB u (.map [] 0),aO ob 41 [.slice none 0 0],aO E 3 [Vi mo]]++[aO D 32 [Vi F,Vi T]])[i]?=some a->([aO M 72 [.map (some u)],aB u (.map [] 0),aO ob 41 [.slice none 0 0],aO E 3 [Vi mo]]++[aO D 32 [Vi F,Vi T]])[j]?=some b->a.am x->b.am y->x≠y:=λhne hi hj hx hy e=>n.2.2 _ _ _ _ hne hi hj _ hx (e▸hy);have O:H7 g8 h.nx ob M E u (.slice none 0 0) mo []:=⟨n.dD (i:=2) rfl,AS.nil _ _ _ _,(n.dD (i:=0) rfl).cell (i:=0) rfl,(n.dD (i:=3) rfl).cell (i:=0) rfl,⟨(n.2.1 1 _ rfl).1.1,[],0,(n.2.1 1 _ rfl).1.2,rfl⟩,
   ⟨ne (i:=2) (j:=0) (by decide) rfl rfl rfl rfl,ne (i:=2) (j:=3) (by decide) rfl rfl rfl rfl,ne (i:=2) (j:=1) (by decide) rfl rfl rfl rfl,ne (i:=0) (j:=1) (by decide) rfl rfl rfl rfl,ne (i:=3) (j:=1) (by decide) rfl rfl rfl rfl⟩,λi hi=>hi.elim⟩
  have s9:=n.merge (Adg h.nx ob M E u (.slice none 0 0) mo []) O λx hx=>by
   rcases hx with e|e|e|e|e
   ·exact⟨_,by simp,(show(aO ob 41 [.slice none 0 0]).am x from e)⟩
   ·exact⟨_,by simp,(show(aO M 72 [.map (some u)]).am x from e)⟩
   ·exact⟨_,by simp,(show(aO E 3 [Vi mo]).am x from e)⟩
   ·exact⟨_,by simp,(show(aB u (.map [] 0)).am x from e)⟩
   ·exact e.elim
  rw[←hob] at y5;rw[←hkb] at y7 y8;rw[hkm] at y8;have om:∀{H:Y} {cv:Value} {cs:List Eu} {l':List Ct},Sep h H (Adg h.nx ob M E u cv mo cs::l')->H7 H h.nx ob M E u cv mo cs:=λs=>(s.2.1 0 _ rfl).1;refine⟨_,y4,_,_,y5 _,_,_,y7 _,_,y8,_,EQ (k:=2) Kq (s9.dD (i:=1) rfl).cells rfl,_,ld rfl (om s9).m,_,c12 B.toBase (A.ext s9.e) ok G d G,?_⟩;rintro w9 h9 ⟨x9,P⟩;rcases P with⟨hb,_⟩|⟨hF,kE,g,X,hos,o9,hnv⟩
  ·omega
  rw[show min (mo:Int) 200=min l 60 by omega] at X;obtain⟨A9,c9,rfl⟩:∃A c,w9=.slice A g.length c:=by obtain⟨_,A,c,e,_⟩:=o9.rd;exact⟨A,c,e⟩
  have p:=s9.add (a:=aS g8.nx 50 3 (.slice A9 g.length c9) g.length (g.flatMap Lg)) x9 o9 o9.ai;have hol:g.length<=60:=by have:=X.len G;rw[←hos,List.length_map] at this;omega
  refine⟨λμ A0 DD hh=>∃(i:Nat) (cv:Value),A0=[(0,AG lp 0),(4,Vi day),(7,AG D 0),(13,AG ob 0),(15,.func (.func 24) #[] #[AG ob 0,AG E 0,AG M 0]),(54,.slice A9 g.length c9),(55,Vi g.length),(56,Vi i)]/\DD=[]/\μ=g.length-i/\i<=g.length/\Sep h hh [Adg h.nx ob M E u cv mo (((g.take i).map λe=>e.P.tx).foldl (Gz mo 1) []),aS g8.nx 50 3 (.slice A9 g.length c9) g.length (g.flatMap Lg),aO D 32 [Vi F,Vi T]],
   ⟨_,_,Sq,G,0,_,rfl,rfl,rfl,Nat.zero_le _,p.perm (.swap ..)⟩,?_⟩
  rintro μ A0 DD hh ⟨i,cv,rfl,rfl,rfl,hi,s⟩ hLt;apply Bz<;>intro k5
  ·have R:i<g.length:=G;obtain⟨a1,_,e1,_,q1⟩:=(s.sl (i:=1) rfl).rd.el R;cases e1;rw[flatK (f:=Lg) (λ_=>rfl) g (List.getElem?_eq_getElem R)] at q1;obtain⟨g1,y1,g2,y2,C⟩:=s.var (t:=50) (z:=.agg ⟨[.slice none 0 0,Vi 0,.string ⟨#[]⟩]⟩) Kq (v:=.agg ⟨Lg g[i]⟩) rfl rfl (by
    show(one g[i].nv&&true)=true;rw[hnv _ (List.getElem_mem R)];rfl)
   have s3:=C.cE 1 (ss:=[g[i].P.tx]) rfl;refine⟨G,_,EQ (k:=3) Kq (show BK hh a1.block (a1.off+(i:Int).toNat*3) (Lg g[i]) from q1) rfl,_,_,y1 _,_,y2,_,ld rfl ((C.dD (i:=0) rfl).cell (xs:=Lg g[i]) (i:=2) rfl:Cell g2 hh.nx 2 (.string g[i].P.tx)),_,_,Avg _ _,_,s3.cg B.toBase (i:=2) (j:=0) rfl rfl rfl (by decide) G (Nat.le_of_ble_eq_true rfl) d G,?_⟩;rintro _ h4 ⟨cv',s4⟩;have e2:((g.take (i+1)).map λe=>e.P.tx).foldl (Gz mo 1) []=Gz mo 1 (((g.take i).map λe=>e.P.tx).foldl (Gz mo 1) []) g[i].P.tx:=by
    rw[List.take_succ_eq_append_getElem R,List.map_append,List.foldl_append];rfl
   exact⟨Pq,_,_,Sq,(by omega:g.length-(i+1)<_),i+1,cv',rfl,rfl,rfl,G,by rw[e2];exact s4.drop 2⟩
  ·rw[List.take_of_length_le G] at s;obtain⟨cs1,hcs⟩:∃cs,cs=(g.map λe=>e.P.tx).foldl (Gz mo 1) []:=⟨_,rfl⟩;rw[←hcs] at s;have htx:V.tx.size<=256:=by
    have h1:=ok.cL;have h2:=ok.N;have:=VD (s:=V.tx) G;omega
   have hrd:=Aiy V.tx F T;have cF:∀{H:Y} {a b:Ct},Sep h H [a,b,aO D 32 [Vi F,Vi T]]->Cell H D 0 (Vi F)/\Cell H D 1 (Vi T):=λs=>⟨(s.dD (i:=2) rfl).cell (i:=0) rfl,(s.dD (i:=2) rfl).cell (i:=1) rfl⟩;refine⟨[],Kq,_,PT (h:=hh.ad) B.toBase (A.ext (s.e.trans (AA.ad _))) d G,?_⟩;rintro _ _ ⟨rfl,rfl⟩;have s1:=s.ext (AT (AA.refl hh));refine⟨rfl,_,ld rfl (cF s1).1,_,ld rfl (cF s1).2,_,c25 (h:=(nb hh).ad) B.toBase5 (show Ce (nb hh) from U.ext s1.e) G d G,?_⟩;rintro _ h5 ⟨x5,rfl⟩;have s5:=s1.ext x5.aa;refine⟨x5.ag,_,c26 B.toBase5 (K.ext s5.e) (q.ext s5.e) (gn.ext s5.e) G d G,?_⟩;rintro w6 h6 ⟨x6,t1,o6,l6⟩;refine⟨_,(s5.add x6 (a:=aS _ 9 1 w6 t1.length (AR t1)) o6 o6.ai).cg B.toBase (i:=1) (j:=0) rfl rfl rfl (by decide) G G d G,?_⟩;rintro _ h7 ⟨cv7,s7⟩;have s7:=s7.drop 1;refine⟨_,K.kan 27 s7.e (.inl ⟨.inl rfl,G⟩) d G,?_⟩;rintro _ h8 ⟨x8,rfl⟩;have hy:=K.ksz (i:=27) (s:=(RV V.tx F T).1) (.inl ⟨.inl rfl,G⟩);rw[show Zae 27 (RV V.tx F T).1=4*(RV V.tx F T).1.size+4 from rfl] at hy;have n:=s7.ext x8;refine⟨_,c26 B.toBase5 (K.ext n.e) (q.ext n.e) (gn.ext n.e) G d G,?_⟩;rintro w9 h9 ⟨x9,t2,o9,l9⟩;refine⟨_,(n.add x9 (a:=aS _ 9 1 w9 t2.length (AR t2)) o9 o9.ai).cg B.toBase (i:=1) (j:=0) rfl rfl rfl (by decide) G G d G,?_⟩;rintro _ h10 ⟨cv10,p⟩;have p:=p.drop 1;refine⟨_,c15 B.toBase5 hN (K.ext p.e) (U.ext p.e) G d G,?_⟩;rintro w11 h11 ⟨x11,o11,l11⟩;obtain⟨t3,ht3⟩:∃t,t=Za4 Zaf (RV V.tx F T).1:=⟨_,rfl⟩;rw[←ht3] at o11 l11;refine⟨_,(p.add x11 (a:=aS _ 9 1 w11 t3.length (AR t3)) o11 o11.ai).cg B.toBase (i:=1) (j:=0) rfl rfl rfl (by decide) G G d G,?_⟩;rintro _ h12 ⟨cv12,s12⟩;have O:=om (s12.drop 1);have hlen:=LB (mo:=mo) (k:=3) t3 (LB (mo:=mo) (k:=2) t2 (LB (mo:=mo) (k:=2) t1 (hcs▸LB (mo:=mo) (k:=1) (g.map λe:IE=>e.P.tx) (cs:=[]) (Nat.zero_le _))));exact⟨_,ld rfl (O.o.cell (i:=0) rfl),s12.e,.inr ⟨G,_,O.s,G,_,by rw[(G:(min l 60).toNat=mo),ht3]⟩⟩
def D2:AH:=[.slice Z 0 0,.pointer Z,.pointer Z,.pointer Z,.pointer Z,.pointer Z,.pointer Z,.pointer Z,.pointer Z,.pointer Z,.pointer Z]
def Aov (h:Y) (v:Aa) (A:As) (b:Y):Prop:=∃(h1 a:Y) (k:Option BD) (l:Nat) (ps:List DQ) (m:Bool) (f n:Aa),A=[(0,v),(6,AG h1.nx 0),(7,AG a.nx 0)]/\AA h h1/\EC h1 (.slice k ps.length l) ps/\ps.length<=64/\
 (h1.nx<b.nx/\a.nx<b.nx)/\Sep h1 b [aO a.nx 127 ((D2.set 0 f).set 1 n),aO h1.nx 123 [.slice k ps.length l,.bool m]]/\
 (m=Ah->(∃c,Gt b f c/\(∀i,BY f i->i≠h1.nx/\i≠a.nx)/\1<=c.length/\c.length<=64/\∀q∈c,q.1.size<=16/\0<=q.2/\q.2<=2)/\
  ∃(d e g:Nat) (df:Int) (j:GX),n=AG d 0/\F6 b d e df g j/\(d≠h1.nx/\d≠a.nx)/\(g≠h1.nx/\g≠a.nx)/\EJ e j/\j.length<=5000/\(1<=e/\e<=64)/\(0<=df/\df<=30000))
def c19 (E:Base6 S L) {h:Y} (eh:Ce h) {v:Aa} {n:Nat} {bs:Bl} (qq:G3 h) (r:Rd h v 1 n (Ay bs)) (hn:n<=100000000):
 Bk S L 32 19 [v] h λw J=>AA h J/\∃(o:Aa) (z:Int),w=.tuple #[o,Vi z]/\(z=0->∃(b:Nat) (D:Dt),o=AG b 0/\DT J b D/\D.fits/\Sw D.ps/\D.mn=D.ps.length/\EJ D.ps.length D.ml/\(0<=D.df/\D.df<=30000)/\∀i:Nat,i<D.p5.n->(D.bG (i:Int)).ok D.ps.length):=
 Nu (fn:=f19) E.toBase Kq B 9 (Aov h v) λd hl=>by
  have hL:=E.aI;have ak:∀{H:Y},AA h H->AA h H/\∃(o:Aa) (z:Int),C4 #[.pointer Z,Vi 5]=.tuple #[o,Vi z]/\(z=0->∃(b:Nat) (D:Dt),o=AG b 0/\DT H b D/\D.fits/\Sw D.ps/\D.mn=D.ps.length/\EJ D.ps.length D.ml/\(0<=D.df/\D.df<=30000)/\∀i:Nat,i<D.p5.n->(D.bG (i:Int)).ok D.ps.length):=λx=>⟨x,_,5,B,λh=>by cases h⟩;refine⟨Dc B,?_,?_⟩
  .refine cl (c48 E.toBase2 r hn qq) ?_
   rintro _ h1 ⟨x1,pv,z,rfl,hz⟩;apply Ad<;>intro e1
   .exact ak x1
   obtain⟨ps,O,P⟩:=hz (by simpa using e1);obtain⟨g,k,rfl⟩:∃A c,pv=.slice A ps.length c:=by
    obtain⟨⟨_,A,c,e,_⟩,_⟩:=P;exact⟨A,c,e⟩
   obtain⟨f,y1,s1⟩:=(Sep.nil h1).box Ax 123 (.agg #[.slice g ps.length k,.bool Ah]);obtain⟨g2,y2,s2⟩:=s1.box Ax 127 (.agg ⟨D2⟩);have s2:Sep h1 g2 [aO f.nx 127 D2,aO h1.nx 123 [.slice g ps.length k,.bool Ah]]:=s2;refine⟨_,_,y1,_,_,y2,?_⟩;have hm:h1.nx<g2.nx:=(s2.dD (i:=1) B).1;have ho:f.nx<g2.nx:=(s2.dD (i:=0) B).1;refine cl (c50 E.toBase s2 P O (i:=1) B) ?_;rintro w3 h3 ⟨b3,s3,m3,n3,c3,hr,hs,ht,r3⟩;have s3:Sep h1 h3 [aO f.nx 127 D2,aO h1.nx 123 [.slice g ps.length k,.bool b3]]:=s3;refine cl (c49 E.toBase2 r3 G) ?_;rintro _ h4 ⟨x4,p,z4,rfl,ei,ej⟩;obtain⟨h5,u5,s5,v5⟩:=(s3.ext x4).a5 (τ:=Ax) (t:=22) B (i:=0) B (j:=0) (v:=p) (by show 0<11;decide) ei;have s5:Sep h1 h5 [aO f.nx 127 (D2.set 0 p),aO h1.nx 123 [.slice g ps.length k,.bool b3]]:=s5;refine⟨_,u5,?_⟩;have wf:∀{a b:Y},B0 (·=h1.nx) a b->B0 (λi=>i=h1.nx\/i=f.nx) a b:=λc=>c.mono λi h=>.inl h;have T:∀{a b:Y},B0 (·=f.nx) a b->B0 (λi=>i=h1.nx\/i=f.nx) a b:=λc=>c.mono λi h=>.inr h;have ek:∀(b6:Bool) (h6:Y),(b6=Ah->z4=0)->Sep h1 h6 [aO f.nx 127 (D2.set 0 p),aO h1.nx 123 [.slice g ps.length k,.bool b6]]->Er h1.nx h5 h6->∀(X:Bool) (V:Y),Sep h1 V [aO f.nx 127 (D2.set 0 p),aO h1.nx 123 [.slice g ps.length k,.bool X]]->(b6=Ag->X=Ag)->B0 (·=h1.nx) h6 V->
    ∀(h8:Y) (u:Aa) (z8:Int),AA V h8->(z8=0->∃(b m r:Nat) (df:Int) (l:GX),V.nx<=b/\V.nx<=r/\u=AG b 0/\F6 h8 b m df r l/\EJ m l/\l.length<=5000/\(1<=m/\m<=64)/\(0<=df/\df<=30000))->
    ∀(h9:Y),Er f.nx h8 h9->∀(ae:Bool) (ab:Y),(ae=Ah->z8=0/\X=Ah)->Sep h1 ab [aO f.nx 127 ((D2.set 0 p).set 1 u),aO h1.nx 123 [.slice g ps.length k,.bool ae]]->Er h1.nx h9 ab->
    Aov h v [(0,v),(6,AG h1.nx 0),(7,AG f.nx 0)] ab:=by
    intro b6 h6 k6 s6 v6 X V s7 m7 c7 h8 u z8 x8 bf h9 v9 ae ab en af bg;have hu:h1.nx<h3.nx/\f.nx<h3.nx:=by have:=n3;omega
    have e8:=(T v9.ae).trans (wf bg.ae);have e7:=(x8.ae _).trans e8;have e4:=((T v5.ae).trans (wf v6.ae)).trans ((wf c7).trans e7);have hv:h1.nx<V.nx/\f.nx<V.nx:=by have:=x4.nx;have:=v5.nx;have:=v6.nx;have:=c7.nx;omega
    refine⟨h1,f,g,k,ps,ae,p,u,B,x1,P,O,⟨(af.dD (i:=1) B).1,(af.dD (i:=0) B).1⟩,af,λhb=>?_⟩;obtain⟨eo,ep⟩:=en hb;obtain⟨bh,al,hp⟩:=ej (k6 (by cases b6<;>first|rfl|exact Cf (m7 B) (by rw[ep];decide)))
    obtain⟨mb,mm,mr,df,ml,hw,hx,rfl,bi,q⟩:=bf eo;refine⟨⟨bh,Rd.ae al.rd e4 (λi U y=>?_),λi U=>?_,hp⟩,mb,mm,mr,df,ml,B,bi.ae e8 (λy=>?_) (λy=>?_),G,G,q⟩
    .have:=al.ai i U;omega
    .have:=al.ai i U;exact⟨by omega,by omega⟩
    .omega
    .omega
   have q5:=(s5.dD (i:=1) B).cell (i:=1) (v:=.bool b3) B;have f5:∀bb:Bool,∃J,BA Ax 4 h5 h1.nx 1 (.bool bb)=I J/\Sep h1 J [aO f.nx 127 (D2.set 0 p),aO h1.nx 123 [.slice g ps.length k,.bool bb]]/\Er h1.nx h5 J:=λbb=>s5.a5 (τ:=Ax) (t:=4) B (i:=1) B (j:=1) (v:=.bool bb) (by show 1<2;decide) B;cases b3
   all_goals
    refine⟨_,ld B q5,?_⟩;obtain⟨h6,u6,s6,v6⟩:=f5 _;refine⟨_,u6,_,c50 E.toBase s6 P O (i:=1) B d G,?_⟩;rintro w7 V ⟨X,s7,m7,n7,c7,hy,h0,h2,r7⟩;have s7:Sep h1 V [aO f.nx 127 (D2.set 0 p),aO h1.nx 123 [.slice g ps.length k,.bool X]]:=s7;refine cl (c51 E.toBase2 r7 G) ?_;rintro _ h8 ⟨x8,u,z8,rfl,er,bf⟩;obtain⟨h9,u9,s9,v9⟩:=(s7.ext x8).a5 (τ:=Ax) (t:=116) B (i:=0) B (j:=1) (v:=u) (by show 1<11;decide) er;have s9:Sep h1 h9 [aO f.nx 127 ((D2.set 0 p).set 1 u),aO h1.nx 123 [.slice g ps.length k,.bool X]]:=s9;refine⟨_,u9,?_⟩;have q9:=(s9.dD (i:=1) B).cell (i:=1) (v:=.bool X) B;have f9:∀bb:Bool,∃J,BA Ax 4 h9 h1.nx 1 (.bool bb)=I J/\Sep h1 J [aO f.nx 127 ((D2.set 0 p).set 1 u),aO h1.nx 123 [.slice g ps.length k,.bool bb]]/\Er h1.nx h9 J:=λbb=>s9.a5 (τ:=Ax) (t:=4) B (i:=1) B (j:=1) (v:=.bool bb) (by show 1<2;decide) B;cases X
    all_goals
     refine⟨_,ld B q9,?_⟩;obtain⟨ab,et,af,bg⟩:=f9 _;exact⟨_,et,_,Sq,ek _ h6 (by simp) s6 v6 _ V s7 m7 c7 h8 u z8 x8 bf h9 v9 _ ab (by simp) af bg⟩
  rintro _ ab ⟨h1,f,g,k,ps,ae,p,u,rfl,x1,P,O,cw,af,hq⟩;have wf:∀{a b:Y},B0 (·=h1.nx) a b->B0 (λi=>i=h1.nx\/i=f.nx) a b:=λc=>c.mono λi h=>.inl h;have T:∀{a b:Y},B0 (·=f.nx) a b->B0 (λi=>i=h1.nx\/i=f.nx) a b:=λc=>c.mono λi h=>.inr h;refine cl (c52 E.toBase2 af P O (i:=1) B) ?_;rintro F aq ⟨bj,bk,m11,ev,c11,d11⟩;have bk:Sep h1 aq [aO f.nx 127 ((D2.set 0 p).set 1 u),aO h1.nx 123 [.slice g ps.length k,.bool bj]]:=bk;have ew:one F=true:=by rcases d11 with⟨rfl,_⟩|⟨_,_,rfl,_⟩<;>rfl
  refine cl (c53 E.toBase2 bk P O (i:=1) B) ?_;rintro K ar ⟨am,bl,m12,ex,c12,d12⟩;have bl:Sep h1 ar [aO f.nx 127 ((D2.set 0 p).set 1 u),aO h1.nx 123 [.slice g ps.length k,.bool am]]:=bl;have ey:one K=true:=by rcases d12 with⟨rfl,_⟩|⟨_,_,_,_,rfl,_⟩<;>rfl
  obtain⟨au,ez,bm,cx⟩:=bl.a5 (τ:=Ax) (t:=124) B (i:=0) B (j:=2) (v:=F) (by show 2<11;decide) ew;have bm:Sep h1 au [aO f.nx 127 (((D2.set 0 p).set 1 u).set 2 F),aO h1.nx 123 [.slice g ps.length k,.bool am]]:=bm;refine⟨_,ez,?_⟩;obtain⟨av,e0,bn,cy⟩:=bm.a5 (τ:=Ax) (t:=125) B (i:=0) B (j:=4) (v:=K) (by show 4<11;decide) ey;have bn:Sep h1 av [aO f.nx 127 ((((D2.set 0 p).set 1 u).set 2 F).set 4 K),aO h1.nx 123 [.slice g ps.length k,.bool am]]:=bn;refine⟨_,e0,?_⟩;refine cl (c52 E.toBase2 bn P O (i:=1) B) ?_;rintro M aw ⟨bo,bp,m15,e2,c15,d15⟩;have bp:Sep h1 aw [aO f.nx 127 ((((D2.set 0 p).set 1 u).set 2 F).set 4 K),aO h1.nx 123 [.slice g ps.length k,.bool bo]]:=bp;have e3:one M=true:=by rcases d15 with⟨rfl,_⟩|⟨_,_,rfl,_⟩<;>rfl
  refine cl (c53 E.toBase2 bp P O (i:=1) B) ?_;rintro Q ax ⟨an,bq,m16,e5,PT,d16⟩;have bq:Sep h1 ax [aO f.nx 127 ((((D2.set 0 p).set 1 u).set 2 F).set 4 K),aO h1.nx 123 [.slice g ps.length k,.bool an]]:=bq;have e6:one Q=true:=by rcases d16 with⟨rfl,_⟩|⟨_,_,_,_,rfl,_⟩<;>rfl
  obtain⟨ay,e9,br,cz⟩:=bq.a5 (τ:=Ax) (t:=124) B (i:=0) B (j:=3) (v:=M) (by show 3<11;decide) e3;have br:Sep h1 ay [aO f.nx 127 (((((D2.set 0 p).set 1 u).set 2 F).set 4 K).set 3 M),aO h1.nx 123 [.slice g ps.length k,.bool an]]:=br;refine⟨_,e9,?_⟩;obtain⟨az,fa,bt,c0⟩:=br.a5 (τ:=Ax) (t:=125) B (i:=0) B (j:=5) (v:=Q) (by show 5<11;decide) e6;have bt:Sep h1 az [aO f.nx 127 ((((((D2.set 0 p).set 1 u).set 2 F).set 4 K).set 3 M).set 5 Q),aO h1.nx 123 [.slice g ps.length k,.bool an]]:=bt;refine⟨_,fa,?_⟩;refine cl (c53 E.toBase2 bt P O (i:=1) B) ?_;rintro aa a0 ⟨bu,bv,fb,fc,c19,d19⟩;have bv:Sep h1 a0 [aO f.nx 127 ((((((D2.set 0 p).set 1 u).set 2 F).set 4 K).set 3 M).set 5 Q),aO h1.nx 123 [.slice g ps.length k,.bool bu]]:=bv;have fd:one aa=true:=by rcases d19 with⟨rfl,_⟩|⟨_,_,_,_,rfl,_⟩<;>rfl
  refine cl (c53 E.toBase2 bv P O (i:=1) B) ?_;rintro ad a1 ⟨bw,bx,fe,ff,Sn,d20⟩;have bx:Sep h1 a1 [aO f.nx 127 ((((((D2.set 0 p).set 1 u).set 2 F).set 4 K).set 3 M).set 5 Q),aO h1.nx 123 [.slice g ps.length k,.bool bw]]:=bx;have fg:one ad=true:=by rcases d20 with⟨rfl,_⟩|⟨_,_,_,_,rfl,_⟩<;>rfl
  refine cl (c53 E.toBase2 bx P O (i:=1) B) ?_;rintro ag a2 ⟨ah,bz,fh,fi,fj,d21⟩;have bz:Sep h1 a2 [aO f.nx 127 ((((((D2.set 0 p).set 1 u).set 2 F).set 4 K).set 3 M).set 5 Q),aO h1.nx 123 [.slice g ps.length k,.bool ah]]:=bz;have fk:one ag=true:=by rcases d21 with⟨rfl,_⟩|⟨_,_,_,_,rfl,_⟩<;>rfl
  obtain⟨a3,fl,b0,c1⟩:=bz.a5 (τ:=Ax) (t:=125) B (i:=0) B (j:=6) (v:=aa) (by show 6<11;decide) fd;have b0:Sep h1 a3 [aO f.nx 127 (((((((D2.set 0 p).set 1 u).set 2 F).set 4 K).set 3 M).set 5 Q).set 6 aa),aO h1.nx 123 [.slice g ps.length k,.bool ah]]:=b0;refine⟨_,fl,?_⟩;obtain⟨a4,fm,b1,c2⟩:=b0.a5 (τ:=Ax) (t:=125) B (i:=0) B (j:=7) (v:=ad) (by show 7<11;decide) fg;have b1:Sep h1 a4 [aO f.nx 127 ((((((((D2.set 0 p).set 1 u).set 2 F).set 4 K).set 3 M).set 5 Q).set 6 aa).set 7 ad),aO h1.nx 123 [.slice g ps.length k,.bool ah]]:=b1;refine⟨_,fm,?_⟩;obtain⟨a5,fo,b2,c4⟩:=b1.a5 (τ:=Ax) (t:=125) B (i:=0) B (j:=8) (v:=ag) (by show 8<11;decide) fk;have b2:Sep h1 a5 [aO f.nx 127 (((((((((D2.set 0 p).set 1 u).set 2 F).set 4 K).set 3 M).set 5 Q).set 6 aa).set 7 ad).set 8 ag),aO h1.nx 123 [.slice g ps.length k,.bool ah]]:=b2;refine⟨_,fo,?_⟩;refine cl (c53 E.toBase2 b2 P O (i:=1) B) ?_;rintro a6 a7 ⟨b4,b5,m25,fp,c25,d25⟩;have b5:Sep h1 a7 [aO f.nx 127 (((((((((D2.set 0 p).set 1 u).set 2 F).set 4 K).set 3 M).set 5 Q).set 6 aa).set 7 ad).set 8 ag),aO h1.nx 123 [.slice g ps.length k,.bool b4]]:=b5;have fq:one a6=true:=by rcases d25 with⟨rfl,_⟩|⟨_,_,_,_,rfl,_⟩<;>rfl
  refine cl (c53 E.toBase2 b5 P O (i:=1) B) ?_;rintro b7 a8 ⟨ao,b8,m26,fr,c26,d26⟩;have b8:Sep h1 a8 [aO f.nx 127 (((((((((D2.set 0 p).set 1 u).set 2 F).set 4 K).set 3 M).set 5 Q).set 6 aa).set 7 ad).set 8 ag),aO h1.nx 123 [.slice g ps.length k,.bool ao]]:=b8;have fs:one b7=true:=by rcases d26 with⟨rfl,_⟩|⟨_,_,_,_,rfl,_⟩<;>rfl
  obtain⟨a9,ft,b9,c5⟩:=b8.a5 (τ:=Ax) (t:=125) B (i:=0) B (j:=9) (v:=a6) (by show 9<11;decide) fq;have b9:Sep h1 a9 [aO f.nx 127 ((((((((((D2.set 0 p).set 1 u).set 2 F).set 4 K).set 3 M).set 5 Q).set 6 aa).set 7 ad).set 8 ag).set 9 a6),aO h1.nx 123 [.slice g ps.length k,.bool ao]]:=b9;refine⟨_,ft,?_⟩;obtain⟨C,fu,ai,c6⟩:=b9.a5 (τ:=Ax) (t:=125) B (i:=0) B (j:=10) (v:=b7) (by show 10<11;decide) fs;have ai:Sep h1 C [aO f.nx 127 (((((((((((D2.set 0 p).set 1 u).set 2 F).set 4 K).set 3 M).set 5 Q).set 6 aa).set 7 ad).set 8 ag).set 9 a6).set 10 b7),aO h1.nx 123 [.slice g ps.length k,.bool ao]]:=ai;refine⟨_,fu,?_⟩;have qL:=(ai.dD (i:=1) B).cell (i:=1) (v:=.bool ao) B;cases ao with
  |true=>exact⟨_,ld B qL,ak (x1.trans ai.e)⟩
  |false=>
  have c8:b4=false:=by cases y:b4 with|false=>rfl|true=>exact Cf (m26 y) (by decide)
  have c9:ah=false:=by cases y:ah with|false=>rfl|true=>exact Cf (m25 y) (by rw[c8];decide)
  have da:bw=false:=by cases y:bw with|false=>rfl|true=>exact Cf (fh y) (by rw[c9];decide)
  have db:bu=false:=by cases y:bu with|false=>rfl|true=>exact Cf (fe y) (by rw[da];decide)
  have dc:an=false:=by cases y:an with|false=>rfl|true=>exact Cf (fb y) (by rw[db];decide)
  have dd:bo=false:=by cases y:bo with|false=>rfl|true=>exact Cf (m16 y) (by rw[dc];decide)
  have de:am=false:=by cases y:am with|false=>rfl|true=>exact Cf (m15 y) (by rw[dd];decide)
  have dg:bj=false:=by cases y:bj with|false=>rfl|true=>exact Cf (m12 y) (by rw[de];decide)
  have fv:ae=false:=by cases y:ae with|false=>rfl|true=>exact Cf (m11 y) (by rw[dg];decide)
  obtain⟨⟨bh,al,dh,h7,fw,ia⟩,mb,mm,mr,df,ml,rfl,bi,di,dj,fx,fy,ib,fz⟩:=hq fv;have dk:h1.nx<aq.nx/\f.nx<aq.nx:=by have:=ev;omega
  have ic:h1.nx<ar.nx/\f.nx<ar.nx:=by have:=ex;omega
  have ie:h1.nx<au.nx/\f.nx<au.nx:=by have:=cx.nx;omega
  have dl:h1.nx<av.nx/\f.nx<av.nx:=by have:=cy.nx;omega
  have dm:h1.nx<aw.nx/\f.nx<aw.nx:=by have:=e2;omega
  have ig:h1.nx<ax.nx/\f.nx<ax.nx:=by have:=e5;omega
  have ih:h1.nx<ay.nx/\f.nx<ay.nx:=by have:=cz.nx;omega
  have dn:h1.nx<az.nx/\f.nx<az.nx:=by have:=c0.nx;omega
  have dp:h1.nx<a0.nx/\f.nx<a0.nx:=by have:=fc;omega
  have dq:h1.nx<a1.nx/\f.nx<a1.nx:=by have:=ff;omega
  have ii:h1.nx<a2.nx/\f.nx<a2.nx:=by have:=fi;omega
  have ij:h1.nx<a3.nx/\f.nx<a3.nx:=by have:=c1.nx;omega
  have ik:h1.nx<a4.nx/\f.nx<a4.nx:=by have:=c2.nx;omega
  have dr:h1.nx<a5.nx/\f.nx<a5.nx:=by have:=c4.nx;omega
  have ds:h1.nx<a7.nx/\f.nx<a7.nx:=by have:=fp;omega
  have il:h1.nx<a8.nx/\f.nx<a8.nx:=by have:=fr;omega
  have im:h1.nx<a9.nx/\f.nx<a9.nx:=by have:=c5.nx;omega
  have io:h1.nx<C.nx/\f.nx<C.nx:=by have:=c6.nx;omega
  have dt:B0 (λi=>i=h1.nx\/i=f.nx) C C:=(AA.refl C).ae _;have du:B0 (λi=>i=h1.nx\/i=f.nx) a9 C:=(T c6.ae).trans dt;have ca:B0 (λi=>i=h1.nx\/i=f.nx) a8 C:=(T c5.ae).trans du;have cb:B0 (λi=>i=h1.nx\/i=f.nx) a7 C:=(wf c26).trans ca;have dv:B0 (λi=>i=h1.nx\/i=f.nx) a5 C:=(wf c25).trans cb;have dw:B0 (λi=>i=h1.nx\/i=f.nx) a4 C:=(T c4.ae).trans dv;have dx:B0 (λi=>i=h1.nx\/i=f.nx) a3 C:=(T c2.ae).trans dw;have cc:B0 (λi=>i=h1.nx\/i=f.nx) a2 C:=(T c1.ae).trans dx;have cd:B0 (λi=>i=h1.nx\/i=f.nx) a1 C:=(wf fj).trans cc;have ce:B0 (λi=>i=h1.nx\/i=f.nx) a0 C:=(wf Sn).trans cd;have dy:B0 (λi=>i=h1.nx\/i=f.nx) az C:=(wf c19).trans ce;have dz:B0 (λi=>i=h1.nx\/i=f.nx) ay C:=(T c0.ae).trans dy;have cf:B0 (λi=>i=h1.nx\/i=f.nx) ax C:=(T cz.ae).trans dz;have cg:B0 (λi=>i=h1.nx\/i=f.nx) aw C:=(wf PT).trans cf;have ea:B0 (λi=>i=h1.nx\/i=f.nx) av C:=(wf c15).trans cg;have eb:B0 (λi=>i=h1.nx\/i=f.nx) au C:=(T cy.ae).trans ea;have ch:B0 (λi=>i=h1.nx\/i=f.nx) ar C:=(T cx.ae).trans eb;have ci:B0 (λi=>i=h1.nx\/i=f.nx) aq C:=(wf c12).trans ch;have cj:B0 (λi=>i=h1.nx\/i=f.nx) ab C:=(wf c11).trans ci;rcases d11 with⟨_,e⟩|⟨ga,t11,rfl,ck⟩
  .exact Cf e (by rw[dg];decide)
  have ck:=(ck.fr ci (λi U=>by rcases U with rfl|rfl;exact cw.1;exact cw.2)).1;rcases d12 with⟨_,e⟩|⟨gb,gc,gd,ge,rfl,cm⟩
  .exact Cf e (by rw[de];decide)
  have cm:=(cm.fr ch (λi U=>by rcases U with rfl|rfl;exact dk.1;exact dk.2)).1;rcases d15 with⟨_,e⟩|⟨gf,t15,rfl,cn⟩
  .exact Cf e (by rw[dd];decide)
  have cn:=(cn.fr cg (λi U=>by rcases U with rfl|rfl;exact dl.1;exact dl.2)).1;rcases d16 with⟨_,e⟩|⟨gg,gh,gi,gj,rfl,cp⟩
  .exact Cf e (by rw[dc];decide)
  have cp:=(cp.fr cf (λi U=>by rcases U with rfl|rfl;exact dm.1;exact dm.2)).1;rcases d19 with⟨_,e⟩|⟨gk,gl,gm,gn,rfl,cq⟩
  .exact Cf e (by rw[db];decide)
  have cq:=(cq.fr ce (λi U=>by rcases U with rfl|rfl;exact dn.1;exact dn.2)).1;rcases d20 with⟨_,e⟩|⟨go,gp,gq,gr,rfl,cr⟩
  .exact Cf e (by rw[da];decide)
  have cr:=(cr.fr cd (λi U=>by rcases U with rfl|rfl;exact dp.1;exact dp.2)).1;rcases d21 with⟨_,e⟩|⟨gs,gt,gu,gv,rfl,cs⟩
  .exact Cf e (by rw[c9];decide)
  have cs:=(cs.fr cc (λi U=>by rcases U with rfl|rfl;exact dq.1;exact dq.2)).1;rcases d25 with⟨_,e⟩|⟨gw,gx,gy,gz,rfl,ct⟩
  .exact Cf e (by rw[c8];decide)
  have ct:=(ct.fr cb (λi U=>by rcases U with rfl|rfl;exact dr.1;exact dr.2)).1;rcases d26 with⟨_,e⟩|⟨g0,g1,g3,g4,rfl,cu⟩
  .cases e
  have cu:=(cu.fr ca (λi U=>by rcases U with rfl|rfl;exact ds.1;exact ds.2)).1;obtain⟨D,hD⟩:∃D:Dt,D=⟨p,bh,mb,mm,mr,df,ml,ga,t11,gf,t15,⟨gb,gc,gd,ge⟩,⟨gg,gh,gi,gj⟩,⟨gk,gl,gm,gn⟩,⟨go,gp,gq,gr⟩,⟨gs,gt,gu,gv⟩,⟨gw,gx,gy,gz⟩,⟨g0,g1,g3,g4⟩⟩:=⟨_,B⟩;have A:DT C f.nx D:=by
   subst hD;exact⟨λi v e=>(ai.dD (i:=0) B).cell e,Rd.ae al cj (λi U y=>by rcases y with rfl|rfl;exact(dh _ U).1 rfl;exact(dh _ U).2 rfl),
    bi.ae cj (λy=>y.elim di.1 di.2) (λy=>y.elim dj.1 dj.2),
    ck,cn,cm,cp,cq,cr,cs,ct,cu⟩
  have ba:EJ D.mn D.ml/\D.mn<=64/\D.ml.length<=5000/\D.ps.length<=64/\(0<=D.df/\D.df<=30000):=by
   subst hD;exact⟨fx,by show mm<=64;omega,fy,fw,fz⟩
  clear hD cj ci ch eb ea cg cf dz dy ce cd cc dx dw dv cb ca du dt;refine⟨_,ld B qL,_,c54 E.toBase A d G,?_⟩;rintro _ N ⟨xA,rr,rfl,aj⟩;have ec:=x1.trans (ai.e.trans xA);refine⟨_,_,B,Ad (λeA=>?_) (λeA=>?_)⟩
  .exact ak ec
  have aj:=aj (by cases rr<;>first|rfl|cases eA)
  have ap:=A.ext xA;have k0:=ap.c 0 _ B;have k1:=ap.c 1 _ B;refine⟨[],Kq,_,ld B k0,_,ld B k1,_,c56 (h:=N.ad) E.toBase ap.ad d G,?_⟩;rintro _ R ⟨xB,rfl,g5,g6⟩;have g7:=ap.ext xB.aa;refine⟨xB.ag,_,c55 (h:=(N.aa R).ad) (a:=0) E.toBase g7.ad aj (show Cell (N.aa R) _ _ _ from g5.aa) (show Cell (N.aa R) _ _ _ from g6.aa) G aj.1 d G,?_⟩;rintro wC W ⟨xC,es,g8,ip,g9,ha⟩;have ed:=xB.aa.trans xC.aa;have bc:=ap.ext ed;have cv:=ec.trans ed;have hc:Dq ((N.aa R).aa W) wC es:=Rd.aa g8;refine⟨xC.ag,_,c46 (h:=((N.aa R).aa W).ad) E (show Ce ((N.aa R).aa W) from eh.ext cv) (show G3 ((N.aa R).aa W) from qq.ext cv) (show Gt ((N.aa R).aa W) _ _ from bc.pos) G (show Dq ((N.aa R).aa W) _ _ from hc) (by have:=aj.1;omega) (λe he=>by have:=(g9 e he).1;exact⟨by omega,by omega⟩) (.inr ⟨D.mb,D.mr,D.df,D.ml,B,D.mn,show F6 ((N.aa R).aa W) _ _ _ _ _ from bc.cJ,ba.1,ba.2.1,G⟩) d G,?_⟩;rintro _ hE ⟨xE,oE,zE,rfl,hd⟩;have bd:=cv.trans xE.aa;refine⟨xE.ag,?_⟩;apply Ad<;>intro eE
  .exact ak bd
  obtain⟨⟨hf,hg⟩,be,ee,iq,rE⟩:=hd (by simpa using eE);have be:=be D.mb D.mn B (show Cell ((N.aa R).aa W) _ _ _ from bc.cJ.2.1);have ef:Rd (((N.aa R).aa W).aa hE) oE 1 ee.length (Ay ee):=rE.rd.aa;have eg:Rd (((N.aa R).aa W).aa hE) v 1 n (Ay bs):=r.ext bd;have hh:=FB (τ:=Ax) (s:=62) (d:=9) Kq ef;have hj:=FB (τ:=Ax) (s:=62) (d:=9) Kq eg;have hk:=bc.ext xE.aa;obtain⟨_,ir,it,rfl,_⟩:=ef;obtain⟨_,iu,iv,rfl,_⟩:=eg;refine⟨_,hh,_,hj,_,B,Ad (λeF=>?_) (λeF=>?_)⟩
  .exact ak bd
  .exact⟨bd,_,0,B,λ_=>⟨f.nx,D,B,hk,aj,hf,be,(by rw[←be];exact ba.1),ba.2.2.2.2,λi U=>hg _ (by rw[ha];exact List.mem_map.2 ⟨i,List.mem_range.2 G,by rw[Ba]⟩)⟩⟩
def Zaq {n:Int} (h:El s=n) (h1:1<=n):(RV s 0 n).1=s:=by
 have c:(H5 s:Int)=n:=by
  unfold El at h;split at h<;>omega
 unfold RV;rw[if_neg G];have a:Acr s (0:Int).toNat=0:=by unfold Acr;rw[if_pos (by show 0<H5 s;omega)];rfl
 have b:Acr s n.toNat=s.size:=by unfold Acr;rw[if_neg G]
 rw[a,b,List.drop_zero,Nat.sub_zero,show s.data.toList.take s.size=s.data.toList from List.take_length ..];rfl
def Zam {k:Int} {cs:List Eu} {t:Bd} (h:(Gz mo k cs t).length<mo):cs.length<mo/\t∈(Gz mo k cs t).map Prod.fst:=by
 unfold Gz at h⊢;split at h
 ·rename_i a;rw[if_pos a];exact⟨a.1,by simp⟩
 ·rename_i a;rw[if_neg a];exact⟨h,Classical.byContradiction λb=>a ⟨h,b⟩⟩
def Zan {k:Int}:∀(d:BZ) (cs:List Eu),(d.foldl (Gz mo k) cs).length<mo->cs.length<mo/\∀t∈d,t∈(d.foldl (Gz mo k) cs).map Prod.fst
 |[],cs,h=>⟨h,λ_ i=>by cases i⟩
 |t::d,cs,h=>by
  obtain⟨a,b⟩:=Zan d _ h;obtain⟨c,e⟩:=Zam a;refine⟨c,λx f=>?_⟩;rcases List.mem_cons.1 f with rfl|f
  ·obtain⟨y,j,g⟩:=List.mem_map.1 e;exact List.mem_map.2 ⟨y,(NK (mo:=mo) (k:=k) d _).subset j,g⟩
  ·exact b x f
def c8 (j:Sy S L) {h:Y} (A:Ce h) (M:G3 h) {s:Lf} (a:Lt L h s) (l:s.aV):PE S L 33 8 [.agg ⟨s.cells⟩] h λw J=>AA h J/\∃(o p:Aa) (z:Int),w=.tuple #[o,p,.int .i64 z]/\(z=0->∃(lp:Nat) (V:Cb),p=AG lp 0/\EI J lp V/\V.Ok):=
 GU (fn:=f8) j.toBase Kq B λd ag=>by
  have hL:=j.aI;obtain⟨⟨pv,df,cv,ev,ps,cs,es⟩,m,lv,n,ls,rs⟩:=s;obtain⟨g,W,q⟩:=(Sep.nil h).box Ax 30 (.agg ⟨[pv,.int .i64 df,cv,ev,.string m,lv,n]⟩);have o:Own g h.nx 30 [pv,.int .i64 df,cv,ev,.string m,lv,n]:=q.dD (i:=0) B;have N:∀{H:Y} {o p:Aa} {z:Int},AA h H->z≠0->AA h H/\∃(o' O:Aa) (P:Int),C4 #[o,p,.int .i64 z]=.tuple #[o',O,.int .i64 P]/\(P=0->∃(lp:Nat) (V:Cb),O=AG lp 0/\EI H lp V/\V.Ok):=λx C=>⟨x,_,_,_,B,λh=>Cf h C⟩;have X:BK g h.nx 0 [pv,.int .i64 df,cv,ev]:=⟨o.1,by
   obtain⟨_,c,x,Q,E⟩:=o;exact⟨c,_,_,_,_,x,Q,λi u U=>by rw[Ba];exact E i u (by rw[show[pv,.int .i64 df,cv,ev,.string m,lv,n]=[pv,.int .i64 df,cv,ev]++[.string m,lv,n] from B,AB (List.getElem?_eq_some_iff.1 U).1];exact U)⟩⟩
  refine⟨Dc B,_,_,W,_,EQ (k:=4) Kq X B,_,(Xc j.toBase6 (A.ext q.e) (M.ext q.e) (s:=⟨pv,df,cv,ev,ps,cs,es⟩) (a.1.ext q.e) l.1 d G).any,?_⟩;rintro _ Q ⟨R,v,z,rfl,C⟩;have y:=q.e.trans R;refine Ad (λF=>N y (by simpa using F)) (λF=>?_);obtain⟨bs,hb,r⟩:=C (by simpa using F);refine⟨_,(c19 j.toBase6 (A.ext y) (M.ext y) r G d G).any,?_⟩;rintro _ E ⟨T,v3,z3,rfl,aa⟩;have t:=y.trans T;refine Ad (λK=>N t (by simpa using K)) (λK=>?_);obtain⟨b,D,rfl,ab,f,pO,ah,hm,ad,ae⟩:=aa (by simpa using K);have c:∀(i:Nat) v,[pv,.int .i64 df,cv,ev,.string m,lv,n][i]?=I v->Cell E h.nx i v:=λi v U=>(o.cell U).ext (R.trans T);refine⟨_,ld B (c 4 _ B),_,ld B (c 5 _ B),_,ld B (c 6 _ B),_,Sn j (A.ext t) ab f pO.2.1 ae l.2.2.2.1 ad hm (Rd.ext a.2.1.1 t) l.2.2.2.2.1 l.2.1 (Rd.ext a.2.1.2 t) l.2.2.2.2.2 d G,?_⟩;rintro _ h4 ⟨x4,o4,z4,rfl,af⟩;exact⟨t.trans x4,_,_,_,B,af⟩
def Own.bZ {h:Y} {b e:Nat} {pre ys post:AH} (o:Own h b e (pre++ys++post)):BK h b pre.length ys:=by
 obtain⟨h1,c,x,a,d⟩:=o;refine⟨h1,c,_,_,_,_,x,a,λi u U=>d _ u ?_⟩;rw[KA,Bq G,Ds,AB (List.getElem?_eq_some_iff.1 U).1];exact U
structure Aco where
 c:Lf
 F:Int
 T:Int
 r:Int
 l:Int
 day:Int
 c4:Int
def Aco.cells (x:Aco):AH:=x.c.cells++[.int .i64 x.F,.int .i64 x.T,.int .i64 x.r,.int .i64 x.l,.int .i64 x.day,.int .i64 x.c4]
def Zap (B:Sy S L) (hN:S.ov 15=none/\S.nd 15=some 9/\S.hk 15=none) {Zaf:Nat->Bd->Bd} {h:Y} (K:Zai S L Zaf h) (U:Ce h) (q:Jx h) (gn:Mo h) (qq:G3 h) (hw:∀J:Y,AA h J->Bk S L 1 9 [] J λw h''=>AA J h''/\w=.bool true) {x:Aco} (a:Lt L h x.c):PE S L 34 6 [.agg ⟨x.cells⟩] h λw J=>AA h J/\w=.bool true:=
 GU (fn:=f6) B.toBase Kq rfl λd hd'=>by
  have hL:=B.aI;obtain⟨⟨⟨pv,df,cv,ev,ps,u,es⟩,f,lv,n,ls,rs⟩,F,T,r,D,day,j⟩:=x;obtain⟨g,y1,l⟩:=(Sep.nil h).box Ax 34 (.agg ⟨[pv,Vi df,cv,ev,.string f,lv,n,Vi F,Vi T,Vi r,Vi D,Vi day,Vi j]⟩);have o:Own g h.nx 34 [pv,Vi df,cv,ev,.string f,lv,n,Vi F,Vi T,Vi r,Vi D,Vi day,Vi j]:=l.dD (i:=0) rfl;have oa:∀{H:Y},AA g H->Own H h.nx 34 [pv,Vi df,cv,ev,.string f,lv,n,Vi F,Vi T,Vi r,Vi D,Vi day,Vi j]:=λx=>o.ext x;have E:∀{H:Y},AA g H->BK H h.nx 0 [pv,Vi df,cv,ev,.string f,lv,n]:=λx=>(oa x).bZ (pre:=[]) (ys:=[pv,Vi df,cv,ev,.string f,lv,n]) (post:=[Vi F,Vi T,Vi r,Vi D,Vi day,Vi j]);refine⟨Dc rfl,_,_,y1,_,EQ (k:=7) Kq (E (AA.refl g)) rfl,_,(c7 B.toBase (s:=⟨⟨pv,df,cv,ev,ps,u,es⟩,f,lv,n,ls,rs⟩) (a.ext l.e) d G).any,?_⟩;rintro _ h2 ⟨C,b,rfl,hl⟩;refine⟨_,_,rfl,Ad (λ_=>⟨l.e.trans C,rfl⟩) (λk1=>?_)⟩;have hl:=hl (by cases b<;>first|rfl|cases k1)
  refine⟨_,EQ (k:=7) Kq (E C) rfl,_,c8 B (U.ext (l.e.trans C)) (qq.ext (l.e.trans C)) (s:=⟨⟨pv,df,cv,ev,ps,u,es⟩,f,lv,n,ls,rs⟩) (a.ext (l.e.trans C)) hl d G,?_⟩;rintro _ p ⟨x3,o3,p3,z,rfl,hz⟩;have X3:=C.trans x3;refine Ad (λ_=>⟨_,(hw p (l.e.trans X3) d G).any,λw _ h=>⟨(l.e.trans X3).trans h.1,by rw[h.2];rfl⟩⟩) (λk2=>?_);obtain⟨lp,V,rfl,A,P⟩:=hz (by simpa using k2);have cc:∀{H:Y} (i:Nat) v,AA g H->[pv,Vi df,cv,ev,.string f,lv,n,Vi F,Vi T,Vi r,Vi D,Vi day,Vi j][i]?=some v->Cell H h.nx i v:=λi v x hi=>(oa x).cell hi;refine⟨_,rfl,[],Kq,_,c11 B.toBase (A.ext (AA.ad p)) d G,?_⟩;rintro _ _ ⟨rfl,rfl⟩;have X5:=X3.trans (AT (AA.refl p));have A5:=A.ext (AT (AA.refl p));have mk:=AA.ad (nb p);have E5:=(l.e.trans X5).trans mk;have Y5:=X5.trans mk;refine⟨rfl,_,ld rfl (cc 9 _ Y5 rfl),_,ld rfl (cc 10 _ Y5 rfl),_,ld rfl (cc 11 _ Y5 rfl),_,c10 (h:=(nb p).ad) B hN (K.ext E5) (U.ext E5) (q.ext E5) (gn.ext E5) (A5.ext mk) P d G,?_⟩;rintro w h4 ⟨x4,CW⟩;have hv:=P.N;rcases CW with⟨hb,_⟩|⟨_,u,o4,hl4,cs2,t⟩
  ·omega
  rw[Zaq P.cL G,show (min 60 60:Int).toNat=60 from rfl] at t;have o4:=o4.aa (h:=nb p);have X6:=X5.trans x4.aa;have E6:=l.e.trans X6;have rd:=o4.rd;obtain⟨A4,c4,rfl⟩:∃A c,w=.slice A u.length c:=by obtain⟨_,A,c,e,_⟩:=rd;exact⟨A,c,e⟩
  refine⟨x4.ag,_,(PT B.toBase (A5.ext x4.aa) d G).any,?_⟩;rintro _ _ ⟨rfl,rfl⟩;have htx:V.tx.size<=256:=by
   have h1:=P.cL;have:=VD (s:=V.tx) G;omega
  refine⟨_,(c15 B.toBase5 hN (K.ext E6) (U.ext E6) G d G).any,?_⟩;rintro w7 h7 ⟨x7,o7,hl7⟩;obtain⟨m,hfs⟩:∃m,m=Za4 Zaf V.tx:=⟨_,rfl⟩;rw[←hfs] at o7 hl7 t;have X7:=X6.trans x7;have M:=o7.rd;obtain⟨A7,c7',rfl⟩:∃A c,w7=.slice A m.length c:=by obtain⟨_,A,c,e,_⟩:=M;exact⟨A,c,e⟩
  refine⟨λμ A0 DD Q=>∃i:Nat,A0=[(6,.slice A4 u.length c4),(7,.slice A7 m.length c7'),(8,Vi i)]/\DD=[]/\μ=m.length-i/\i<=m.length/\AA h7 Q,
   ⟨_,_,Sq,G,0,rfl,rfl,rfl,Nat.zero_le _,AA.refl _⟩,?_⟩
  rintro μ A0 DD Q ⟨i,rfl,rfl,rfl,hi,R⟩ hLt;have X:=(l.e.trans X7).trans R;refine Bz (λk3=>Bz (λk4=>?_) (λk4=>?_)) (λk3=>?_);rotate_left
  ·exact⟨_,(hw Q X d G).any,λw _ h=>⟨X.trans h.1,by rw[h.2];rfl⟩⟩
  ·exact⟨_,(hw Q X d G).any,λw _ h=>⟨X.trans h.1,by rw[h.2];rfl⟩⟩
  have O:i<m.length:=G;obtain⟨ad,c',e,_,cl⟩:=(Rd.ext M R).at_ G;cases e;have cl:=cl i _ (Dl O);refine⟨G,_,Dz (ld rfl cl) (by show ad.off+(i:Int).toNat*1=ad.off+i;omega),_,(c13 (s:=m[i]) B.toBase (Rd.ext rd ((x7.trans R))) G d G).any,?_⟩;rintro _ h9 ⟨x9,z9,rfl,hz9⟩;have mem:m[i]∈u.map Prod.fst:=by
   rw[t] at k4⊢;exact (Zan (mo:=60) m cs2 G).2 _ (List.getElem_mem O)
  refine Bz (λk5=>?_) (λk5=>⟨Pq,_,_,Sq,(by omega:m.length-(i+1)<_),i+1,rfl,rfl,rfl,G,R.trans x9⟩);rcases hz9 with⟨_,hn⟩|⟨k,_,rfl,_⟩
  ·obtain⟨y,hy,hyx⟩:=List.mem_map.1 mem;exact absurd hyx (hn y hy)
  ·omega
section
variable{S:A9} {L:Nat}
def Adi (S:A9) (L:Nat) (d:Nat) (f:Au) (a:AH) (h:Y) (Q Qp:Aa->Y->Prop):Prop:=∀n,d<=n->
 (∃v J,Q v J/\∀k kp,B8 Ax S L n (.func f) a h k kp=k v J)\/∃v J,Qp v J/\∀k kp,B8 Ax S L n (.func f) a h k kp=kp v J
abbrev KE (fn:BC) (Q Qp:Aa->Y->Prop):KG Unit:=KG.mk (λA _ h=>Ex Ax A h fn.results.toList (λvs=>Q (Ff vs) h)) (λ_ _ _ _=>False) (λA _ h=>Ex Ax A h fn.results.toList (λvs=>Q (Ff vs) h)) λv _ _ h=>Qp v h
def Aeq (b:Be) (L:Nat) (fn:BC) (a:AH) (h:Y) (Q Qp:Aa->Y->Prop):Prop:=
 match fn.body with
 |some c=>(a.length<=fn.ntmps)/\IH Ah Ax b (mdU Ag) L fn.ntmps c (KE fn Q Qp) (PJ a 0) () h
 |none=>False
def Rn (a:Be) (L sz:Nat) (ds:List Hh) (K:KG Unit) (c:DC) (fr:Fr) (h:Y):Prop:=∀(X:Type) (P:(X->RR)->Prop) (Kt:X->Kt),KOk P sz (λ_=>ds) K Kt->P λy=>B7 Ax a L Z c (Kt y) fr h
def QA {a:Be} {sz:Nat} {ds:List Hh} {K:KG Unit} {c:DC} {fr:Fr} {h:Y} {A:As} (H:IH Ah Ax a (mdU Ag) L sz c K A () h) (r:Gx A fr) (b:fr.sz=sz) (d:fr.ds=ds):Rn a L sz ds K c fr h:=λ_ _ _ k=>La W0 R3 L sz c K _ A () fr h H r b d k
def Vz (b:Base S L) {d:Nat} {f:Au} {fn:BC} {c:DC} {a:AH} {h:Y} {Q Qp:Aa->Y->Prop} (i:Ax.fn.get f=I fn) (j:Nf.contains f=Ah) (l:fn.body=I c) (o:a.length<=fn.ntmps)
 (H:∀n,d<=n->Rn (B8 Ax S L n) L fn.ntmps [] (KE fn Q Qp) c ⟨T.laid a 0 .nil,fn.ntmps,[]⟩ h):Adi S L (d+1) f a h Q Qp:=by
 intro n t;obtain⟨m,rfl⟩:∃m,n=m+1:=⟨n-1,by omega⟩;obtain⟨p,r,s⟩:=b.plain f j;have e:∀k kp,B8 Ax S L (m+1) (.func f) a h k kp=_:=λk kp=>(Kl p r _ _ _ _).trans (QM i s l o h k kp);have:=H m (by omega) _ (λg:(Aa->Y->RR)×(Aa->Y->RR)->RR=>(∃v J,Q v J/\∀k kp,g (k,kp)=k v J)\/∃v J,Qp v J/\∀k kp,g (k,kp)=kp v J) _ (Awu (S:=S) (kk:=Eh) (kp:=Amy) (λv J q=>.inl ⟨v,J,q,λ_ _=>rfl⟩) λv J q=>.inr ⟨v,J,q,λ_ _=>rfl⟩);exact this.imp (λ⟨v,J,q,z⟩=>⟨v,J,q,λk kp=>(e k kp).trans (z k kp)⟩) λ⟨v,J,q,z⟩=>⟨v,J,q,λk kp=>(e k kp).trans (z k kp)⟩
def Ama (g:Base S L) {d:Nat} {f:Au} {fn:BC} {e:AH} {h:Y} {Q Qp:Aa->Y->Prop} (i:Ax.fn.get f=I fn) (j:Nf.contains f=Ah)
 (H:∀n,d<=n->Aeq (B8 Ax S L n) L fn e h Q Qp):Adi S L (d+1) f e h Q Qp:=by
 have a:=H d (Ae _);unfold Aeq at H a;cases b:fn.body with
 |none=>rw[b] at a;cases a
 |
  some c=>
  simp only[b] at H a;exact Vz g i j b a.1 λn k=>QA (H n k).2 (TB a.1) B rfl
def Xq {a:Be} {sz:Nat} {ds:List Hh} {c c1:DC} {AU lo rest:List C0} {i:Option Tmp} {f:BU} {ax:Array BU} {j:Array Ai} {ty:Ai} {l:String} {m:Array Edge} {kn:Kt->Fr->Y->RR} (o:lo=⟨i,.call ⟨.value f,ax,j⟩,ty,l,m,Z⟩::rest)
 (q:∀K fr h,B7 Ax a L Z c K fr h=B7 Ax a L Z c1 {n:=λfr h=>EX Ax a Z AU K.p (kn K) lo fr h,x:=K.x,r:=K.r,p:=K.p} fr h)
 {K:KG Unit} {A:As} {fr:Fr} {h:Y} (H:IH Ah Ax a (mdU Ag) L sz c1 {n:=λA _ h=>∃g d cap vs v J,Dn Ax A f=I (.func (.func g) d cap)/\RY Ax A ax.toList=I vs/\(∀k kp,a (.func g) (d.toList++vs++cap.toList) h k kp=kp v J)/\K.p v A () J,x:=K.x,r:=K.r,p:=K.p} A () h)
 (r:Gx A fr) (s:fr.sz=sz) (t:fr.ds=ds):Rn a L sz ds K c fr h:=λX P Kt b=>by
 subst o;rw[funext λy=>q (Kt y) fr h];refine QA H r s t _ _ _ ⟨λu J _ w z C e ⟨g,d,cap,vs,v,D,E,F,M,N⟩=>?_,b.x,b.r,b.p⟩;simp only[EX,E5,IB,F9,Ju,FX e F,Bg e E,Vn,M];exact b.p v u D () w z C e N
def VC (aa:Base S L) {d:Nat} {f:Au} {fn:BC} {args:AH} {h:Y} {Q:Aa->Y->Prop} (hf:Ax.fn.get f=I fn) (hp:Nf.contains f=Ah) {N s:DC} {O:Nat} {t:Tmp} {b:Au} {u:Array BU} {z C:Ai} {D E:String} {F H:Array Edge} {M:Array Ai}
 (hc:fn.body=I (.seq N (.seq (.region O #[⟨I t,.makeFunc (.func b) #[] u,z,D,F,Z⟩,⟨Z,.defer ⟨.value (.tmp t),#[],M⟩,C,E,H,Z⟩] Ah) s))) (ht:AD t fn.ntmps=Ag)
 (ab:S.dv b=I (λ_ h=>I h)) {g:AH->Aa->Y->Option Y} (ad:S.rc b=I g) (P:As->AH->Y->Prop) (X:args.length<=fn.ntmps)
 (ae:∀n,d<=n->J2 Ax (B8 Ax S L n) L fn.ntmps N (kp (λA h=>∃w a,Sub w A/\P w a h) (λ_ _ _=>False) λ_ _=>False) (PJ args 0) h)
 (af:∀A a h,P A a h->RY Ax A u.toList=I a)
 (ag:∀n,d<=n->∀A a h,P A a h->∀(fr:Fr) ds,Gx ((t,.func (.func b) #[] ⟨a⟩)::A) fr->fr.sz=fn.ntmps->fr.ds=ds->Rn (B8 Ax S L n) L fn.ntmps ds (KG.mk (λA _ h=>Ex Ax A h fn.results.toList (λvs=>Q (Ff vs) h)) (λ_ _ _ _=>False) (λA _ h=>Ex Ax A h fn.results.toList (λvs=>Q (Ff vs) h))
  λv A _ J=>∃R,g a v J=I R/\Ex Ax A R fn.results.toList (λvs=>Q (Ff vs) R)) s fr h):Bk S L (d+1) f args h Q:=by
 intro n hn;obtain⟨m,rfl⟩:∃m,n=m+1:=⟨n-1,by omega⟩;obtain⟨p1,p2,p3⟩:=aa.plain f hp;refine P1.cd p1 p2 ?_;simp only[QM hf p3 hc X];refine La W0 R3 L fn.ntmps N _ (λy:(Aa->Y->RR)×(Aa->Y->RR)=>{n:=λfr h=>B7 Ax (B8 Ax S L m) L Z (.seq _ s) (Qt Ax S fn y.1 y.2) fr h,x:=(Qt Ax S fn y.1 y.2).x,r:=(Qt Ax S fn y.1 y.2).r,p:=(Qt Ax S fn y.1 y.2).p}) _ () _ h (ae m (by omega)) (TB X) B B ⟨λfr1 o _ A' z1 z2 r' ⟨w,a,ah,j⟩=>?_,λ_ _ _ _ _ _ _ _ c=>c.elim,λ_ _ _ _ _ _ _ c=>c.elim,λ_ _ _ _ _ _ _ _ c=>c.elim⟩;obtain⟨l,sz,ds⟩:=fr1;simp only at z1 z2;subst z1 z2;have r0:Gx w ⟨l,fn.ntmps,[]⟩:=λt v q=>r' t v (ah t v q);have r2:Gx ((t,.func (.func b) #[] ⟨a⟩)::w) ⟨l.ins t (.func (.func b) #[] ⟨a⟩),fn.ntmps,[{target:=.fn (.func b) ⟨a⟩,args:=⟨[]⟩}]⟩:=λi v q=>by
  rw[GC] at q;rw[T.dA];by_cases U:t=i
  .rw[Bi U] at q;rw[Bi U.symm];exact q
  .rw[Bm U] at q;rw[Bm λe=>U e.symm];exact r0 i v q
 have e:∀K,B7 Ax (B8 Ax S L m) L Z (.seq (.region O #[⟨I t,.makeFunc (.func b) #[] u,z,D,F,Z⟩,⟨Z,.defer ⟨.value (.tmp t),#[],M⟩,C,E,H,Z⟩] Ah) s) K ⟨l,fn.ntmps,[]⟩ o=B7 Ax (B8 Ax S L m) L Z s K ⟨l.ins t (.func (.func b) #[] ⟨a⟩),fn.ntmps,[{target:=.fn (.func b) ⟨a⟩,args:=⟨[]⟩}]⟩ o:=λK=>by
  show EX Ax (B8 Ax S L m) Z [⟨I t,.makeFunc (.func b) #[] u,z,D,F,Z⟩,⟨Z,.defer ⟨.value (.tmp t),#[],M⟩,C,E,H,Z⟩] _ _ [⟨I t,.makeFunc (.func b) #[] u,z,D,F,Z⟩,⟨Z,.defer ⟨.value (.tmp t),#[],M⟩,C,E,H,Z⟩] _ o=_;have e3:O8 Ax ⟨l,fn.ntmps,[]⟩ (#[]:Array BU).toList=I []:=rfl;have e5:O8 Ax ⟨l.ins t (.func (.func b) #[] ⟨a⟩),fn.ntmps,[]⟩ (#[]:Array BU).toList=I []:=rfl;have e6:Ch Ax ⟨l,fn.ntmps,[]⟩ o (.makeFunc (.func b) #[] u)=I (.func (.func b) #[] ⟨a⟩,o):=by simp[Ch,FX r0 (af _ _ _ j),e3]
  simp[EX,E5,IB,F9,e6,Fr.set,ht,D1,Xv,e5,(by show(l.ins t _).get t=_;rw[T.dA,Bi B]:Go.Ev.ev Ax ⟨l.ins t (.func (.func b) #[] ⟨a⟩),fn.ntmps,[]⟩ (.tmp t)=I (.func (.func b) #[] ⟨a⟩))]
 show P1 Q λy=>B7 Ax (B8 Ax S L m) L Z (.seq (.region O _ Ah) s) (Qt Ax S fn y.1 y.2) _ o;rw[funext λy:(Aa->Y->RR)×(Aa->Y->RR)=>e (Qt Ax S fn y.1 y.2)];have Da:∀(fr:Fr) (h:Y) (_:Unit) (A:As),fr.sz=fn.ntmps->fr.ds=[{target:=.fn (.func b) ⟨a⟩,args:=⟨[]⟩}]->Gx A fr->Ex Ax A h fn.results.toList (λvs=>Q (Ff vs) h)->P1 Q λy=>Iw Ax S.dv fn.results.toList fr y.1 fr.ds h:=λfr h _ A _ d r c=>by
  obtain⟨vs,V,W⟩:=Hf r _ c;exact⟨Ff vs,h,W,λk _=>by rw[d];simp[Iw,ab,V]⟩
 refine ag m (by omega) w a o j _ _ r2 B B _ _ _ ⟨Da,λ_ _ _ _ _ _ _ _ c=>c.elim,Da,λv fr h _ A _ hd r ⟨V,W,c'⟩=>?_⟩;obtain⟨vs,h5,h6⟩:=Hf r _ c';refine⟨Ff vs,V,h6,λk kp=>?_⟩;show TC Ax S.rc fn.results.toList k kp v fr h=_;unfold TC;rw[hd];simp[ad,W,h5]
end
def Ait (b:k<bs.length) (v:Int) (a:Nat):PV (bs.drop k) v a k=(if(a=63/\1<bs[k].toNat)\/(0<a/\bs[k].toNat=0) then Z else
 if bs[k].toNat<128 then I (JP .u64 v (Es .u64 (D8 .u8 (bs[k].toNat:Int) 127) (a:Int)),k+1) else PV (bs.drop (k+1)) (JP .u64 v (Es .u64 (D8 .u8 (bs[k].toNat:Int) 127) (a:Int))) (a+7) (k+1)):=by
 rw[Di b];rfl
def Alj (a:bs.length<=k) (v:Int) (b:Nat):PV (bs.drop k) v b k=none:=by
 rw[Ef a];rfl
def Aed (h0 h:Y) (r:Nat) (v:Aa) (k:Nat):Prop:=Own h r 372 [v,.int .i64 k]/\B0 (·=r) h0 h
def Aka (v:Aa):Prop:=v=.iface 370 (.agg ⟨[]⟩)
def YT (a:Int):0<=D8 .u8 a 127/\D8 .u8 a 127<=127:=by
 obtain⟨x,b⟩:∃x:BitVec 8,BitVec.ofInt 8 a=x:=⟨_,B⟩;unfold D8;have e:BitVec.ofInt IntKind.u8.bits a=x:=b;rw[e];have:∀x:BitVec 8,0<=IntKind.u8.wrap ((x&&&BitVec.ofInt 8 127).toNat:Int)/\IntKind.u8.wrap ((x&&&BitVec.ofInt 8 127).toNat:Int)<=127:=by decide
 exact this x
def Auv (s:Base S L) (o:Own h r 372 [v,Vi (j:Nat)]) (rd:Rd h v 1 n (Ay bs)) (K:¬BY v r) (W:n<=4611686018427387904):
 Adi S L 1 191 [AG r 0] h (λw J=>∃(x:Int) (k:Nat),w=.int .u64 x/\PV (bs.drop j) 0 0 j=I (x,k)/\Aed h J r v k) (λw J=>Aka w/\PV (bs.drop j) 0 0 j=Z/\B0 (·=r) h J):=
 Ama (fn:=f191) s Kq B λd X=>by
  have hL:=s.aI;have hl:bs.length=n:=by have:=rd.1;rw[A7] at this;omega
  obtain⟨M,c1,rfl⟩:∃A c,v=.slice A n c:=by obtain⟨_,A,c,e,_⟩:=rd;exact⟨A,c,e⟩
  refine⟨Dc B,λu A g=>∃(k f:Nat) (x:Int),A=[(0,AG r 0),(3,.int .u64 x),(4,Vi f)]/\u=64-f/\(f<=63/\f%7=0)/\k<=j+f/\PV (bs.drop k) x f k=PV (bs.drop j) 0 0 j/\Aed h g r (.slice M n c1) k,
   ⟨_,_,Sq,G,j,0,0,B,B,G,G,B,o,(AA.refl h).ae _⟩,?_⟩
  rintro u A g ⟨k,f,x,rfl,rfl,hs,hk,e,o,c⟩ aa;have y:=o.cell (i:=0) B;have m:=o.cell (i:=1) B;refine⟨[],Kq,_,ld B m,_,ld B y,Bz (λN=>⟨B,B,by rw[←e,Alj G],c⟩) (λN=>?_)⟩;have C:k<bs.length:=G;rw[Ait C] at e;obtain⟨a,cc,p,_,q⟩:=(rd.ae c λi U e=>K (e▸U)).at_ G;cases p;have D:Cell g a.block (a.off+k) (.int .u8 (bs[k].toNat:Int)):=q k _ (by unfold Ay;rw[AX,Ab C];rfl);have hb:=UInt8.toNat_lt bs[k];generalize bs[k].toNat=b at e D hb;obtain⟨h1,O,E,F⟩:=o.st (τ:=Ax) (t:=3) B (by show 1<2;decide) (v:=Vi ((k:Int)+1)) B;refine⟨[],Kq,_,ld B y,_,ld B m,G,_,Dz (ld B D) (by show a.off+(k:Int).toNat*1=_;omega),?_⟩;have H:((f=63/\1<b)\/(0<f/\b=0))->(Ah=Ah/\Aka (.iface 370 (.agg ⟨[]⟩))/\PV (bs.drop j) 0 0 j=Z/\B0 (·=r) h g):=λP=>⟨B,B,by rw[←e,Bi P],c⟩;refine Bz (λQ=>Bz (λp=>H G) (λp=>?_)) (λQ=>?_)
  all_goals
   refine Bz (λR=>Bz (λT=>H G) (λT=>?_)) (λR=>?_)
   all_goals
    rw[Bm G] at e;refine⟨_,ld B m,Pq,_,O,_,.inl ⟨⟨by have:=YT (b:Int);omega,by have:=YT (b:Int);omega⟩,B⟩,G,Bz (λV=>?_) (λV=>?_)⟩
    .rw[Bi G] at e
     exact⟨_,k+1,B,e.symm,E,c.trans F.ae⟩
    .rw[Bm G] at e
     exact⟨Pq,_,_,CG (l:=[(0,_),(3,.int .u64 _),(4,Vi ((f+7:Nat):Int))]) ⟨B,B,Cs (λz=>I (Vi z)) (G),trivial⟩,(show 64-(f+7)<_ by omega),k+1,f+7,_,B,B,G,G,e,E,c.trans F.ae⟩
def Uo (n:Nat):DC->DC
 |.region i AU d=>.region i ⟨AU.toList.take n⟩ d
 |c=>c
def Fq (fn:BC):Code:=match fn.body with
 |some c=>c
 |none=>.skip
def ZL:DC->List C0
 |.region _ AU _=>AU.toList
 |_=>[]
def Arh {x:Int} (h:PV (bs.drop j) 0 0 j=I (x,k)):(0<=x/\x<18446744073709551616)/\k<=bs.length:=by
 obtain⟨h1,b,a⟩:=JF _ _ _ _ _ _ h;rw[AV] at a;refine⟨h1,?_⟩;omega
def Azo (f:Base S L) (o:Own h r 372 [v,Vi (j:Nat)]) (rd:Rd h v 1 n (Ay bs)) (g:¬BY v r) (D:n<=4611686018427387904):
 Adi S L 2 193 [AG r 0] h (λw J=>∃(x:Int) (k:Nat),w=.string ⟨⟨(bs.drop k).take x.toNat⟩⟩/\PV (bs.drop j) 0 0 j=I (x,k)/\x<=(n:Int)-k/\Aed h J r v (k+x.toNat))
  (λw J=>Aka w/\(∀x k,PV (bs.drop j) 0 0 j=I (x,k)->¬x<=(n:Int)-k)/\B0 (·=r) h J):=by
 have V:bs.length=n:=by have:=rd.1;rw[A7] at this;omega
 refine Vz (fn:=f193) f Kq B B (Dc B) λd E=>?_;rcases Auv f o rd g D d E with⟨w,h1,⟨x,k,rfl,a,b,c1⟩,e⟩|⟨w,h1,⟨F,a,c1⟩,e⟩
 .refine QA ?_ (TB (Dc B)) B B
  obtain⟨H,W⟩:=Arh a;obtain⟨X,c2,rfl⟩:∃A c,v=.slice A n c:=by obtain⟨_,A,c,e,_⟩:=rd;exact⟨A,c,e⟩
  have M:=b.cell (i:=0) B;have N:=b.cell (i:=1) B;refine⟨λw' J=>w'=.int .u64 x/\J=h1,⟨_,_,⟨B,B⟩,e⟩,?_⟩;rintro _ h1 ⟨rfl,rfl⟩;have l:=AT (AA.refl h1);have p:=AT Jq;have O:=b.ext l;have q:=b.ext p;refine⟨[],Kq,_,ld B M,_,ld B N,Pq,_,.inl Pq,Bz (λP=>⟨B,B,λy m u=>?_,c1.trans (l.ae _)⟩) (λP=>?_)⟩
  .rw[a] at u;cases u;omega
  obtain⟨v',z,C,_⟩:=Rd.slice Kq (rd.ae c1 λi U e=>g (e▸U)) (lo:=I (Vi k)) (U:=I (Vi ((k:Int)+x))) (m:=k+x.toNat) B (by
   obtain⟨y,rfl⟩:=B9 H.1;rfl) G G
  rw[BJ,BJ,EA,Ez] at C;obtain⟨A',c',rfl⟩:∃A c,v'=.slice A (k+x.toNat-k) c:=by obtain⟨_,A,c,e,_⟩:=C;exact⟨A,c,e⟩
  have cv:=FB (τ:=Ax) (s:=62) (d:=9) (h:=(nb (nb h1)).ad) Kq Jq;rw[Ds] at cv z;obtain⟨h3,Q,R,T⟩:=q.st (τ:=Ax) (t:=3) B (by show 1<2;decide) (v:=Vi ((k:Int)+x)) B;refine⟨[],Kq,_,ld B Jq,_,ld B Jq,_,ld B (O.cell B),_,.inl Pq,Pq,_,_,Cs (CN _) z,_,cv,_,ld B (q.cell B),_,.inl Pq,Pq,_,Q,x,k,B,a,G,?_,(c1.trans (p.ae _)).trans T.ae⟩;rw[show((k+x.toNat:Nat):Int)=(k:Int)+x by omega];exact R
 .refine Xq (c1:=.seq (Xa (Fq f193)) (Uo 1 (Xa (GY (Fq f193))))) (AU:=ZL (Xa (GY (Fq f193)))) (lo:=(ZL (Xa (GY (Fq f193)))).drop 1) (kn:=λK fr h=>B7 Ax (B8 Ax S L d) L Z (GY (GY (Fq f193))) K fr h) B (λ_ _ _=>by kernel_rfl) ?_ (TB (Dc B)) B B
  exact⟨_,_,_,_,_,_,B,B,e,F,(λx k h=>by rw[a] at h;cases h),c1⟩
def aT:Ct:={am:=λ_=>False,holds:=λ_=>True,aH:=λ_ _ _=>trivial,lt:=λ_ _ h=>h.elim,bk:=λ_=>trivial}
def rcF (fn:BC):AH->Aa->Y->Option Y:=rcG Ax fn (GY (Fq fn)) 7
def Anv {cv:AH} {b:Y->Prop} (k:cv.length<=fn.ntmps) (o:7<fn.ntmps) (c:J2 Ax Ajs 1 fn.ntmps (GY (Fq fn)) (kp (λ_ h=>b h) (λ_ _ _=>False) (λ_ _=>False)) ((7,v)::PJ cv 0) h):∃J,rcF fn cv v h=I J/\b J:=by
 have l:GA cv fn.ntmps=I ⟨T.laid cv 0 .nil,fn.ntmps,[]⟩:=by
  unfold GA;rw[show Ar cv.length fn.ntmps=Ag from Aq k];rfl
 have r:Gx ((7,v)::PJ cv 0) ⟨(T.laid cv 0 .nil).ins 7 v,fn.ntmps,[]⟩:=λi u a=>by
  rw[GC] at a;rw[T.dA];by_cases U:7=i
  .rw[Bi U] at a;rw[Bi U.symm];exact a
  .rw[Bm U] at a;rw[Bm λe=>U e.symm];exact TB k i u a
 obtain⟨f,J,e,d,j⟩:=La (ro:=Z) (P:=λg=>∃f J,g ()=I [.aE f J]/\f.ds=[]/\b J) W0 R3 1 fn.ntmps (GY (Fq fn)) _ (λ_=>{n:=λfr h=>I [.aE fr h],x:=λ_ _ _=>Z,r:=λ_ _=>Z,p:=λ_ _ _=>Z}) _ () _ h c r B B ⟨λfr h _ _ _ m _ j=>⟨fr,h,B,m,j⟩,λ_ _ _ _ _ _ _ _ c=>c.elim,λ_ _ _ _ _ _ _ c=>c.elim,λ_ _ _ _ _ _ _ _ c=>c.elim⟩;refine⟨J,?_,j⟩;unfold rcF rcG;simp[l,(e:B7 Ax Ajs 1 Z _ _ _ h=_)];rw[d];rfl
def Axn {x y w:Aa} (s:Sep h0 H [aO c 4 [w],aO b 3 [y],aO a 213 [x]]):∃J,rcF f257 [AG a 0,AG b 0,AG c 0] (.iface 370 (.agg ⟨[]⟩)) H=I J/\Sep h0 J [aO c 4 [.bool Ah],aO b 3 [Vi 0],aO a 213 [.int .u64 0]]:=by
 obtain⟨n,d,o,e,f⟩:=s.var (t:=370) (z:=.agg ⟨[]⟩) Kq (v:=.agg ⟨[]⟩) B B B;obtain⟨p,g,h⟩:=(f.drop 1).st (t:=213) B (i:=2) B (by show 0<1;decide) (v:=.int .u64 0) B;obtain⟨q,j,k⟩:=h.st (t:=3) B (i:=1) B (by show 0<1;decide) (v:=Vi 0) B;obtain⟨r,l,m⟩:=k.st (t:=4) B (i:=0) B (by show 0<1;decide) (v:=.bool Ah) B;exact Anv (Dc B) Jq ⟨_,B,_,_,B,_,_,d _,_,e,_,g,_,j,_,l,m⟩
def Ayo {x y w:Aa} (s:Sep h0 H [aO c 4 [w],aO b 3 [y],aO a 9 [x]]):∃J,rcF f258 [AG a 0,AG b 0,AG c 0] (.iface 370 (.agg ⟨[]⟩)) H=I J/\Sep h0 J [aO c 4 [.bool Ah],aO b 3 [Vi 0],aO a 9 [Sg ⟨#[]⟩]]:=by
 obtain⟨n,d,o,e,f⟩:=s.var (t:=370) (z:=.agg ⟨[]⟩) Kq (v:=.agg ⟨[]⟩) B B B;obtain⟨p,g,h⟩:=(f.drop 1).st (t:=9) B (i:=2) B (by show 0<1;decide) (v:=.string ⟨#[]⟩) B;obtain⟨q,j,k⟩:=h.st (t:=3) B (i:=1) B (by show 0<1;decide) (v:=Vi 0) B;obtain⟨r,l,m⟩:=k.st (t:=4) B (i:=0) B (by show 0<1;decide) (v:=.bool Ah) B;exact Anv (Dc B) Jq ⟨_,B,_,_,B,_,_,d _,_,e,_,g,_,j,_,l,m⟩
def Ang (ae:Base S L) {f fi gf:Nat} {gn:BC} {z:Aa}
 (hF:(f=190/\fn=f190/\gf=257/\gn=f257/\t=213/\z=.int .u64 0)\/(f=192/\fn=f192/\gf=258/\gn=f258/\t=9/\z=.string ⟨#[]⟩))
 (af:S.dv gf=I (λ_ h=>I h)) (ag:S.rc gf=I (rcF gn)) (rd:Rd h v 1 n xs) {i:Int} {R:Aa->Int->Prop} {N:Prop}
 (ah:∀(j:Nat) {H:Y} {r:Nat},i=j->AA h H->Own H r 372 [v,Vi j]->¬BY v r->Adi S L 2 fi [AG r 0] H (λw J=>∃k:Int,one w=Ag/\R w k/\Own J r 372 [v,Vi k]/\B0 (·=r) H J) (λw J=>Aka w/\N/\B0 (·=r) H J)):
 Bk S L 4 f [v,Vi i,.func (.func fi) #[] #[]] h λw J=>AA h J/\((0<=i/\∃(u:Aa) (k:Int),R u k/\w=.tuple #[u,Vi k,.bool Ag])\/((i<0\/N)/\w=.tuple #[z,Vi 0,.bool Ah])):=by
 have hb:∀{H:Y},AA h H->¬BY v H.nx:=λx hh=>by have:=rd.aw _ hh;have:=x.nx;omega
 obtain⟨E,F,hv⟩:∃A c,v=.slice A n c:=by obtain⟨_,A,c,e,_⟩:=rd;exact⟨A,c,e⟩
 subst hv;have ai:∀{H:Y} {l:List Ct} {j:Nat},Sep h H l->∃g,K7 Ax 372 (.agg #[.slice E n F,Vi j]) H=I (AG H.nx 0,g)/\Sep h g (aO H.nx 372 [.slice E n F,Vi j]::l):=λ{H l j} s=>s.box Ax 372 (.agg #[.slice E n F,Vi j]);rcases hF with⟨rfl,rfl,rfl,rfl,rfl,rfl⟩|⟨rfl,rfl,rfl,rfl,rfl,rfl⟩
 .refine VC (fn:=f190) ae Kq B B B af ag (λA cv H=>∃a b c,A=[(0,.slice E n F),(1,Vi i),(2,.func (.func fi) #[] #[]),(6,AG a 0),(7,AG b 0),(8,AG c 0)]/\cv=[AG a 0,AG b 0,AG c 0]/\Sep h H [aO c 4 [.bool Ah],aO b 3 [Vi 0],aO a 213 [.int .u64 0]]) (Dc B) ?_ ?_ ?_
  .intro d hd
   obtain⟨g1,T,V⟩:=(Sep.nil h).al (z:=.int .u64 0) Kq;obtain⟨g2,W,X⟩:=V.al (z:=Vi 0) Kq;obtain⟨g3,y3,M⟩:=X.al (z:=.bool Ah) Kq;exact⟨_,_,T _,_,_,W _,_,_,y3 _,_,_,Sq,_,_,_,B,B,M⟩
  .rintro A cv H ⟨a,b,c,rfl,rfl,s⟩;rfl
  .rintro d hd A cv H ⟨a,b,c,rfl,rfl,s⟩ fr ds r hs aa
   have O:∀{o:Y} {x y w:Aa},Sep h o [aO c 4 [w],aO b 3 [y],aO a 213 [x]]->Bw Ax 213 o a 0=I x/\Bw Ax 3 o b 0=I y/\Bw Ax 4 o c 0=I w:=λs=>⟨ld B ((s.dD (i:=2) B).cell B),ld B ((s.dD (i:=1) B).cell B),ld B ((s.dD (i:=0) B).cell B)⟩;rcases Int.lt_or_le i 0 with U|U
   .refine QA ?_ r hs aa
    obtain⟨h1,T,V⟩:=s.st (t:=213) B (i:=2) B (j:=0) Jq (v:=.int .u64 0) B;obtain⟨h2,W,X⟩:=V.st (t:=3) B (i:=1) B (j:=0) Jq (v:=Vi 0) B;obtain⟨h3,y3,M⟩:=X.st (t:=4) B (i:=0) B (j:=0) Jq (v:=.bool Ah) B;obtain⟨p,q,C⟩:=O M;exact Bz (λ_=>⟨_,(O s).1,_,T,_,W,_,y3,_,p,_,q,_,C,M.e,.inr ⟨.inl U,B⟩⟩) Jq
   obtain⟨j,rfl⟩:=B9 U;obtain⟨g,yg,P⟩:=ai (j:=j) s;rcases ah j B P.e (P.dD (i:=0) B) (hb s.e) d G with⟨w,h5,⟨k,ow,hR,o5,c5⟩,e⟩|⟨w,h5,⟨rfl,hN,c5⟩,e⟩
   .refine QA ?_ r hs aa
    have s5:=P.ah (i:=0) (a':=aO H.nx 372 [.slice E n F,Vi k]) B c5 o5 λx D=>.inl D;obtain⟨Q,y6,m⟩:=s5.st (t:=213) B (i:=3) B (j:=0) Jq (v:=w) ow;have lk:∀{o:Y} {l':List Ct},Sep h o (aO H.nx 372 [.slice E n F,Vi k]::l')->Cell o H.nx 1 (Vi k):=λs=>(s.dD (i:=0) B).cell (i:=1) B;have lw:=(m.dD (i:=3) B).cell (i:=0) B;have ab:=lk m;obtain⟨h7,y7,o7,u7⟩:=Own.st (h:=Q.ad) (τ:=Ax) (t:=213) B (show Own Q.ad a 213 [w] from m.dD (i:=3) B) (i:=0) (by show 0<1;decide) (v:=w) ow;have ne:H.nx≠a:=λe=>m.2.2 0 3 _ _ (by decide) B B H.nx B (by show H.nx=a;exact e);have ad:h7.lo.hasB H.nx=false:=u7.ae.hasB (b0:=a) (λ_ h=>h) ab.1 ne;have s7:=m.aZ (i:=3) (a':=aO a 213 [w]) B u7.ae o7 λx D=>.inl D;obtain⟨h8,y8,s8⟩:=s7.stM (t:=3) B (i:=2) B (j:=0) (by show 0<1;decide) (v:=Vi k) B;obtain⟨h9,y9,s9⟩:=s8.stM (t:=4) B (i:=1) B (j:=0) (by show 0<1;decide) (v:=.bool Ag) B;refine⟨_,_,yg,λw' J=>w'=w/\J=h5,⟨_,_,⟨B,B⟩,e⟩,?_⟩;rintro _ h5 ⟨rfl,rfl⟩;obtain⟨p,q,C⟩:=O (s9.drop 1);exact⟨_,y6,[.x 5 4],Kq,_,ld B lw,_,ld B ab,_,y7,ad,_,y8,_,y9,_,p,_,q,_,C,s9.e,.inl ⟨G,_,_,hR,B⟩⟩
   .have s5:=(P.ah (i:=0) (a':=aT) B c5 trivial λx D=>D.elim).drop 1
    obtain⟨Q,y6,m⟩:=Axn s5;obtain⟨p,q,C⟩:=O m;refine Xq (c1:=.seq (Xa (GY (GY (Fq f190)))) (.seq (Xa (GY (GY (GY (Fq f190))))) (Uo 2 (Xa (GY (GY (GY (GY (Fq f190))))))))) (AU:=ZL (Xa (GY (GY (GY (GY (Fq f190))))))) (lo:=(ZL (Xa (GY (GY (GY (GY (Fq f190))))))).drop 2) (kn:=λK fr h=>B7 Ax (B8 Ax S L d) L Z (GY (GY (GY (GY (GY (Fq f190)))))) K fr h) B (λ_ _ _=>by kernel_rfl) ?_ r hs aa;exact⟨_,_,yg,_,_,_,_,_,_,B,B,e,_,y6,_,p,_,q,_,C,m.e,.inr ⟨.inr hN,B⟩⟩
 .refine VC (fn:=f192) ae Kq B B B af ag (λA cv H=>∃a b c,A=[(0,.slice E n F),(1,Vi i),(2,.func (.func fi) #[] #[]),(6,AG a 0),(7,AG b 0),(8,AG c 0)]/\cv=[AG a 0,AG b 0,AG c 0]/\Sep h H [aO c 4 [.bool Ah],aO b 3 [Vi 0],aO a 9 [Sg ⟨#[]⟩]]) (Dc B) ?_ ?_ ?_
  .intro d hd
   obtain⟨g1,T,V⟩:=(Sep.nil h).al (t:=9) (z:=.string ⟨#[]⟩) Kq;obtain⟨g2,W,X⟩:=V.al (t:=3) (z:=Vi 0) Kq;obtain⟨g3,y3,M⟩:=X.al (t:=4) (z:=.bool Ah) Kq;exact⟨_,_,T _,_,_,W _,_,_,y3 _,_,_,Sq,_,_,_,B,B,M⟩
  .rintro A cv H ⟨a,b,c,rfl,rfl,s⟩;rfl
  .rintro d hd A cv H ⟨a,b,c,rfl,rfl,s⟩ fr ds r hs aa
   have O:∀{o:Y} {x y w:Aa},Sep h o [aO c 4 [w],aO b 3 [y],aO a 9 [x]]->Bw Ax 9 o a 0=I x/\Bw Ax 3 o b 0=I y/\Bw Ax 4 o c 0=I w:=λs=>⟨ld B ((s.dD (i:=2) B).cell (i:=0) B),ld B ((s.dD (i:=1) B).cell (i:=0) B),ld B ((s.dD (i:=0) B).cell (i:=0) B)⟩;rcases Int.lt_or_le i 0 with U|U
   .refine QA ?_ r hs aa
    obtain⟨h1,T,V⟩:=s.st (t:=9) B (i:=2) B (j:=0) (by show 0<1;decide) (v:=.string ⟨#[]⟩) B;obtain⟨h2,W,X⟩:=V.st (t:=3) B (i:=1) B (j:=0) (by show 0<1;decide) (v:=Vi 0) B;obtain⟨h3,y3,M⟩:=X.st (t:=4) B (i:=0) B (j:=0) (by show 0<1;decide) (v:=.bool Ah) B;obtain⟨p,q,C⟩:=O M;exact Bz (λ_=>⟨_,(O s).1,_,T,_,W,_,y3,_,p,_,q,_,C,M.e,.inr ⟨.inl U,B⟩⟩) (λe=>Cf U e)
   obtain⟨j,rfl⟩:=B9 U;obtain⟨g,yg,P⟩:=ai (j:=j) s;rcases ah j B P.e (P.dD (i:=0) B) (hb s.e) d G with⟨w,h5,⟨k,ow,hR,o5,c5⟩,e⟩|⟨w,h5,⟨rfl,hN,c5⟩,e⟩
   .refine QA ?_ r hs aa
    have s5:=P.ah (i:=0) (a':=aO H.nx 372 [.slice E n F,Vi k]) B c5 o5 λx D=>.inl D;obtain⟨Q,y6,m⟩:=s5.st (t:=9) B (i:=3) B (j:=0) (by show 0<1;decide) (v:=w) ow;have lw:Cell Q a 0 w:=(m.dD (i:=3) B).cell (i:=0) B;have ab:Cell Q H.nx 1 (Vi k):=(λs=>(s.dD (i:=0) B).cell (i:=1) B:∀{o:Y} {l':List Ct},Sep h o (aO H.nx 372 [.slice E n F,Vi k]::l')->Cell o H.nx 1 (Vi k)) m;obtain⟨h7,y7,o7,u7⟩:=Own.st (h:=Q.ad) (τ:=Ax) (t:=9) B (show Own Q.ad a 9 [w] from m.dD (i:=3) B) (i:=0) (by show 0<1;decide) (v:=w) ow;have ad:h7.lo.hasB H.nx=false:=u7.ae.hasB (b0:=a) (λ_ h=>h) ab.1 (λe=>m.2.2 0 3 _ _ (by decide) B B H.nx B (by show H.nx=a;exact e):H.nx≠a);have s7:=m.aZ (i:=3) (a':=aO a 9 [w]) B u7.ae o7 λx D=>.inl D;obtain⟨h8,y8,s8⟩:=s7.stM (t:=3) B (i:=2) B (j:=0) (by show 0<1;decide) (v:=Vi k) B;obtain⟨h9,y9,s9⟩:=s8.stM (t:=4) B (i:=1) B (j:=0) (by show 0<1;decide) (v:=.bool Ag) B;refine⟨_,_,yg,λw' J=>w'=w/\J=h5,⟨_,_,⟨B,B⟩,e⟩,?_⟩;rintro _ h5 ⟨rfl,rfl⟩;obtain⟨p,q,C⟩:=O (s9.drop 1);exact⟨_,y6,[.x 5 4],Kq,_,ld B lw,_,ld B ab,_,y7,ad,_,y8,_,y9,_,p,_,q,_,C,s9.e,.inl ⟨G,_,_,hR,B⟩⟩
   .have s5:=(P.ah (i:=0) (a':=aT) B c5 trivial λx D=>D.elim).drop 1
    obtain⟨Q,y6,m⟩:=Ayo s5;obtain⟨p,q,C⟩:=O m;refine Xq (c1:=.seq (Xa (GY (GY (Fq f192)))) (.seq (Xa (GY (GY (GY (Fq f192))))) (Uo 2 (Xa (GY (GY (GY (GY (Fq f192))))))))) (AU:=ZL (Xa (GY (GY (GY (GY (Fq f192))))))) (lo:=(ZL (Xa (GY (GY (GY (GY (Fq f192))))))).drop 2) (kn:=λK fr h=>B7 Ax (B8 Ax S L d) L Z (GY (GY (GY (GY (GY (Fq f192)))))) K fr h) B (λ_ _ _=>by kernel_rfl) ?_ r hs aa;exact⟨_,_,yg,_,_,_,_,_,_,B,B,e,_,y6,_,p,_,q,_,C,m.e,.inr ⟨.inr hN,B⟩⟩
structure Apl (S:A9):Prop where
 d7:S.dv 257=I (λ_ h=>I h)
 d8:S.dv 258=I (λ_ h=>I h)
 r7:S.rc 257=I (rcF f257)
 r8:S.rc 258=I (rcF f258)
def Zg (p:S.ov f=Z/\S.nd f=Z/\S.hk f=Z) (a:Ax.fn.get f=I fn)
 (H:∀n,d<=n->YR Ax (B8 Ax S L n) L fn args h Q):Bk S L (d+1) f args h Q:=by
 intro n b;obtain⟨m,rfl⟩:∃m,n=m+1:=⟨n-1,G⟩;exact Aom a p.2.2 p.1 p.2.1 (H m G)
def Xf (bs:Bl) (i:Int):Option (Int×Nat):=if 0<=i then PV (bs.drop i.toNat) 0 0 i.toNat else Z
def QE (bs:Bl) (i:Int):Value:=match Xf bs i with
 |some (w,j)=>.tuple #[.int .u64 w,.int .i64 (j:Int),.bool Ag]
 |none=>.tuple #[.int .u64 0,.int .i64 0,.bool Ah]
def Sr (bs:Bl) (i:Int):Value:=match Xf bs i with
 |some (w,j)=>if w<=(bs.length:Int)-j then .tuple #[.string ⟨⟨(bs.drop j).take w.toNat⟩⟩,.int .i64 ((j:Int)+w),.bool Ag] else .tuple #[.string ⟨#[]⟩,.int .i64 0,.bool Ah]
 |none=>.tuple #[.string ⟨#[]⟩,.int .i64 0,.bool Ah]
def Azh (b:Base S L) (R:Apl S) (p:S.ov 113=Z/\S.nd 113=Z/\S.hk 113=Z) (r:Rd h v 1 n (Ay bs)) (g:n<=4611686018427387904) {i:Int}:
 Bk S L 5 113 [v,Vi i] h λw J=>AA h J/\w=QE bs i:=
 Zg (fn:=f113) p Kq λd t=>by
  refine⟨Dc B,_,Ang b (.inl ⟨B,B,B,B,B,B⟩) R.d7 R.r7 r (R:=λw k=>∃(x:Int) (j:Nat),w=.int .u64 x/\k=j/\PV (bs.drop i.toNat) 0 0 i.toNat=I (x,j)) (N:=PV (bs.drop i.toNat) 0 0 i.toNat=Z) ?_ d G,?_⟩
  .intro j H z l x o hb m A
   subst l;rcases Auv b o (r.ext x) hb g m G with⟨w,J,⟨y,k,rfl,a,q,c1⟩,e⟩|⟨w,J,⟨c,a,c1⟩,e⟩
   .exact .inl ⟨_,_,⟨(k:Int),B,⟨y,k,B,B,a⟩,q,c1⟩,e⟩
   .exact .inr Jq
  rintro w h1 ⟨f,c⟩;rcases c with⟨h0,u,k,⟨x,j,rfl,rfl,a⟩,rfl⟩|⟨s,rfl⟩
  .exact⟨f,by unfold QE Xf;rw[Bi h0,a];rfl⟩
  .refine⟨f,?_⟩
   unfold QE Xf;by_cases h0:0<=i
   .rw[Bi h0,s.resolve_left G];rfl
   .rw[Bm h0];rfl
def Axc (c:Base S L) (R:Apl S) (p:S.ov 114=Z/\S.nd 114=Z/\S.hk 114=Z) (r:Rd h v 1 n (Ay bs)) (q:n<=4611686018427387904) {i:Int}:
 Bk S L 5 114 [v,Vi i] h λw J=>AA h J/\w=Sr bs i:=
 Zg (fn:=f114) p Kq λd A=>by
  have f:bs.length=n:=by have:=r.1;rw[A7] at this;omega
  refine⟨Dc B,_,Ang c (.inr ⟨B,B,B,B,B,B⟩) R.d8 R.r8 r (R:=λw k=>∃(x:Int) (j:Nat),w=.string ⟨⟨(bs.drop j).take x.toNat⟩⟩/\k=(j:Int)+x/\PV (bs.drop i.toNat) 0 0 i.toNat=I (x,j)/\x<=(n:Int)-j)
   (N:=∀x k,PV (bs.drop i.toNat) 0 0 i.toNat=I (x,k)->¬x<=(n:Int)-k) ?_ d G,?_⟩
  .intro j H C s x o hb m D
   subst s;rcases Azo c o (r.ext x) hb q m G with⟨w,J,⟨y,k,rfl,a,b,t,c1⟩,e⟩|⟨w,J,⟨g,a,c1⟩,e⟩
   .have E:=(JF _ _ _ _ _ _ a).1.1
    exact .inl ⟨_,_,⟨((k+y.toNat:Nat):Int),B,⟨y,k,B,G,a,b⟩,t,c1⟩,e⟩
   .exact .inr Jq
  rintro w h1 ⟨l,g⟩;rcases g with⟨h0,u,k,⟨x,j,rfl,rfl,a,b⟩,rfl⟩|⟨z,rfl⟩
  .exact⟨l,by unfold Sr Xf;rw[Bi h0,a];exact(Bi (by rw[f];exact b)).symm⟩
  .refine⟨l,?_⟩
   unfold Sr Xf;by_cases h0:0<=i
   .rw[Bi h0]
    cases a:PV (bs.drop i.toNat) 0 0 i.toNat with
    |none=>rfl
    |
     some p=>
     obtain⟨x,j⟩:=p;exact(Bm (by rw[f];exact(z.resolve_left G) x j a)).symm
   .rw[Bm h0];rfl
def Air {a:Be} (e:QB a args h=I (v,J)):J=h/\∃(u:Aa) (i:Int) (bs:Bl),args=[u,Vi i]/\IK h u=I bs/\v=QE bs i:=by
 unfold QB at e;split at e
 case h_2=>cases e
 rename_i u i;split at e
 case h_2=>cases e
 rename_i bs hb;refine⟨?_,u,i,bs,B,hb,?_⟩
 .split at e<;>cases e<;>rfl
 .unfold QE Xf
  split at e<;>rename_i b<;>rw[b]<;>cases e<;>rfl
def Agz {b:Be} (e:Ph b args h=I (v,J)):J=h/\∃(u:Aa) (i:Int) (bs:Bl),args=[u,Vi i]/\IK h u=I bs/\v=Sr bs i:=by
 unfold Ph at e;split at e
 case h_2=>cases e
 rename_i u i;split at e
 case h_2=>cases e
 rename_i bs hb;have k:∀{o:Option (Int×Nat)},(match o with
  |some (w,j)=>if w<=(bs.length:Int)-j then I (C4 #[.string ⟨⟨(bs.drop j).take w.toNat⟩⟩,Vi ((j:Int)+w),.bool Ag],h) else I (.tuple #[.string ⟨#[]⟩,Vi 0,.bool Ah],h)
  |none=>I (.tuple #[.string ⟨#[]⟩,Vi 0,.bool Ah],h))=I (v,J)->J=h/\v=(match o with
  |some (w,j)=>if w<=(bs.length:Int)-j then .tuple #[.string ⟨⟨(bs.drop j).take w.toNat⟩⟩,Vi ((j:Int)+w),.bool Ag] else .tuple #[.string ⟨#[]⟩,Vi 0,.bool Ah]
  |none=>.tuple #[.string ⟨#[]⟩,Vi 0,.bool Ah]):=by
  rintro(_|⟨w,j⟩) e
  .cases e;exact⟨B,B⟩
  .simp only at e⊢
   by_cases a:w<=(bs.length:Int)-j
   .rw[Bi a] at e;rw[Bi a];cases e;exact⟨B,B⟩
   .rw[Bm a] at e;rw[Bm a];cases e;exact⟨B,B⟩
 obtain⟨c,d⟩:=k e;exact⟨c,u,i,bs,B,hb,d⟩
def Yo (bs:Bl) (i:Int):DG (QE bs i)=true:=by
 unfold QE;split<;>rfl
def Yp (bs:Bl) (i:Int):DG (Sr bs i)=true:=by
 unfold Sr;split
 .split<;>rfl
 .rfl
def Agf (g:C8 prog Ax (B8 Ax S L n)) (c:Bk S L d f args h.ad λw J=>AA h.ad J/\w=v) (i:d<=n) (j:DG v=Ag)
 {a:AH} {ρ:Ren} {w:AM} (l:C5 prog Ax ρ h w) (m:LR ρ args a) {k kp:Aa->Y->RR} {b:List EO} (p:k v h=I b):Hk prog (callFunc f ⟨a⟩) w (Ho prog Ax ρ w h k kp b):=by
 obtain⟨w,J,⟨x,rfl⟩,e⟩:=c n i;refine Z8 g (o:=[]) ?_ j l m p;rw[e];exact Bi ⟨B,x.ag⟩
def hiM:Int:=9259542123273814144
def X8 (x:BitVec 64):BitVec.ofInt 64 (IntKind.u64.wrap (x.toNat:Int))=x:=by
 rw[G8];rw[show((x.toNat:Int)%18446744073709551616)=(x.toNat:Int) by omega];simp
def H8 {a b m:Int} (h:D8 .u64 (JP .u64 a b) m=0):D8 .u64 a m=0/\D8 .u64 b m=0:=by
 have z:∀x:BitVec 64,IntKind.u64.wrap (x.toNat:Int)=0↔x=0#64:=λx=>by
  rw[G8];constructor
  .intro h
   apply BitVec.eq_of_toNat_eq;show x.toNat=0;omega
  .rintro rfl;rfl
 replace h:IntKind.u64.wrap ((BitVec.ofInt 64 (IntKind.u64.wrap ((BitVec.ofInt 64 a|||BitVec.ofInt 64 b).toNat:Int))&&&BitVec.ofInt 64 m).toNat:Int)=0:=h;rw[X8,z,BitVec.and_or_distrib_right,BitVec.or_eq_zero_iff] at h;exact⟨(z _).2 h.1,(z _).2 h.2⟩
def Ags {b:Nat} (hb:b<256):(D8 .u64 (b:Int) hiM=0->b<128)/\∀k,k<8->D8 .u64 (Es .u64 (b:Int) ((8*k:Nat):Int)) hiM=0->b<128:=by
 have:=List.all_eq_true.1 (Kq:(BG 256).all (λb=>(AD b 128||!(D8 .u64 (b:Int) hiM==0))&&(BG 8).all λk=>AD b 128||!(D8 .u64 (Es .u64 (b:Int) ((8*k:Nat):Int)) hiM==0))=Ag) b (List.mem_range.2 hb);rw[An] at this;have f:∀{z:Int},(AD b 128||!(z==0))=Ag->z=0->b<128:=λh e=>by
  rw[e] at h;simpa[AK] using h
 exact⟨f this.1,λk a=>f (List.all_eq_true.1 this.2 k (List.mem_range.2 a))⟩
def Aoo (l:Bl):Int:=
 let b:=λi=>((l.getD i 0).toNat:Int)
 JP .u64 (JP .u64 (JP .u64 (JP .u64 (JP .u64 (JP .u64 (JP .u64 (b 0) (Es .u64 (b 1) 8)) (Es .u64 (b 2) 16)) (Es .u64 (b 3) 24)) (Es .u64 (b 4) 32)) (Es .u64 (b 5) 40)) (Es .u64 (b 6) 48)) (Es .u64 (b 7) 56)
def Ik {l:Bl} (h:D8 .u64 (Aoo l) hiM=0):∀i,i<8->(l.getD i 0).toNat<128:=by
 obtain⟨h,b⟩:=H8 h;obtain⟨h,c⟩:=H8 h;obtain⟨h,d⟩:=H8 h;obtain⟨h,e⟩:=H8 h;obtain⟨h,f⟩:=H8 h;obtain⟨h,g⟩:=H8 h;obtain⟨h0,h1⟩:=H8 h;have a:=λi=>Ags (UInt8.toNat_lt (l.getD i 0));rintro(_|_|_|_|_|_|_|_|i) U
 .exact(a 0).1 h0
 .exact(a 1).2 1 (by decide) h1
 .exact(a 2).2 2 (by decide) g
 .exact(a 3).2 3 (by decide) f
 .exact(a 4).2 4 (by decide) e
 .exact(a 5).2 5 (by decide) d
 .exact(a 6).2 6 (by decide) c
 .exact(a 7).2 7 (by decide) b
 .omega
def S6 {b:UInt8} {l l':Bl} (h:Li b l=I l'):l'.length<=l.length:=by
 unfold Li at h;split at h
 .cases h;exact Ae _
 .split at h<;>first
   |cases h;done
   |(revert h;cases(KI _ _:Bool)<;>intro h<;>first|(cases h;done)|(cases h;simp;done))
   |(revert h;cases(KI _ _&&KI _ _:Bool)<;>intro h<;>first|(cases h;done)|(cases h;simp;omega))
   |(revert h;cases(KI _ _&&KI _ _&&KI _ _:Bool)<;>intro h<;>first|(cases h;done)|(cases h;simp;omega))
def Pw:∀(n m:Nat) (l:Bl),l.length<=n->l.length<=m->Lk n l=Lk m l
 |n,m,[],_,_=>by cases n<;>cases m<;>rfl
 |0,_,_::_,h,_=>by simp at h
 |_,0,_::_,_,h=>by simp at h
 |
  n+1,m+1,b::l,h1,a=>by
  simp only[AO] at h1 a;rw[Lk,Lk];cases c:Li b l with
  |none=>rfl
  |
   some l'=>
   have:=S6 c;exact Pw n m l' G G
def RZ (l:Bl):Bool:=Lk l.length l
def OB (b:UInt8) (l:Bl):RZ (b::l)=match Li b l with|some l'=>RZ l'|none=>false:=by
 unfold RZ;rw[AO,Lk];cases a:Li b l with
 |none=>rfl
 |
  some l'=>
  have:=S6 a;exact Pw _ _ l' this (Ae _)
def VA:∀(k:Nat) (l:Bl),(∀i,i<k->(l.getD i 0).toNat<128)->RZ (l.drop k)=RZ l
 |0,_,_=>rfl
 |k+1,[],_=>rfl
 |
  k+1,b::l,h=>by
  rw[List.drop_succ_cons,VA k l λi U=>by simpa using h (i+1) G,OB];have:Li b l=I l:=by unfold Li;rw[Bi (by simpa using h 0 G)]
  rw[this]
def slL {l:Bl} {k:Nat} (h:k<=l.length):C7 Ax 9 (.string (EY l)) (I (.int .i64 (k:Int))) Z Z=I (.string (EY (l.drop k))):=by
 show(bif Ar k (EY l).size&&Ar (EY l).size (EY l).size then I (Value.string (EY ((l.drop k).take ((EY l).size-k)))) else Z)=_
 have e:(EY l).size=l.length:=rfl;rw[e,Aq h,Aq (Ae _),Bj (by rw[AV];exact Ae _)];rfl
def Xm (a:Base S L) {h:Y} {l:Bl} (b:8<=l.length):Bk S L 1 215 [.string (EY l)] h λw J=>AA h J/\w=.int .u64 (Aoo l):=
 Cn f215 a λd c _=>by
  have e:(EY l).size=l.length:=rfl;have cv:∀i,inR .u64 ((l.getD i 0).toNat:Int):=λi=>⟨G,by have:=(λi=>UInt8.toNat_lt (l.getD i 0)) i;omega⟩;refine⟨[],Kq,⟨by decide,G⟩,_,.inl ⟨cv 0,B⟩,⟨by decide,G⟩,_,.inl ⟨cv 1,B⟩,by decide,?_⟩
  repeat' first
   |refine⟨⟨by decide,G⟩,_,.inl ⟨cv _,rfl⟩,by decide,?_⟩
   |exact⟨(AT (AA.refl h)),rfl⟩
def Vr (z:Nat) (p:Nat×Nat) (r:Bl):Option Bl:=match z,r with
 |2,c::l=>bif KI p c then I l else Z
 |3,c::d::l=>bif KI p c&&KI (128,191) d then I l else Z
 |4,c::d::e::l=>bif KI p c&&KI (128,191) d&&KI (128,191) e then I l else Z
 |_,_=>Z
def Ahz {b:UInt8} {r:Bl} (h:¬b.toNat<128):Li b r=Vr (Fk b.toNat%8) (K6 (Fk b.toNat/16)) r:=by
 unfold Li;rw[Bm h];rfl
def Q7 {z:Nat} {p:Nat×Nat} {r:Bl} (b:z=k+2) (a:k+1<=r.length) (h0:p.1<=(r.getD 0 0).toNat/\(r.getD 0 0).toNat<=p.2) (h1:∀i,1<=i->i<=k->128<=(r.getD i 0).toNat/\(r.getD i 0).toNat<=191) (f:k<=2):
 Vr z p r=I (r.drop (k+1)):=by
 have t:∀{q:Nat×Nat} {c:UInt8},(q.1<=c.toNat/\c.toNat<=q.2)->KI q c=true:=λh=>by
  unfold KI;rw[Aq h.1,Aq h.2];rfl
 subst b;rcases r with _|⟨c,_|⟨d,_|⟨e,l⟩⟩⟩
 .simp at a
 .obtain rfl:k=0:=by simp at a;omega
  show(bif KI p c then I [] else Z)=_
  rw[t (c:=c) h0];rfl
 .rcases(show k=0\/k=1 by simp at a;omega) with rfl|rfl
  .show(bif KI p c then I [d] else Z)=_
   rw[t (c:=c) h0];rfl
  .show(bif KI p c&&KI (128,191) d then I [] else Z)=_
   rw[t (c:=c) h0,t (h1 1 G G)];rfl
 .rcases(show k=0\/k=1\/k=2 by omega) with rfl|rfl|rfl
  .show(bif KI p c then I (d::e::l) else Z)=_
   rw[t (c:=c) h0];rfl
  .show(bif KI p c&&KI (128,191) d then I (e::l) else Z)=_
   rw[t (c:=c) h0,t (h1 1 G G)];rfl
  .show(bif KI p c&&KI (128,191) d&&KI (128,191) e then I l else Z)=_
   rw[t (c:=c) h0,t (h1 1 G G),t (h1 2 G G)];rfl
def DA {z:Nat} {p:Nat×Nat} {r:Bl} (h:z<2\/4<z\/r.length+1<z\/(¬(p.1<=(r.getD 0 0).toNat/\(r.getD 0 0).toNat<=p.2))\/∃i,1<=i/\i+2<=z/\¬(128<=(r.getD i 0).toNat/\(r.getD i 0).toNat<=191)):Vr z p r=none:=by
 have f:∀{q:Nat×Nat} {c:UInt8},KI q c=Ag->(q.1<=c.toNat/\c.toNat<=q.2):=λh=>by
  unfold KI at h;rw[An] at h;exact⟨Ac h.1,Ac h.2⟩
 unfold Vr;split
 .rename_i c l
  cases a:KI p c with
  |false=>rfl
  |
   true=>
   have:=f a;rcases h with h|h|h|h|⟨i,h1,g,_⟩
   .omega
   .omega
   .simp at h;omega
   .exact Cf this h
   .omega
 .rename_i c d l
  cases a:KI p c with
  |false=>rfl
  |
   true=>
   cases b:KI (128,191) d with
   |false=>rfl
   |
    true=>
    have a1:=f a;have j:=f b;rcases h with h|h|h|h|⟨i,h1,g,h⟩
    .omega
    .omega
    .simp at h;omega
    .exact Cf a1 h
    .obtain rfl:i=1:=G
     exact Cf j h
 .rename_i c d e l
  cases a:KI p c with
  |false=>rfl
  |
   true=>
   cases b:KI (128,191) d with
   |false=>rfl
   |
    true=>
    cases k:KI (128,191) e with
    |false=>rfl
    |
     true=>
     rcases h with h|h|h|h|⟨i,h1,g,h⟩
     .omega
     .omega
     .simp at h;omega
     .exact Cf (f a) h
     .rcases(show i=1\/i=2 by omega) with rfl|rfl
      .exact Cf (f b) h
      .exact Cf (f k) h
 .rfl
def ACv (D:Base S L) (ab:Ce h) (hs:s.size<=100000000):Bk S L 2 139 [.string s] h λw J=>AA h J/\w=.bool (FH s):=
 Cn f139 D λd ai hL=>by
  have sz:∀l:Bl,(EY l).size=l.length:=λ_=>rfl;refine⟨λP A C=>∃l:Bl,A=[(0,.string (EY l))]/\P=l.length/\l.length<=s.size/\RZ l=FH s/\AA h C,
   ⟨_,_,Sq,(show s.data.toList.length<L by have:s.data.toList.length=s.size:=rfl;omega),_,B,B,Ae _,B,AA.refl h⟩,?_⟩
  rintro P A C ⟨l,rfl,rfl,hl,m,x⟩ aj;refine Bz (λe0=>?_) (λe0=>?_);rotate_left
  .have:l=[]:=BO (by have:=sz l;omega)
   subst this;exact⟨x,by rw[←m];rfl⟩
  obtain⟨b,r,rfl⟩:∃b r,l=b::r:=by cases l with
   |nil=>exact Cf e0 (by decide)
   |cons b r=>exact⟨b,r,B⟩
  have hb:=UInt8.toNat_lt b;have hr:(b::r).length=r.length+1:=rfl;refine⟨⟨by decide,G⟩,Bz (λQ=>?_) (λQ=>?_)⟩
  .have Q:b.toNat<128:=Int.ofNat_lt.1 Q
   have v1:RZ r=FH s:=by rw[←m,OB];unfold Li;rw[Bi Q]
   refine⟨_,_,Cs (CN _) (slL (k:=1) G),Bz (λu=>?_) (λu=>?_)⟩;rotate_left
   .exact⟨_,_,Sq,HL _,r,B,B,G,v1,x⟩
   have u:8<r.length:=Int.ofNat_lt.1 u;have E:∀(k:Nat) (l':Bl),(∀i,i<k->(l'.getD i 0).toNat<128)->RZ l'=FH s->RZ (l'.drop k)=FH s:=λk l' ha m=>by rw[VA k l' ha,m]
   refine⟨_,Xm (l:=r) D G d G,?_⟩;rintro _ h1 ⟨x1,rfl⟩;have aa:=x.trans x1;refine Bz (λa=>?_) (λa=>?_);rotate_left
   .exact⟨_,_,Sq,HL _,r,B,B,G,v1,aa⟩
   have N:=E 8 r (Ik a) v1;have s8:=sz (r.drop 8);have l8:(r.drop 8).length=r.length-8:=AV ..;refine⟨_,_,Cs (CN _) (slL (l:=r) (k:=8) G),[],Kq,Bz (λc=>?_) (λc=>?_)⟩;rotate_left
   .exact⟨_,_,Sq,(by omega:(r.drop 8).length<r.length+1),_,B,B,G,N,AT aa⟩
   have c:16<(r.drop 8).length:=Int.ofNat_lt.1 c;have hq:(r.drop 8).length<r.length+1/\(r.drop 8).length<=s.size:=G;generalize r.drop 8=q at*;have q8:(q.drop 8).length=q.length-8:=AV ..;refine⟨_,Xm D G d G,?_⟩;rintro _ h2 ⟨F,rfl⟩;refine⟨F.ag,_,_,Cs (CN _) (slL (k:=8) G),_,Xm D G d G,?_⟩;rintro _ h3 ⟨R,rfl⟩;have ad:=(aa.trans F.aa).trans R.aa;refine⟨R.ag,Bz (λj=>?_) (λj=>?_)⟩;rotate_left
   .exact⟨_,_,Sq,hq.1,_,B,B,hq.2,N,AT ad⟩
   obtain⟨T,V⟩:=H8 j;have W:=E 8 _ (Ik V) (E 8 q (Ik T) N);rw[GR] at W;have ak:(q.drop 16).length=q.length-16:=AV ..;refine⟨_,_,Cs (CN _) (slL (k:=16) G),λP A C=>∃l:Bl,A=[(0,.string (EY l))]/\P=l.length/\l.length<r.length+1/\l.length<=s.size/\RZ l=FH s/\AA h C,
    ⟨_,_,Sq,(by omega:(q.drop 16).length<L),_,B,B,G,G,W,AT ad⟩,?_⟩
   rintro P A C ⟨l,rfl,rfl,ae,af,m,x⟩ al;refine⟨[],Kq,Bz (λc=>?_) (λc=>?_)⟩;rotate_left
   .exact⟨_,_,Sq,ae,_,B,B,af,m,AT x⟩
   have c:32<l.length:=Int.ofNat_lt.1 c;have dl:=λk=>(AV (i:=k) (l:=l));refine⟨_,Xm D G d G,?_⟩;rintro _ h2 ⟨F,rfl⟩;refine⟨F.ag,_,_,Cs (CN _) (slL (k:=8) G),_,Xm D (by have:=dl 8;omega) d G,?_⟩;rintro _ h3 ⟨R,rfl⟩;refine⟨R.ag,_,_,Cs (CN _) (slL (k:=16) G),_,Xm (l:=l.drop 16) D (by have:=dl 16;omega) d G,?_⟩;rintro _ h4 ⟨x4,rfl⟩;refine⟨x4.ag,_,_,Cs (CN _) (slL (l:=l) (k:=24) G),_,Xm (l:=l.drop 24) D (by have:=dl 24;omega) d G,?_⟩;rintro _ h5 ⟨x5,rfl⟩;have X:=(((x.trans F.aa).trans R.aa).trans x4.aa).trans x5.aa;refine⟨x5.ag,Bz (λj=>?_) (λj=>?_)⟩;rotate_left
   .exact⟨_,_,Sq,ae,_,B,B,af,m,AT X⟩
   obtain⟨T,V⟩:=H8 j;obtain⟨w3,w4⟩:=H8 V;obtain⟨T,V⟩:=H8 T;have N:=E 8 _ (Ik V) (E 8 l (Ik T) m);rw[GR] at N;have W:=E 8 _ (Ik w3) N;rw[GR] at W;have v4:=E 8 _ (Ik w4) W;rw[GR] at v4;have d32:=dl 32;exact⟨_,_,Cs (CN _) (slL (l:=l) (k:=32) G),_,_,Sq,(by omega:(l.drop 32).length<l.length),_,B,B,G,G,v4,AT X⟩
  have c0:=(ab.ext x).1 b.toNat hb;obtain⟨hx,ag⟩:=Tf hb;have O:=Ahz (r:=r) (λk=>Q (Int.ofNat_lt.2 k):¬b.toNat<128);generalize Fk b.toNat=y at c0 hx ag O;have q4:=Afn hx;have cA:=(ab.ext x).2 (y/16) G;generalize K6 (y/16)=p at cA O;obtain⟨lo,U⟩:=p;rw[OB] at m;have k7:D8 .u8 (y:Int) 7=((y%8:Nat):Int):=Aev hx;obtain⟨g,yg,g2,ah,f⟩:=(Sep.nil C).var (t:=336) (z:=.agg ⟨[.int .u8 0,.int .u8 0]⟩) Kq (v:=.agg ⟨[.int .u8 lo,.int .u8 U]⟩) B B B;have l0:Cell g2 C.nx 0 (.int .u8 lo):=(f.dD (i:=0) B).cell (i:=0) B;have l1:Cell g2 C.nx 1 (.int .u8 U):=(f.dD (i:=0) B).cell (i:=1) B;have X:=x.trans f.e;refine⟨⟨G,by show((Cv (EY (b::r)) 0).toNat:Int)<256;exact Int.ofNat_lt.2 hb⟩,_,Dz (ld B c0) (by show 0+(b.toNat:Int).toNat*1=_;omega),_,.inl ⟨⟨by omega,by omega⟩,B⟩,by decide,⟨G,by show DN .u8 (y:Int) 4<16;omega⟩,_,EQ (k:=2) Kq (show BK C 1 (0+(DN .u8 (y:Int) 4).toNat*2) [.int .u8 lo,.int .u8 U] by rw[q4,Ba,UG];exact cA) B,_,_,yg _,_,ah,?_⟩;have n:Vr (y%8) (lo,U) r=Z->∀{H:Y},AA C H->AA h H/\CU Ah=.bool (FH s):=λe H F=>⟨x.trans F,by rw[←m,O,e]⟩;have o:∀i:Nat,i<r.length->Cv (EY (b::r)) (i+1)=r.getD i 0:=λi _=>rfl;refine Bz (λu=>?_) (λu=>?_)
  .have u:y%8=2:=by have:((y%8:Nat):Int)=2:=k7▸u;omega
   refine⟨[],Kq,Bz (λa=>?_) (λa=>?_)⟩
   .exact n (DA (by have:(b::r).length<2:=Int.ofNat_lt.1 a;omega)) (AT f.e)
   have a:1<=r.length:=by have:¬(b::r).length<2:=λk=>a (Int.ofNat_lt.2 k);omega
   have o:∀i:Nat,i<2->(0:Int)<=(i:Int)/\(i:Int)<((b::r).length:Int):=λi U=>G;refine⟨o 1 (by decide),_,ld B l0,Bz (λc=>?_) (λc=>?_)⟩
   .exact n (DA (.inr (.inr (.inr (.inl λk=>Cf (Int.ofNat_lt.1 c) (Nat.not_lt.2 k.1)))))) (AT f.e)
   refine⟨_,ld B l1,o 1 (by decide),Bz (λj=>?_) (λj=>?_)⟩
   .exact n (DA (.inr (.inr (.inr (.inl λk=>Cf (Int.ofNat_lt.1 j) (Nat.not_lt.2 k.2)))))) (AT f.e)
   have g0:lo<=(r.getD 0 0).toNat/\(r.getD 0 0).toNat<=U:=⟨Nat.not_lt.1 λk=>c (Int.ofNat_lt.2 k),Nat.not_lt.1 λk=>j (Int.ofNat_lt.2 k)⟩;have w:=Q7 (z:=y%8) (p:=(lo,U)) (k:=0) u a g0 (λi h1 h2=>G) (by decide);rw[O,w] at m;exact⟨_,_,Cs (CN _) (slL (l:=b::r) (k:=2) G),_,_,Sq,(by rw[AV];omega:(r.drop 1).length<(b::r).length),_,B,B,by rw[AV];omega,m,AT X⟩
  refine Bz (λa=>?_) (λa=>?_)
  .have u:y%8=3:=by have:((y%8:Nat):Int)=3:=k7▸a;omega
   refine⟨[],Kq,Bz (λa=>?_) (λa=>?_)⟩
   .exact n (DA (by have:(b::r).length<3:=Int.ofNat_lt.1 a;omega)) (AT f.e)
   have a:2<=r.length:=by have:¬(b::r).length<3:=λk=>a (Int.ofNat_lt.2 k);omega
   have o:∀i:Nat,i<3->(0:Int)<=(i:Int)/\(i:Int)<((b::r).length:Int):=λi U=>G;refine⟨o 1 (by decide),_,ld B l0,Bz (λc=>?_) (λc=>?_)⟩
   .exact n (DA (.inr (.inr (.inr (.inl λk=>Cf (Int.ofNat_lt.1 c) (Nat.not_lt.2 k.1)))))) (AT f.e)
   refine⟨_,ld B l1,o 1 (by decide),Bz (λj=>?_) (λj=>?_)⟩
   .exact n (DA (.inr (.inr (.inr (.inl λk=>Cf (Int.ofNat_lt.1 j) (Nat.not_lt.2 k.2)))))) (AT f.e)
   have g0:lo<=(r.getD 0 0).toNat/\(r.getD 0 0).toNat<=U:=⟨Nat.not_lt.1 λk=>c (Int.ofNat_lt.2 k),Nat.not_lt.1 λk=>j (Int.ofNat_lt.2 k)⟩;refine⟨o 2 (by decide),Bz (λK=>?_) (λK=>?_)⟩
   .exact n (DA (.inr (.inr (.inr (.inr ⟨1,by decide,G,λk=>Cf (Int.ofNat_lt.1 K) (Nat.not_lt.2 k.1)⟩))))) (AT f.e)
   refine⟨o 2 (by decide),Bz (λM=>?_) (λM=>?_)⟩
   .exact n (DA (.inr (.inr (.inr (.inr ⟨1,by decide,G,λk=>Cf (Int.ofNat_lt.1 M) (Nat.not_lt.2 k.2)⟩))))) (AT f.e)
   have g1:128<=(r.getD 1 0).toNat/\(r.getD 1 0).toNat<=191:=⟨Nat.not_lt.1 λk=>K (Int.ofNat_lt.2 k),Nat.not_lt.1 λk=>M (Int.ofNat_lt.2 k)⟩;have w:=Q7 (z:=y%8) (p:=(lo,U)) (k:=1) u a g0 (λi h1 h2=>by rcases(show i=1 by omega) with rfl<;>assumption) (by decide);rw[O,w] at m;exact⟨_,_,Cs (CN _) (slL (l:=b::r) (k:=3) G),_,_,Sq,(by rw[AV];omega:(r.drop 2).length<(b::r).length),_,B,B,by rw[AV];omega,m,AT X⟩
  refine Bz (λc=>?_) (λc=>?_)
  .have u:y%8=4:=by have:((y%8:Nat):Int)=4:=k7▸c;omega
   refine⟨[],Kq,Bz (λa=>?_) (λa=>?_)⟩
   .exact n (DA (by have:(b::r).length<4:=Int.ofNat_lt.1 a;omega)) (AT f.e)
   have a:3<=r.length:=by have:¬(b::r).length<4:=λk=>a (Int.ofNat_lt.2 k);omega
   have o:∀i:Nat,i<4->(0:Int)<=(i:Int)/\(i:Int)<((b::r).length:Int):=λi U=>G;refine⟨o 1 (by decide),_,ld B l0,Bz (λc=>?_) (λc=>?_)⟩
   .exact n (DA (.inr (.inr (.inr (.inl λk=>Cf (Int.ofNat_lt.1 c) (Nat.not_lt.2 k.1)))))) (AT f.e)
   refine⟨_,ld B l1,o 1 (by decide),Bz (λj=>?_) (λj=>?_)⟩
   .exact n (DA (.inr (.inr (.inr (.inl λk=>Cf (Int.ofNat_lt.1 j) (Nat.not_lt.2 k.2)))))) (AT f.e)
   refine⟨o 2 (by decide),Bz (λK=>?_) (λK=>?_)⟩
   .exact n (DA (.inr (.inr (.inr (.inr ⟨1,by decide,G,λk=>Cf (Int.ofNat_lt.1 K) (Nat.not_lt.2 k.1)⟩))))) (AT f.e)
   refine⟨o 2 (by decide),Bz (λM=>?_) (λM=>?_)⟩
   .exact n (DA (.inr (.inr (.inr (.inr ⟨1,by decide,G,λk=>Cf (Int.ofNat_lt.1 M) (Nat.not_lt.2 k.2)⟩))))) (AT f.e)
   have g1:128<=(r.getD 1 0).toNat/\(r.getD 1 0).toNat<=191:=⟨Nat.not_lt.1 λk=>K (Int.ofNat_lt.2 k),Nat.not_lt.1 λk=>M (Int.ofNat_lt.2 k)⟩;refine⟨o 3 (by decide),Bz (λe8=>?_) (λe8=>?_)⟩
   .exact n (DA (.inr (.inr (.inr (.inr ⟨2,by decide,G,λk=>Cf (Int.ofNat_lt.1 e8) (Nat.not_lt.2 k.1)⟩))))) (AT f.e)
   refine⟨o 3 (by decide),Bz (λe9=>?_) (λe9=>?_)⟩
   .exact n (DA (.inr (.inr (.inr (.inr ⟨2,by decide,G,λk=>Cf (Int.ofNat_lt.1 e9) (Nat.not_lt.2 k.2)⟩))))) (AT f.e)
   have g2:128<=(r.getD 2 0).toNat/\(r.getD 2 0).toNat<=191:=⟨Nat.not_lt.1 λk=>e8 (Int.ofNat_lt.2 k),Nat.not_lt.1 λk=>e9 (Int.ofNat_lt.2 k)⟩;have w:=Q7 (z:=y%8) (p:=(lo,U)) (k:=2) u a (⟨Nat.not_lt.1 λk=>c (Int.ofNat_lt.2 k),Nat.not_lt.1 λk=>j (Int.ofNat_lt.2 k)⟩:lo<=(r.getD 0 0).toNat/\(r.getD 0 0).toNat<=U) (λi h1 h2=>by rcases(show i=1\/i=2 by omega) with rfl|rfl<;>assumption) (by decide);rw[O,w] at m;exact⟨_,_,Cs (CN _) (slL (l:=b::r) (k:=4) G),_,_,Sq,(by rw[AV];omega:(r.drop 3).length<(b::r).length),_,B,B,by rw[AV];omega,m,AT X⟩
  refine n (DA ?_) f.e;omega
def AAa {ys:Bo} (o:AS H N 3 1 (.slice A n c) n (Bn ys)) (U:i<n) (F:j<n):
 ∃(b x y:Nat) (h1 a:Y),A=I ⟨b,0,Z⟩/\Cell H b i (Vi x)/\Cell H b j (Vi y)/\BA Ax 3 H.ad b i (Vi y)=I h1/\BA Ax 3 (H.aa h1).ad b j (Vi x)=I a/\
  B0 (BY (.slice A n c)) H ((H.aa h1).aa a)/\∃l,l.Perm ys/\AS ((H.aa h1).aa a) N 3 1 (.slice A n c) n (Bn l):=by
 have p:n=ys.length:=by have:=o.len;rw[this];simp[Bn]
 have d:ys[i]?=I (ys[i]'G):=Ab G;have f:ys[j]?=I (ys[j]'G):=Ab G;generalize ys[i]'G=x at d;generalize ys[j]'G=y at f;obtain⟨K,⟨e,rfl⟩|⟨b,L,sp,e,q,r,s,g⟩⟩:=o
 .omega
 cases e;have M:(Bn ys).length=n:=by simp[Bn,p]
 obtain⟨h1,u,w,z⟩:=Own.st (τ:=Ax) (t:=3) B (show Own H.ad b 3 _ from g) (i:=i) (v:=Vi y) (by rw[Aj];omega) B;obtain⟨a,C,m,D⟩:=Own.st (τ:=Ax) (t:=3) B (show Own (H.aa h1).ad b 3 _ from w.aa (h:=H)) (i:=j) (v:=Vi x) (by rw[B4,Aj];omega) B;refine⟨b,x,y,h1,a,B,g.cell (by rw[AB G];exact (by unfold Bn;rw[AX,d];rfl:(Bn ys)[i]?=I (Vi x))),g.cell (by rw[AB G];exact (by unfold Bn;rw[AX,f];rfl:(Bn ys)[j]?=I (Vi y))),u,C,(z.aa.ae.trans D.aa.ae).mono λk E=>E,swp ys i j x y,NM d f,?_⟩;rw[Hj,Bi G,Hj,Bi (by rw[B4];omega)] at m;have es:Bn (swp ys i j x y)=((Bn ys).set i (Vi y)).set j (Vi x):=by unfold Bn swp;rw[Cp,Cp]
 refine⟨by rw[es,B4,B4];omega,.inr ⟨b,c,sp,B,q,r,?_,?_⟩⟩
 .rw[es,Aj,B4,B4,←s,Aj]
 .rw[es];exact m.aa
def JS (h:Y) (N n c:Nat) (A:Option BD) (xs:Bo) (H:Y):Prop:=B0 (BY (.slice A n c)) h H/\∃ys,ys.Perm xs/\AS H N 3 1 (.slice A n c) n (Bn ys)
def JS.refl {xs:Bo} (o:AS h N 3 1 (.slice A n c) n (Bn xs)):JS h N n c A xs h:=⟨(AA.refl h).ae _,xs,.refl _,o⟩
def JS.ext {a:Y} {xs:Bo} (s:JS h N n c A xs H) (x:AA H a):JS h N n c A xs a:=⟨s.1.trans (x.ae _),s.2.imp λ_ q=>⟨q.1,q.2.ext x⟩⟩
def JS.swp {xs:Bo} (s:JS h N n c A xs H) (U:i<n) (d:j<n):
 ∃(b x y:Nat) (h1 a:Y),A=I ⟨b,0,Z⟩/\Cell H b i (Vi x)/\Cell H b j (Vi y)/\BA Ax 3 H.ad b i (Vi y)=I h1/\BA Ax 3 (H.aa h1).ad b j (Vi x)=I a/\JS h N n c A xs ((H.aa h1).aa a):=by
 obtain⟨f,ys,p,o⟩:=s;obtain⟨b,x,y,h1,a,e,g,k,l,m,q,r,t,o'⟩:=AAa o U d;exact⟨b,x,y,h1,a,e,g,k,l,m,f.trans q,r,t.trans p,o'⟩
def JS.call {xs:Bo} (s:JS h N n c A xs H) {f:Nat} (e:∀ys,AS H N 3 1 (.slice A n c) n (Bn ys)->ys.Perm xs->B0 (BY (.slice A n c)) h H->Bk S L d f args H λ_ J=>JS H N n c A ys J):
 Bk S L d f args H λ_ J=>JS h N n c A xs J:=by
 obtain⟨a,ys,p,o⟩:=s;exact(e ys o p a).mono λ_ g b=>⟨a.trans b.1,b.2.imp λ_ q=>⟨q.1.trans p,q.2⟩⟩
def JS.get {xs:Bo} (s:JS h N n c A xs H) (U:i<n):∃b x:Nat,A=I ⟨b,0,Z⟩/\Cell H b i (Vi x)/\x∈xs:=by
 obtain⟨_,ys,p,o⟩:=s;have a:n=ys.length:=by have:=o.len;rw[this];simp[Bn]
 obtain⟨b,d,e,_,q⟩:=o.cell (i:=i) (u:=Vi (ys[i]'G:Nat)) (by unfold Bn;rw[AX,Ab G];rfl);cases e;exact⟨b,_,B,q,p.subset (Bu _)⟩
def Aqq (f:Base S L) {g m p:Int} {xs:Bo} (o:AS h N 3 1 (.slice A n c) n (Bn xs)) (D:n<=1000000) (E:a+k<=n) (hb:b+k<=n) (K:g=a) (M:m=b) (O:p=k):
 Bk S L 1 346 [.slice A n c,Vi g,Vi m,Vi p,fv] h λ_ J=>JS h N n c A xs J:=
 Fm (fn:=f346) f Kq B λd P=>by
  have Q:=f.aI;refine⟨Dc B,λq F H=>∃i:Nat,F=[(0,.slice A n c),(1,Vi a),(2,Vi b),(3,Vi k),(10,Vi i)]/\i<=k/\q=k-i/\JS h N n c A xs H,
   ⟨_,_,Sq,G,0,B,Al _,B,.refl o⟩,?_⟩
  rintro q F H ⟨i,rfl,U,rfl,s⟩ R;refine Bz (λr=>?_) (λr=>s);obtain⟨b0,x,y,h1,T,e,t,u,v,w,C⟩:=s.swp (i:=a+i) (j:=b+i) G G;cases e;refine⟨[],Kq,⟨by omega,by omega⟩,⟨by omega,by omega⟩,⟨by omega,by omega⟩,G,_,Dz (ld B u) (by show 0+((b:Int)+i).toNat*1=_;omega),⟨by omega,by omega⟩,G,_,Dz (ld B t) (by show 0+((a:Int)+i).toNat*1=_;omega),G,_,Jp v (by show 0+((a:Int)+i).toNat*1=_;omega),G,_,Jp w (by show 0+((b:Int)+i).toNat*1=_;omega),?_⟩;exact⟨⟨by omega,by omega⟩,_,_,CG (l:=[(0,_),(1,_),(2,_),(3,_),(10,Vi ((i+1:Nat):Int))]) ⟨B,B,B,B,Cs (λz=>I (Vi z)) (by omega),trivial⟩,(show k-(i+1)<k-i by omega),i+1,B,G,B,C⟩
def AEd (e:Base S L) {l p q:Int} {xs:Bo} (o:AS h N 3 1 (.slice A n c) n (Bn xs)) (k:n<=1000000) (h1:a<m) (v:m<b) (w:b<=n) (x:l=a) (em:p=m) (y:q=b):
 Bk S L 2 314 [.slice A n c,Vi l,Vi p,Vi q,fv] h λ_ J=>JS h N n c A xs J:=
 Fm (fn:=f314) e Kq B λd z=>by
  have C:=e.aI;refine⟨Dc B,⟨by omega,by omega⟩,⟨by omega,by omega⟩,λr F H=>∃i j:Nat,F=[(0,.slice A n c),(2,Vi m),(4,fv),(10,Vi i),(11,Vi j)]/\(0<i/\i<=m)/\(0<j/\m+j<=n)/\r=i+j/\JS h N n c A xs H,
   ⟨_,_,Sq,(by omega:(m-a)+(b-m)<L),_,_,B,G,G,B,.refl o⟩,?_⟩
  rintro r F H ⟨i,j,rfl,U,D,rfl,s⟩ E;refine Ad (λf=>?_) (λf=>?_)
  .have f:¬(i:Int)=j:=by simpa using f
   refine Bz (λu=>?_) (λu=>?_)
   .refine⟨⟨by omega,by omega⟩,_,s.call (λys o' _ _=>Aqq (a:=m-i) e o' k G G G B B) d G,?_⟩
    rintro _ t g;exact⟨⟨by omega,by omega⟩,_,_,Sq,(by omega:(i-j)+j<i+j),_,_,B,G,G,B,g⟩
   .refine⟨⟨by omega,by omega⟩,⟨by omega,by omega⟩,⟨by omega,by omega⟩,_,s.call (λys o' _ _=>Aqq (a:=m-i) (b:=m+j-i) e o' k G G G G B) d G,?_⟩
    rintro _ t g;exact⟨⟨by omega,by omega⟩,_,_,Sq,(by omega:i+(j-i)<i+j),_,_,B,G,G,B,g⟩
  .have f:(i:Int)=j:=by simpa using f
   refine⟨⟨by omega,by omega⟩,_,s.call (λys o' _ _=>Aqq (a:=m-i) e o' k G G G B B) d G,?_⟩;rintro _ t g;exact g
def U0 (S:A9) (L d g:Nat) (first cap:Array Aa) (h:Y) (W:Nat->Prop) (xs:Bo):Prop:=∀x∈xs,∀y∈xs,∀J,B0 W h J->Bk S L d g (first.toList++[.int .i64 x,.int .i64 y]++cap.toList) J λv a=>AA J a/\U6 v
def U0.on {g:Nat} {first cap:Array Aa} {xs ys:Bo} (q:U0 S L d g first cap h W xs) (p:ys.Perm xs) (c:B0 W h H):U0 S L d g first cap H W ys:=λx a y b J e=>q x (p.subset a) y (p.subset b) J (c.trans e)
def Aun (t:Base S L) {g:Nat} {u v:Int} {xs:Bo} {first cap:Array Aa} (o:AS h N 3 1 (.slice A n c) n (Bn xs)) (hn:n<=1000000) (ha:a<=n) (hb:b<=n) (M:U0 S L e g first cap h (BY (.slice A n c)) xs) (ea:u=a) (eb:v=b):
 Bk S L (e+1) 249 [.slice A n c,Vi u,Vi v,.func (.func g) first cap] h λ_ J=>JS h N n c A xs J:=
 Fm (fn:=f249) t Kq B λd aa=>by
  have hL:=t.aI;refine⟨Dc B,⟨by omega,by omega⟩,λk F H=>∃i:Nat,F=[(0,.slice A n c),(1,Vi a),(2,Vi b),(3,.func (.func g) first cap),(8,Vi i)]/\a<i/\k=b-i/\JS h N n c A xs H,
   ⟨_,_,Sq,(by omega:b-(a+1)<L),_,B,HL a,B,.refl o⟩,?_⟩
  rintro k F H ⟨i,rfl,U,rfl,s⟩ ab;refine Bz (λO=>?_) (λO=>s);refine⟨λk F H=>∃j:Nat,F=[(0,.slice A n c),(1,Vi a),(2,Vi b),(3,.func (.func g) first cap),(8,Vi i),(9,Vi j)]/\(a<=j/\j<=i)/\k=j+1/\JS h N n c A xs H,
   ⟨_,_,Sq,(by omega:i+1<L),_,B,⟨G,Ae _⟩,B,s⟩,?_⟩
  rintro k F H ⟨j,rfl,hj,rfl,s⟩ ad;have w:∀{f:As} {C:Y},JS h N n c A xs C->look f 0=I (.slice A n c)->look f 1=I (Vi a)->look f 2=I (Vi b)->look f 3=I (.func (.func g) first cap)->look f 8=I (Vi ((i:Int)+1))->
   ∃m' D,Sub D f/\m'<b-i/\∃i:Nat,D=[(0,.slice A n c),(1,Vi a),(2,Vi b),(3,.func (.func g) first cap),(8,Vi i)]/\a<i/\m'=b-i/\JS h N n c A xs C:=λm P Q R T k8=>
   ⟨_,_,CG (l:=[(0,_),(1,_),(2,_),(3,_),(8,Vi ((i+1:Nat):Int))]) ⟨P,Q,R,T,k8,trivial⟩,(by omega:b-(i+1)<b-i),i+1,B,G,B,m⟩
  refine⟨[],Kq,Bz (λV=>?_) (λV=>⟨⟨by omega,by omega⟩,w (s.ext (AT (AA.refl H))) B B B B B⟩)⟩;obtain⟨b0,x,p,q,W⟩:=s.get (i:=j) G;cases p;obtain⟨_,y,X,r,hy⟩:=s.get (i:=j-1) G;cases X;refine⟨G,_,Dz (ld B q) (by show 0+(j:Int).toNat*1=_;omega),⟨by omega,by omega⟩,G,_,Dz (ld B r) (by show 0+((j:Int)-1).toNat*1=_;omega),_,M x W y hy _ (s.1.trans ((AA.ad H).ae _)) d G,?_⟩;rintro _ h3 ⟨E,z,rfl⟩;have K:=s.ext E.aa;refine⟨E.ag,Bz (λe3=>?_) (λe3=>⟨⟨by omega,by omega⟩,w K B B B B B⟩)⟩;obtain⟨_,x',y',h1,h2,p,q,r,u1,u2,m⟩:=K.swp (i:=j) (j:=j-1) G G;cases p;refine⟨[],Kq,⟨by omega,by omega⟩,⟨by omega,by omega⟩,G,_,Dz (ld B r) (by show 0+((j:Int)-1).toNat*1=_;omega),G,_,Dz (ld B q) (by show 0+(j:Int).toNat*1=_;omega),G,_,Jp u1 (by show 0+(j:Int).toNat*1=_;omega),G,_,Jp u2 (by show 0+((j:Int)-1).toNat*1=_;omega),?_⟩;exact⟨⟨by omega,by omega⟩,_,_,Sq,(by omega:(j-1)+1<j+1),j-1,B,G,B,m⟩
def AAg (z:Int):DN .u64 z 1=z/2:=by
 exact Int.fdiv_eq_ediv_of_nonneg z (by decide)
def Ajm (i j:Nat):DN .u64 ((i:Int)+j) 1=(((i+j)/2:Nat):Int):=by rw[AAg];omega
def AEr (h:Y) (N n c a m b g:Nat) (A:Option BD) (first cap:Array Aa) (xs:Bo) (F:As) (H:Y):Prop:=∃d st r:Nat,F=[(0,.slice A n c),(1,.int .i64 a),(2,.int .i64 m),(3,.int .i64 b),(4,.func (.func g) first cap),(18,.int .i64 (d:Int)),(19,.int .i64 ((d+m:Nat):Int)),(20,.int .i64 st),(21,.int .i64 r)]/\d=(a+b)/2/\
 a<=st/\st<=r/\r<=m/\r<=d/\d+m<=b+st/\m<=d+m-r/\JS h N n c A xs H
def Aor (ab:Base S L) {g D:Nat} {xs:Bo} {first cap:Array Aa} (o:AS h N 3 1 (.slice A n c) n (Bn xs)) (hn:n<=1000000) (h1:a<m) (h2:m<b) (h3:b<=n) (Q:U0 S L e g first cap h (BY (.slice A n c)) xs) (he:e<=D) (ad:2<=D)
 (ih:∀{a' m' W:Nat} {za zm zb:Int} {h:Y} {xs:Bo},AS h N 3 1 (.slice A n c) n (Bn xs)->a'<m'->m'<W->W<=n->2*(W-a')<=b-a+1->U0 S L e g first cap h (BY (.slice A n c)) xs->za=a'->zm=m'->zb=W->Bk S L D 250 [.slice A n c,Vi za,Vi zm,Vi zb,.func (.func g) first cap] h λ_ J=>JS h N n c A xs J):
 Bk S L (D+1) 250 [.slice A n c,Vi a,Vi m,Vi b,.func (.func g) first cap] h λ_ J=>JS h N n c A xs J:=
 Nu (fn:=f250) ab Kq B 6 (AEr h N n c a m b g A first cap xs) λd ae=>by
  have hL:=ab.aI;have X:=JS.refl o;refine⟨Dc B,?_,?_⟩
  .refine⟨⟨by omega,by omega⟩,Bz (λe1=>?_) (λe1=>?_)⟩
   .have e1:m=a+1:=G
    refine⟨λf F H=>∃i j:Nat,F=[(0,.slice A n c),(1,Vi a),(4,.func (.func g) first cap),(10,Vi i),(11,Vi j)]/\(m<=i/\i<=j/\j<=b)/\f=j-i/\JS h N n c A xs H,
     ⟨_,_,Sq,(by omega:b-m<L),_,_,B,G,B,X⟩,?_⟩
    rintro f F H ⟨i,j,rfl,U,rfl,s⟩ aa;have q:=Ajm i j;obtain⟨k,hk⟩:∃k,k=(i+j)/2:=⟨_,B⟩;refine Bz (λC=>?_) (λC=>?_)
    .obtain⟨b0,x,u,v,R⟩:=s.get (i:=k) G
     cases u;obtain⟨_,y,T,w,V⟩:=s.get (i:=a) G;cases T;refine⟨⟨by omega,by omega⟩,_,.inl ⟨⟨by omega,by omega⟩,B⟩,by decide,_,.inl ⟨⟨by omega,by omega⟩,B⟩,[],Kq,G,_,Dz (ld B v) (by show 0+(DN .u64 ((i:Int)+j) 1).toNat*1=_;omega),G,_,Dz (ld B w) (by show 0+(a:Int).toNat*1=_;omega),_,Q x R y V _ (s.1.trans ((AA.ad H).ae _)) d G,?_⟩;rintro _ h3 ⟨E,z,rfl⟩;have K:=s.ext E.aa;refine⟨E.ag,Bz (λt=>?_) (λt=>?_)⟩
     .exact⟨⟨by omega,by omega⟩,_,_,Sq,(by omega:j-(k+1)<j-i),_,_,B,G,B,K⟩
     .exact⟨_,_,Sq,(by omega:k-i<j-i),_,_,B,G,B,K⟩
    refine⟨λf F H=>∃k:Nat,F=[(0,.slice A n c),(10,Vi i),(13,Vi k)]/\a<=k/\f=i-k/\JS h N n c A xs H,
     ⟨_,_,Sq,(by omega:i-a<L),_,B,Ae _,B,s⟩,?_⟩
    rintro f F H ⟨k,rfl,hk,rfl,s⟩ aa;refine⟨⟨by omega,by omega⟩,Bz (λt=>?_) (λt=>s)⟩;obtain⟨_,x',y',h1,h2,u,v,w,u1,u2,s'⟩:=s.swp (i:=k) (j:=k+1) G G;cases u;refine⟨[],Kq,⟨by omega,by omega⟩,⟨by omega,by omega⟩,G,_,Dz (ld B w) (by show 0+((k:Int)+1).toNat*1=_;omega),G,_,Dz (ld B v) (by show 0+(k:Int).toNat*1=_;omega),G,_,Jp u1 (by show 0+(k:Int).toNat*1=_;omega),G,_,Jp u2 (by show 0+((k:Int)+1).toNat*1=_;omega),?_⟩;exact⟨⟨by omega,by omega⟩,_,_,Sq,(by omega:i-(k+1)<i-k),_,B,G,B,s'⟩
   refine⟨⟨by omega,by omega⟩,Bz (λC=>?_) (λC=>?_)⟩
   .have C:b=m+1:=G
    refine⟨λf F H=>∃i j:Nat,F=[(0,.slice A n c),(2,Vi m),(4,.func (.func g) first cap),(14,Vi i),(15,Vi j)]/\(a<=i/\i<=j/\j<=m)/\f=j-i/\JS h N n c A xs H,
     ⟨_,_,Sq,(by omega:m-a<L),_,_,B,G,B,X⟩,?_⟩
    rintro f F H ⟨i,j,rfl,U,rfl,s⟩ aa;have q:=Ajm i j;obtain⟨k,hk⟩:∃k,k=(i+j)/2:=⟨_,B⟩;refine Bz (λC=>?_) (λC=>?_)
    .obtain⟨b0,x,u,v,R⟩:=s.get (i:=m) G
     cases u;obtain⟨_,y,T,w,V⟩:=s.get (i:=k) G;cases T;refine⟨⟨by omega,by omega⟩,_,.inl ⟨⟨by omega,by omega⟩,B⟩,by decide,_,.inl ⟨⟨by omega,by omega⟩,B⟩,[],Kq,G,_,Dz (ld B v) (by show 0+(m:Int).toNat*1=_;omega),G,_,Dz (ld B w) (by show 0+(DN .u64 ((i:Int)+j) 1).toNat*1=_;omega),_,Q x R y V _ (s.1.trans ((AA.ad H).ae _)) d G,?_⟩;rintro _ h3 ⟨E,z,rfl⟩;have K:=s.ext E.aa;refine⟨E.ag,_,_,B,Ad (λt=>?_) (λt=>?_)⟩
     .exact⟨⟨by omega,by omega⟩,_,_,Sq,(by omega:j-(k+1)<j-i),_,_,B,G,B,K⟩
     .exact⟨_,_,Sq,(by omega:k-i<j-i),_,_,B,G,B,K⟩
    refine⟨λf F H=>∃k:Nat,F=[(0,.slice A n c),(14,Vi i),(17,Vi k)]/\k<=m/\f=k-i/\JS h N n c A xs H,
     ⟨_,_,Sq,(by omega:m-i<L),_,B,Ae _,B,s⟩,?_⟩
    rintro f F H ⟨k,rfl,hk,rfl,s⟩ aa;refine Bz (λt=>?_) (λt=>s);obtain⟨_,x',y',h1,h2,u,v,w,u1,u2,s'⟩:=s.swp (i:=k) (j:=k-1) G G;cases u;refine⟨[],Kq,⟨by omega,by omega⟩,⟨by omega,by omega⟩,G,_,Dz (ld B w) (by show 0+((k:Int)-1).toNat*1=_;omega),G,_,Dz (ld B v) (by show 0+(k:Int).toNat*1=_;omega),G,_,Jp u1 (by show 0+(k:Int).toNat*1=_;omega),G,_,Jp u2 (by show 0+((k:Int)-1).toNat*1=_;omega),?_⟩;exact⟨⟨by omega,by omega⟩,_,_,Sq,(by omega:k-1-i<k-i),_,B,G,B,s'⟩
   have q:=Ajm a b;refine⟨⟨by omega,by omega⟩,_,.inl ⟨⟨by omega,by omega⟩,B⟩,by decide,_,.inl ⟨⟨by omega,by omega⟩,B⟩,⟨by omega,by omega⟩,Bz (λt=>?_) (λt=>?_)⟩
   .exact⟨⟨by omega,by omega⟩,_,CG (l:=[(0,_),(1,_),(2,_),(3,_),(4,_),(18,Vi (((a+b)/2:Nat):Int)),(19,Vi (((a+b)/2+m:Nat):Int)),(20,Vi (((a+b)/2+m-b:Nat):Int)),(21,Vi (((a+b)/2:Nat):Int))])
     ⟨B,B,B,B,B,Cs (λz=>I (Vi z)) q,Cs (λz=>I (Vi z)) G,Cs (λz=>I (Vi z)) G,Cs (λz=>I (Vi z)) q,trivial⟩,_,_,_,B,B,G,G,G,G,G,G,X⟩
   .exact⟨_,CG (l:=[(0,_),(1,_),(2,_),(3,_),(4,_),(18,Vi (((a+b)/2:Nat):Int)),(19,Vi (((a+b)/2+m:Nat):Int)),(20,Vi (a:Int)),(21,Vi (m:Int))])
     ⟨B,B,B,B,B,Cs (λz=>I (Vi z)) q,Cs (λz=>I (Vi z)) G,B,B,trivial⟩,_,_,_,B,B,G,G,G,G,G,G,X⟩
  .rintro _ H ⟨M,st,r,rfl,hm,O,P,k3,k4,k5,k6,s⟩
   refine⟨⟨by omega,by omega⟩,λf F H=>∃i j:Nat,F=[(0,.slice A n c),(1,Vi a),(2,Vi m),(3,Vi b),(4,.func (.func g) first cap),(18,Vi M),(19,Vi ((M+m:Nat):Int)),(20,Vi i),(21,Vi j),(22,Vi ((M+m-1:Nat):Int))]/\(st<=i/\i<=j/\j<=r)/\f=j-i/\JS h N n c A xs H,
    ⟨_,_,Sq,(by omega:r-st<L),_,_,B,G,B,s⟩,?_⟩
   rintro f F H ⟨i,j,rfl,U,rfl,s⟩ aa;have q:=Ajm i j;obtain⟨k,hk⟩:∃k,k=(i+j)/2:=⟨_,B⟩;refine Bz (λC=>?_) (λC=>?_)
   .obtain⟨b0,x,u,v,R⟩:=s.get (i:=M+m-1-k) G
    cases u;obtain⟨_,y,T,w,V⟩:=s.get (i:=k) G;cases T;refine⟨⟨by omega,by omega⟩,_,.inl ⟨⟨by omega,by omega⟩,B⟩,by decide,_,.inl ⟨⟨by omega,by omega⟩,B⟩,[],Kq,⟨by omega,by omega⟩,G,_,Dz (ld B v) (by show 0+(((M+m-1:Nat):Int)-DN .u64 ((i:Int)+j) 1).toNat*1=_;omega),G,_,Dz (ld B w) (by show 0+(DN .u64 ((i:Int)+j) 1).toNat*1=_;omega),_,Q x R y V _ (s.1.trans ((AA.ad H).ae _)) d G,?_⟩;rintro _ h3 ⟨E,z,rfl⟩;have K:=s.ext E.aa;refine⟨E.ag,_,_,B,Ad (λt=>?_) (λt=>?_)⟩
    .exact⟨⟨by omega,by omega⟩,_,_,Sq,(by omega:j-(k+1)<j-i),_,_,B,G,B,K⟩
    .exact⟨_,_,Sq,(by omega:k-i<j-i),_,_,B,G,B,K⟩
   refine⟨⟨by omega,by omega⟩,Bz (λO=>Bz (λP=>⟨_,s.call (λys o' _ _=>AEd (b:=M+m-i) ab o' hn G G G B B G) d G,?_⟩) (λP=>?_)) (λO=>?_)⟩
   all_goals
    try rintro _ _ s
    refine Bz (λO=>Bz (λP=>⟨_,s.call (λys o' p c'=>ih o' G G G G (Q.on p c') B B B) d G,?_⟩) (λP=>?_)) (λO=>?_)
    all_goals
     try rintro _ _ s
     refine Bz (λO=>Bz (λP=>⟨_,s.call (λys o' p c'=>ih (m':=M+m-i) o' G G G G (Q.on p c') B G B) d G,?_⟩) (λP=>?_)) (λO=>?_)
     all_goals
      first
       |exact s
       |(rintro _ _ s;exact s)
def Aqs (d:Base S L) {g:Nat} {first cap:Array Aa} (i:n<=1000000):∀(f:Nat) {a m b:Nat} {p q r:Int} {h:Y} {xs:Bo},AS h N 3 1 (.slice A n c) n (Bn xs)->a<m->m<b->b<=n->b-a<=2^(f+1)->U0 S L e g first cap h (BY (.slice A n c)) xs->p=a->q=m->r=b->
 Bk S L (e+2+f+1) 250 [.slice A n c,Vi p,Vi q,Vi r,.func (.func g) first cap] h λ_ J=>JS h N n c A xs J
 |0,a,m,b,_,_,_,h,xs,o,h1,j,k,s,l,rfl,rfl,rfl=>Aor d o i h1 j k l G G λ{a' m' w} _ _ _ _ _ o t u v x=>G
 |f+1,a,m,b,_,_,_,h,xs,o,h1,j,k,s,l,rfl,rfl,rfl=>Aor d o i h1 j k l G G λ{a' m' w} _ _ _ _ _ o t u v x y z C D=>Aqs d i f o t u v (by rw[Nat.pow_succ] at s;omega) y z C D
def ACh (j:Base S L) {g:Nat} {xs:Bo} {first cap:Array Aa} (o:AS h N 3 1 (.slice A n c) n (Bn xs)) (u:n<=1000000) (v:U0 S L e g first cap h (BY (.slice A n c)) xs):
 Bk S L (e+23) 179 [.slice A n c,Vi n,.func (.func g) first cap] h λ_ J=>JS h N n c A xs J:=
 Fm (fn:=f179) j Kq B λd R=>by
  have T:=j.aI;have x:∀{k:Nat},k<=n->k<=2^(19+1):=λh=>by have:2^(19+1)=1048576:=rfl;omega
  refine⟨Dc B,λf F H=>∃a:Nat,F=[(0,.slice A n c),(1,Vi n),(2,.func (.func g) first cap),(6,Vi 20),(7,Vi a),(8,Vi ((a+20:Nat):Int))]/\a<=n/\f=n-a/\JS h N n c A xs H,
   ⟨_,_,Sq,(by omega:n-0<L),_,B,Al _,B,.refl o⟩,?_⟩
  rintro f F H ⟨a,rfl,w,rfl,s⟩ y;refine Bz (λD=>?_) (λD=>?_)
  .refine⟨_,s.call (λys o' p i=>Aun j o' u w G (v.on p i) B B) d G,?_⟩
   rintro _ r b;exact⟨⟨by omega,by omega⟩,_,_,Sq,(by omega:n-(a+20)<n-a),_,B,G,B,b⟩
  refine⟨_,s.call (λys o' p i=>Aun j o' u w G (v.on p i) B B) d G,?_⟩;rintro _ r b;refine⟨λf F H=>∃q:Nat,F=[(0,.slice A n c),(1,Vi n),(2,.func (.func g) first cap),(6,Vi q)]/\0<q/\f=n-q/\JS h N n c A xs H,
   ⟨_,_,Sq,(by omega:n-20<L),_,B,by decide,B,b⟩,?_⟩
  rintro f F H ⟨q,rfl,V,rfl,s⟩ y;refine Bz (λE=>?_) (λE=>s);refine⟨⟨by omega,by omega⟩,λf F H=>∃a:Nat,F=[(0,.slice A n c),(1,Vi n),(2,.func (.func g) first cap),(6,Vi q),(7,Vi a),(8,Vi ((a+2*q:Nat):Int))]/\a<=n/\f=n-a/\JS h N n c A xs H,
   ⟨_,_,Sq,(by omega:n-0<L),_,B,Al _,B,s⟩,?_⟩
  rintro f F H ⟨a,rfl,w,rfl,s⟩ y;refine Bz (λK=>?_) (λK=>?_)
  .refine⟨⟨by omega,by omega⟩,_,s.call (λys o' p i=>Aqs (m:=a+q) j u 19 o' G G G (x G) (v.on p i) B G B) d G,?_⟩
   rintro _ r b;exact⟨⟨by omega,by omega⟩,⟨by omega,by omega⟩,_,_,Sq,(by omega:n-(a+2*q)<n-a),_,B,G,B,b⟩
  have nx:∀{t:As} {r:Y},JS h N n c A xs r->look t 0=I (.slice A n c)->look t 1=I (Vi n)->look t 2=I (.func (.func g) first cap)->look t 6=I (Vi ((q:Int)*2))->
   ∃m' C,Sub C t/\m'<n-q/\∃q:Nat,C=[(0,.slice A n c),(1,Vi n),(2,.func (.func g) first cap),(6,Vi q)]/\0<q/\m'=n-q/\JS h N n c A xs r:=λb M O P k6=>
   ⟨_,_,CG (l:=[(0,_),(1,_),(2,_),(6,Vi ((q*2:Nat):Int))]) ⟨M,O,P,k6.trans (Cs (λz=>I (Vi z)) (by omega)),trivial⟩,(by omega:n-q*2<n-q),_,B,G,B,b⟩
  refine⟨⟨by omega,by omega⟩,Bz (λQ=>?_) (λQ=>⟨⟨by omega,by omega⟩,nx s B B B B⟩)⟩;refine⟨_,s.call (λys o' p i=>Aqs (m:=a+q) j u 19 o' G G G (x G) (v.on p i) B G B) d G,?_⟩;rintro _ r b;exact⟨⟨by omega,by omega⟩,nx b B B B B⟩
def c96 (a:Base S L) {xs:Bo} (o:AS h N 3 1 v n (Bn xs)) (b:n<=1000000) (f:Agl S L d fv h (BY v) xs):Bk S L (d+26) 96 [v,fv] h λw J=>B0 (BY v) h J/\∃xs',xs'.Perm xs/\AS J N 3 1 v n (Bn xs'):=
 Fm (fn:=f96) a Kq B λd j=>by
  obtain⟨g,first,cap,rfl,i⟩:=f
  obtain⟨A,n',c,rfl⟩:=o.aX;obtain rfl:n'=n:=by
   obtain⟨_,⟨e,rfl⟩|⟨_,_,_,e,_⟩⟩:=o<;>cases e<;>rfl
  refine⟨Dc B,_,ACh a o b i d G,?_⟩;rintro _ J s;exact s
def H6 (zs:List Bl):List Bl:=zs.mergeSort λx y=>decide (x<=y)
def UZ (z:Bl):Value:=.string ⟨⟨z⟩⟩
open Classical in
def Oz (_:Be) (args:AH) (h:Y):Jl:=match args with
 |[.slice _ 0 _]=>I (.tuple #[],h)
 |
  [.slice (I ⟨b,0,Z⟩) n _]=>(match h.t.get b with
  |some (.cells c m 9 0 0 x)=>if e:∃zs:List Bl,zs.length=n/\n<=m/\n<=1000000/\∀i z,zs[i]?=I z->c.get i=I (UZ z) then I (.tuple #[],h.put b (.cells (T.laid ((H6 (Classical.choose e)).map UZ) 0 c) m 9 0 0 x)) else Z
  |_=>Z)
 |_=>Z
section
variable{P:AN} {τ:Bb}
open Go.Sort Go.Shelf
def Aii (T:BM P τ) {q:Go.Shelf.Ren} (L:Lays.n190 P q) (s:EV τ (q.f 190)=Ag) {ah:Be}
 {R:AH} {ρ:Go.Ev.Ren} {w:AM} (t:C5 P τ ρ h w) (r:LR ρ args R) (a:Oz ah args h=I (v,J)) (k kp:Aa->Y->RR) (A:List EO) (S:k v J=I A):
 Hk P (callFunc (q.f 190) ⟨R⟩) w (Ho P τ ρ w h k kp A):=by
 have V:∀x w,(callFunc (q.f 190) ⟨[x]⟩).run P w=.ok (.enter (q.f 190) ⟨[x]⟩) w:=λx w=>by
  unfold EV at s;split at s
  case h_2=>cases s
  rename_i fn W;obtain⟨cd,ai⟩:=Option.isSome_iff_exists.1 s;exact MuLone.run_callFunc_enter (T.fn _ _ W).1 ((T.fn _ _ W).2 s) ai _ w
 unfold Oz at a;split at a
 case h_3=>cases a
 case h_1=>
  cases a;cases r with|cons g r=>
  cases r;have Da:∀K M,Hk P (callFunc (q.f 190) ⟨[.slice K 0 M]⟩) w (Ho P τ ρ w h k kp A):=λK M=>by
   unfold Hk;rw[V];refine callsIn_wide.2 (Calls.mono (calls_of_every_depth λD=>AnyS.slices_Sort_string_none_alone L D K M w) λen w' N=>?_);obtain⟨rfl,rfl⟩:=N;exact⟨ρ,_,_,A,.tuple .nil,t,RF.refl t,S,λ_ g=>g⟩
  cases g with
  |az l c=>exact Da _ _
  |slice F X=>exact Da _ _
 rename_i b n cap al;split at a
 case h_2=>cases a
 rename_i c m x eH;split at a
 case isFalse=>cases a
 rename_i e;cases a;obtain⟨O,z2,z3,z4⟩:=Classical.choose_spec e;generalize Classical.choose e=zs at*;cases r with|cons g r=>
 cases r;cases g with|@slice _ _ _ _ _ pl o' F X=>
 have hn:0<n:=by
  rcases KQ n with rfl|h
  .exact(al B).elim
  .exact h
 have ho:o'=pl.o:=by have:=X G;omega
 subst ho;obtain⟨C,H,b1,b2,b3,b4,b5,b6⟩:=t.1.hr _ _ _ F eH;have am:H.1=H.2:=by
  rcases b5 with h|⟨h,_⟩|⟨h1,h2,h3⟩
  .exact h
  .cases h
  .omega
 have an:∀j,j<n->C[pl.o+j]?=I (UZ zs[j]!):=λj p=>by
  have E:zs[j]?=I zs[j]!:=by rw[UJ,Ab G];rfl
  obtain⟨_,v',d1,d2⟩:=b4 _ _ (z4 j _ E);cases d2;exact d1
 have hH:Holds encStr w pl.b pl.o zs.toArray:=λj p=>by
  have p:j<n:=by simpa[O] using p
  refine⟨?_,?_⟩
  .unfold WX
   simp only[b1];rw[an j p,ZE];rfl
  .unfold World.frozen?
   simp only[b1];simp[Bool.and_eq_false_imp,decide_eq_true_eq,decide_eq_false_iff_not];omega
 have aa:=calls_of_every_depth λD=>AnyS.slices_Sort_string_alone L D pl.b pl.o (cap+Hl Z pl) zs w hH (t.1.aC _ pl F) G;rw[O] at aa;unfold Hk;rw[V];refine callsIn_wide.2 (Calls.mono aa λen w' N=>?_);obtain⟨rfl,dn,os,rfl⟩:=N
 let d:World:=putRow encStr (Go.Sort.ahead w dn) pl.b pl.o (H6 zs).toArray
 have ab:d.heap.size=w.heap.size:=by
  rw[Go.Sort.size_putRow];rfl
 have ao:∀b,b≠pl.b->d.heap[b]?=w.heap[b]?:=λb hb=>by
  show(w.heap.modify pl.b _)[b]?=_;rw[B3,Bm (Ne.symm hb)]
 have ap:d.heap[pl.b]?=I (.cells (putCells encStr pl.o (H6 zs).toArray C) 9 H):=by
  show(w.heap.modify pl.b _)[pl.b]?=_;rw[B3,Bi B,b1];rfl
 have ad:(H6 zs).length=n:=by unfold H6;rw[ZF,O]
 have Q:(putCells encStr pl.o (H6 zs).toArray C).size=C.size:=by simp[putCells]
 have ae:∀j,(putCells encStr pl.o (H6 zs).toArray C)[j]?=if pl.o<=j/\j<pl.o+n then I (UZ (H6 zs)[j-pl.o]!) else C[j]?:=λj=>by
  unfold putCells;rw[Acj,List.size_toArray,ad];by_cases h:pl.o<=j/\j<pl.o+n
  .rw[Bi h,By G,Ek,Bi h,ZE];rfl
  .rw[Bm h]
   cases C[j]? with
   |none=>rfl
   |some y=>rw[Ek,Bm h]
 have aq:BR P ρ pl d (.cells (Ev.T.laid ((H6 zs).map UZ) 0 c) m 9 0 0 x):=by
  refine⟨_,H,ap,by rw[Q];exact b2,λi U=>by rw[Q];exact b3 i U,λi u a=>?_,.inl am,λg=>by rw[Q];exact b6 g⟩;rw[Ev.T.an,A4,ad] at a;by_cases p:0<=i/\i<0+n
  .rw[Bi p] at a
   rw[DL,AX] at a;cases E:(H6 zs)[i]? with
   |none=>rw[E] at a;cases a
   |
    some z=>
    rw[E] at a;cases a;refine⟨G,UZ z,?_,.ak B⟩;rw[ae,Bi G,Ds,UJ,E];rfl
  .rw[Bm p] at a
   rw[ae,Bm G];exact b4 i u a
 obtain⟨k1,o⟩:=t.write (hdr:=GW _ _) F eH B ab ao aq B B B;have af:∀b,b<d.heap.size->(grow d os).heap[b]?=d.heap[b]?:=λb hb=>by
  show(d.heap++os)[b]?=_;rw[KP hb]
 have ag:d.heap.size<=(grow d os).heap.size:=by rw[size_grow];omega
 exact⟨ρ,_,_,A,.tuple .nil,k1.grow ag af,⟨⟨o.ext,Ao o.size ag,λb hb hh=>(af b (by rw[ab];exact hb)).trans (o.ae b hb hh),o.new,o.nx,o.os,o.out,o.tape,o.drawn⟩,AF.put _ _ _⟩,S,λ_ g=>g⟩
end
def Azm (p:S.ov 173=I Oz) (o:AS h N 9 1 v n (AR ss)) (q:n<=1000000):
 Bk S L 10 173 [v] h λw J=>B0 (BY v) h J/\∃d,d.Perm ss/\AS J N 9 1 v n (AR d):=by
 have D:Bk S L 1 173 [v] h λw J=>B0 (BY v) h J/\∃d,d.Perm ss/\AS J N 9 1 v n (AR d):=by
  rcases KQ n with rfl|h0
  .obtain⟨A,n',c,rfl⟩:=o.aX
   obtain rfl:n'=0:=by
    obtain⟨_,⟨e,_⟩|⟨_,_,_,e,_⟩⟩:=o<;>cases e<;>rfl
   exact Lm p (λ_=>rfl) ⟨(AA.refl h).ae _,ss,.refl _,o⟩
  obtain⟨k,rfl⟩:∃k,n=k+1:=⟨n-1,G⟩;obtain⟨E,⟨_,e⟩|⟨b,r,sp,rfl,F,H,W,hb,c,x,K,l⟩⟩:=o
  .cases e
  have u:ss.length=k+1:=by rw[←BJ (k+1),←E];simp[AR]
  have e:∃zs:List Bl,zs.length=k+1/\k+1<=(AR ss++sp).length/\k+1<=1000000/\∀i z,zs[i]?=I z->c.get i=I (UZ z):=
   ⟨ss.map λs=>s.data.toList,Jq,G,q,λi z f=>by
    rw[AX] at f;cases g:ss[i]? with
    |none=>rw[g] at f;cases f
    |
     some s=>
     rw[g] at f;cases f;exact l i _ (by rw[AB (by have:=(List.getElem?_eq_some_iff.1 g).1;simp[AR];exact this)];unfold AR;rw[AX,g];rfl)⟩
  obtain⟨M,X,z3,O⟩:=Classical.choose_spec e;have P:∀y,Oz y [sL b (k+1) r] h=I (.tuple #[],h.put b (.cells (T.laid ((H6 (Classical.choose e)).map UZ) 0 c) (AR ss++sp).length 9 0 0 x)):=λy=>by
   show(match h.t.get b with|some (.cells c m 9 0 0 x)=>_|_=>Z)=_
   rw[K];exact dif_pos e
  generalize Classical.choose e=zs at*;refine Lm p P ?_;have j:(H6 zs).length=k+1:=by unfold H6;rw[ZF,M]
  have Q:ss=zs.map λz=>⟨⟨z⟩⟩:=by
   apply List.ext_getElem?;intro i;rw[AX];by_cases U:i<k+1
   .rw[Ab G,Ab G]
    have C:=l i (.string ss[i]) (by rw[AB (by simp[AR];omega)];unfold AR;rw[AX,Ab G];rfl);rw[(O i _ (Ab G))] at C;have R:=Option.some.inj C;rw[Ek];exact Cs I (Value.string.inj R).symm
   .rw[CD G,CD G];rfl
  have V:(AR ((H6 zs).map λz=>(⟨⟨z⟩⟩:Bd))++sp).length=(AR ss++sp).length:=by
   rw[Aj,Aj];simp[AR,j,u]
  refine⟨(Er.put _ _ _).ae,(H6 zs).map λz=>⟨⟨z⟩⟩,?_,by simp[AR,j],.inr ⟨b,r,sp,B,F,H,Jq,Jq,_,x,by rw[BQ,Bi B,V],λi v a=>?_⟩⟩
  .rw[Q]
   exact(List.mergeSort_perm zs _).map _
  .rw[T.an,A4,j]
   by_cases U:i<k+1
   .rw[Bi G,DL]
    rw[AB Jq] at a;unfold AR at a;rw[O5] at a;exact a
   .rw[Bm G]
    refine l i v ?_;rw[Bq Jq] at a⊢;simp[AR,A4,j,u] at a⊢;exact a
 exact λn q=>D n G
def aIr (r m ck:Nat) (sn:List Ap):Ct:={
 am:=λi=>i=r
 holds:=λh=>r<h.nx/\∃a,h.t.get r=I (.ay (I m) ck (sn.map (·.born)) a)/\(sn≠[]->a=ck)
 aH:=λc b o=>⟨AC o.1 c.nx,by rw[c.t r o.1 (b r B)];exact o.2⟩
 lt:=λo i U=>by rw[U];exact o.1
 bk:=λo=>⟨by rw[CL];exact o.1,by rw[DF];exact o.2⟩}
section
variable{h0 h:Y} {l:List Ct} {i r m ck:Nat} {es sn:List Ap}
def Sep.cZ (s:Sep h0 h l) (U:l[i]?=I (aIr r m ck sn)) (a:m<h0.nx) (b:h0.t.get m=I (.map es ck)) (c:Fc ck 0 es=Ag) (d:∀e∈sn,e∈es) (f:sn.Nodup):It h r m es sn:=by
 obtain⟨⟨a1,g,j,k⟩,_⟩:=s.2.1 i _ U;exact⟨a1,⟨AC a s.e.nx,ck,g,(s.e.t m a).trans b,c,j,k⟩,d,f⟩
def Sep.c7 (s:Sep h0 h l) (U:l[i]?=I (aIr r m ck sn)) (b:m<h0.nx) (c:h0.t.get m=I (.map es ck)) (f:Fc ck 0 es=Ag) (g:∀e∈sn,e∈es) (j:sn.Nodup) {k:Aa->Y->Prop} (h1:(∀e∈es,e∈sn)->k (.tuple #[.bool Ah]) h)
 (n:∀e,e∈es->(sn++[e]).Nodup->∀J,Sep h0 J (l.set i (aIr r m ck (sn++[e])))->k (.tuple #[.bool Ag,e.key,e.val]) J):∃x l,FT (AG r 0) Ah h=I (x::l)/\∀u J,(u,J)∈x::l->k u J:=
 Aon (s.cZ U b c f g j) h1 λe o z J u p=>by
  obtain⟨b1,⟨A,C,q,d,D,v,w⟩,_,y⟩:=p;have E:=(s.2.1 i _ U).2 r B;rw[u.t m G,s.e.t m b,c] at d;cases d;exact n e o y J (s.ah U (u.ae.mono λx a=>a) ⟨b1,q,v,w⟩ λx a=>.inl a)
end
def pV (k:Int×Int):Value:=C9 k.1 k.2
def Auf {a b:Int×Int} (h:pV a=pV b):a=b:=by
 injection h with h;injection h with h;injection h with h1 c;injection c with c _;injection h1 with _ h1;injection c with _ c;exact Prod.ext h1 c
def Afs:∀{a b:List (Int×Int)},a.map pV=b.map pV->a=b
 |[],[],_=>rfl
 |[],_::_,h=>by cases h
 |_::_,[],h=>by cases h
 |
  x::a,y::b,h=>by
  simp[Bp,List.cons.injEq] at h;rw[Auf h.1,Afs h.2]
def Akt {a b:List (Int×Int)} (h:(a.map pV).Perm (b.map pV)):a.Perm b:=by
 have Cw:∀{x:AH},x.Perm (b.map pV)->∃c:List (Int×Int),x=c.map pV/\c.Perm b:=by
  intro x d;exact HH pV d
 obtain⟨c,h1,e⟩:=Cw h;rw[Afs h1];exact e
def ACm (K:Base S L) {h0 h:Y} {r w dy:Nat} {l:GX} (hb:Cell h0 b 0 (.map (I r))) (M:HE h0 r l) (hl:l.length<=1000000) (g:List (Int×Int)->List Ct->Prop) {y:List Ct} (p0:g [] y) (j:Sep h0 h y)
 (hy:∀(c:List (Int×Int)) (k:Int×Int) (A R:List Ct) (m:Y),g c A->c.length<l.length->Sep h0 m (A++R)->ZP S L dy (.yield w) [.agg ⟨E4 k⟩] m λu J=>u=.bool Ag/\∃o,g (c++[k]) o/\Sep h0 J (o++R)):
 PE S L (dy+1) 318 [.func (.yield w) #[] #[],AG b 0] h λ_ J=>∃c A,g c A/\c.Perm (l.map Eh)/\Sep h0 J A:=
 GU (fn:=f318) K Kq B λd ak=>by
  have hL:=K.aI;obtain⟨f,es,ck,n,C,p,m4⟩:=M;have al:es.length=l.length:=by have:=Cs HD C;simpa using this
  obtain⟨h1,y1,N,i1,_⟩:=It.new (τ:=Ax) (t:=294) (kt:=298) (et:=3) Kq (AC f j.e.nx) ((j.e.t r f).trans n) p;have s1:=j.add (a:=aIr h.nx r ck []) N (by
   obtain⟨a1,⟨_,am,af,O,_,a5,a6⟩,_⟩:=i1;rw[N.t r Jq,j.e.t r f,n] at O;cases O;exact⟨a1,af,a5,a6⟩) λi U=>A2 U.symm
  refine⟨Dc B,_,ld B (hb.ext j.e),_,_,y1,λP F Q m=>∃(sn:List Ap) (c:List (Int×Int)) (A:List Ct),F=[(0,.func (.yield w) #[] #[]),(5,AG h.nx 0)]/\Q=[]/\P=es.length-sn.length/\g c A/\sn.map (·.key)=c.map pV/\(∀e∈sn,e∈es)/\sn.Nodup/\Sep h0 m (aIr h.nx r ck sn::A),
   ⟨_,_,Sq,G,[],[],y,B,B,B,p0,B,(λe D=>by cases D),Jg,s1⟩,?_⟩
  rintro P F Q m ⟨sn,c,A,rfl,rfl,rfl,T,E,V,W,s⟩ an;refine s.c7 (i:=0) B f n p V W (λag=>?_) (λe D X h2 s2=>?_)
  .have hp:=(s.cZ (i:=0) B f n p V W).all ag
   have ek:es.map (·.key)=(l.map Eh).map pV:=by
    have:=Cs (List.map Eh) C;rw[O5,O5] at this;rw[O5];exact this
   exact⟨c,A,T,Akt (by rw[←E,←ek];exact hp.map _),s.drop 1⟩
  .obtain⟨q,hq,ah⟩:=List.mem_map.1 (show(e.key,e.val)∈l.map _ from C▸Gn D)
   have aa:e.key=.agg ⟨E4 q.1⟩:=(Cs Eh ah).symm;have ab:∀x∈sn++[e],x∈es:=λx hx=>Gq;have ad:=s2.cZ (i:=0) B f n p ab X;have ai:=ad.len;rw[Aj,Br] at ai;have ae:=QO ad;have ao:c.length=sn.length:=by have:=Cs HD E;simpa using this.symm
   rw[aa] at ae⊢;obtain⟨g3,y3,H,y4,s4⟩:=(s2:Sep h0 h2 (aIr h.nx r ck (sn++[e])::A)).var (t:=298) (z:=.agg ⟨[Vi 0,Vi 0]⟩) Kq (v:=.agg ⟨E4 q.1⟩) B B B;refine⟨_,_,Cs (CN _) ae,_,_,y3 _,_,y4,_,EQ Kq ((s4.dD (i:=0) B).cells:BK H h2.nx 0 (E4 q.1)) B,_,(hy c q.1 A _ H T G ((s4.drop 1).perm (Gm _ _).symm:Sep h0 H (A++[aIr h.nx r ck (sn++[e])])) d G).any,?_⟩;rintro _ h5 ⟨rfl,o,aj,s6⟩;exact⟨_,_,B,_,_,Sq,(by rw[Aj,Br];omega:es.length-(sn++[e]).length<_),sn++[e],c++[q.1],o,B,B,B,aj,by rw[BS,BS,E,Ajh,Ajh,aa];rfl,ab,X,s6.perm (Gm _ _)⟩
def Hq (a:List (Int×Int)):AH:=a.flatMap E4
def AAx (K:Base S L) {h:Y} {r:Nat} {l:GX} (hb:Cell h b 0 (.map (I r))) (M:HE h r l) (X:l.length<=1000000):
 PE S L 8 347 [.slice Z 0 0,.func (.func 318) #[] #[AG b 0]] h λw J=>AA h J/\∃c:List (Int×Int),c.Perm (l.map Eh)/\AS J h.nx 298 2 w c.length (Hq c)/\(c=[]->w=.slice Z 0 0):=
 GU (fn:=f347) K Kq B λd ad=>by
  obtain⟨g,y1,s1⟩:=(Sep.nil h).box Ax 292 (.slice Z 0 0);have s3:=(s1:Sep h g [aO h.nx 292 [.slice Z 0 0]]).add (a:=aS h.nx 298 2 (.slice Z 0 0) 0 []) (AA.refl _) (AS.nil _ _ _ _) (λi U=>U.elim);refine⟨Dc B,_,_,y1,XI (τ:=Ax) (f:=318) (fn:=f318) Kq B,T3 λp aa=>?_⟩;have s4:=s3.add (a:=aB g.nx (.aq Ah)) (AA.new g (.aq Ah)) ⟨by rw[Ck];omega,by rw[CK,Bi B]⟩ (λi U=>A2 U.symm);have s5:=s4.add (a:=aB (A3 g.nx) (p .ready Z)) (AA.new _ (p .ready Z)) ⟨by rw[Ck,Ck];omega,by rw[CK,Ck,Bi B]⟩ (λi U=>by rw[Ck];exact A2 U.symm)
  let E:List (Int×Int)->List Ct->Prop:=λc A=>∃cv:Aa,A=[aB (A3 g.nx) (p .ready Z),aB g.nx (.aq Ah),aS h.nx 298 2 cv c.length (Hq c),aO h.nx 292 [cv]]/\(c=[]->cv=.slice Z 0 0)
  have hy:∀(c:List (Int×Int)) (k:Int×Int) (A R:List Ct) (q:Y),E c A->c.length<l.length->Sep h q (A++R)->ZP S L 1 (.yield (A3 g.nx)) [.agg ⟨E4 k⟩] q λu J=>u=.bool Ag/\∃N,E (c++[k]) N/\Sep h J (N++R):=by
   rintro c k _ R q ⟨cv,rfl,_⟩ hk s n ae;obtain⟨m,rfl⟩:∃m,n=m+1:=⟨n-1,G⟩;refine aa m [(2,AG h.nx 0)] _ q _ (Sq) (s.a7 (i:=0) B) ?_;obtain⟨g7,y7,y,y8,o⟩:=s.var (t:=298) (z:=.agg ⟨[Vi 0,Vi 0]⟩) Kq (v:=.agg ⟨E4 k⟩) B B B;refine⟨_,_,y7 _,_,y8,o.a7 (i:=1) B,?_⟩;have o:=o.ah (i:=1) (a':=aB (A3 g.nx) (p .busy Z)) B (Er.put y (A3 g.nx) (p .busy Z)).ae ⟨by rw[Cc];exact(o.2.1 1 _ B).1.1,by rw[BQ,Bi B]⟩ (λx C=>.inl C);generalize y.put (A3 g.nx) (p .busy Z)=y at o⊢;obtain⟨O,h9,t9,P⟩:=o.ba (e:=298) (k:=2) Kq (i:=3) B (ys:=E4 k) B B o.e.nx G (n':=(c++[k]).length) (xs':=Hq (c++[k])) (by simp) (by simp[Hq]);obtain⟨af,t10,F⟩:=P.st (t:=292) B (i:=4) B (j:=0) (v:=O) (by show 0<1;decide) (D5 (P.sl (i:=3) B));have ab:=F.ah (i:=1) (a':=aB (A3 g.nx) (p .ready Z)) B (Er.put _ (A3 g.nx) (p .ready Z)).ae ⟨by rw[Cc];exact(F.2.1 1 _ B).1.1,by rw[BQ,Bi B]⟩ (λx C=>.inl C);exact⟨_,ld B ((o.dD (i:=4) B).cell B:Cell y h.nx 0 cv),_,EQ (k:=2) Kq ((o.dD (i:=0) B).cells:BK y q.nx 0 (E4 k)) B,_,_,Iv (τ:=Ax) (t:=292) (e:=298) (k:=2) Kq (.agg ⟨E4 k⟩) B B (by decide) _,_,_,t9,_,t10,.busy,Z,F.a7 (i:=1) B,B,_,⟨O,B,λh=>Cf h (by simp)⟩,ab.drop 1⟩
  refine⟨_,ACm K hb M X E (dy:=1) ⟨_,B,λ_=>rfl⟩ s5 hy d G,?_⟩;rintro u Q ⟨c,_,⟨cv,rfl,hz⟩,hp,H⟩;refine⟨.ready,Z,H.a7 (i:=0) B,Jq,?_⟩;have T:=H.ah (i:=0) (a':=aB (A3 g.nx) (p .exhausted Z)) B (Er.put Q (A3 g.nx) (p .exhausted Z)).ae ⟨by rw[Cc];exact(H.2.1 0 _ B).1.1,by rw[BQ,Bi B]⟩ (λx C=>.inl C);generalize Q.put (A3 g.nx) (p .exhausted Z)=h7 at T⊢;have o:Sep h h7 ([aS h.nx 298 2 cv c.length (Hq c),aO h.nx 292 [cv]]++Oc [g.nx]):=
   ((T.drop 1).perm (l':=[aS h.nx 298 2 cv c.length (Hq c),aO h.nx 292 [cv]]++Oc [g.nx]) (Gm _ _).symm)
  refine⟨_,ld B ((o.dD (i:=1) B).cell (i:=0) B),?_⟩;obtain⟨n1,n2,n3,V⟩:=Sep.aq (l:=[aS h.nx 298 2 cv c.length (Hq c),aO h.nx 292 [cv]]) (D:=[g.nx]) o;exact JM _ n1 n2 λJ _ W=>⟨(V J W).e,c,hp,(V J W).sl (i:=0) B,hz⟩
def ADh (c:Base S L) {h:Y} {r:Nat} {l:GX} (hb:Cell h b 0 (.map (I r))) (M:HE h r l) (e:l.length<=1000000):
 PE S L 9 316 [.func (.func 318) #[] #[AG b 0]] h λw J=>AA h J/\∃a:List (Int×Int),a.Perm (l.map Eh)/\AS J h.nx 298 2 w a.length (Hq a)/\(a=[]->w=.slice Z 0 0):=
 GU (fn:=f316) c Kq B λd f=>by
  refine⟨Dc B,_,AAx c hb M e d G,?_⟩;rintro w J q;exact q
def Rb:∀a:List (Int×Int),Dv (Hq a) (Hq a)=Ag
 |[]=>rfl
 |
  k::a=>by
  show(HS (Vi k.1) (Vi k.1)&&(HS (Vi k.2) (Vi k.2)&&Dv (Hq a) (Hq a)))=Ag;rw[Rb a];show((Ag&&decide (k.1=k.1))&&((Ag&&decide (k.2=k.2))&&Ag))=Ag;simp
def Wb {d:Type} {c:d->d->Int} (C:Cm c) {l m:List d} (p:l.Perm m) (h:m.Pairwise λa b=>c a b≠0):H0 c l=H0 c m/\l.Pairwise λa b=>c a b≠0:=by
 have f:=(p.pairwise_iff (λ{a b} h e=>h (by have:=C.aQ a b;have:=C.aQ b a;omega))).2 h;exact⟨Alc C (((DO l).trans p).trans (DO m).symm) (PX C l f) (PX C m h),f⟩
def Ayn {a b:Int×Int} (h:UY a b=0):a=b:=by
 obtain⟨h1,h⟩:=Ob h;obtain⟨c,_⟩:=Ob h;exact Prod.ext (Mu h1) (Mu c)
def ABp (j:Base S L) (q:S.ov 252=Z) (s:S.nd 252=I 298) (t:S.hk 252=Z) (u:S.ov 317=I (IA Ax 298)) {h:Y} {r:Nat} {l:GX} (hb:Cell h b 0 (.map (I r))) (M:HE h r l) (v:l.length<=1000000):
 Bk S L 11 252 [.func (.func 318) #[] #[AG b 0],.func (.func 254) #[] #[]] h λw J=>AA h J/\∃f:List (Int×Int),Rd J w 2 f.length (f.flatMap E4)/\f.length=l.length/\∀k∈f,∃c,(k,c)∈l:=by
 obtain⟨_,es,ck,_,_,_,z⟩:=id M;have P:=DO (c:=UY) (l.map Eh);refine(Agc (fn:=f252) (k:=2) (xs:=H0 UY (l.map Eh)) Kq t q s Kq (λ_=>rfl) (λxs=>by cases xs with|nil=>rfl|cons x xs=>exact Rb (x::xs)) λd N=>?_).mono ?_
 .refine⟨Dc B,_,ADh j Jq Jq v d G,?_⟩
  rintro w h1 ⟨A,f,g,o,C⟩;obtain⟨m,D⟩:=Wb cmP g (List.pairwise_map.2 (z.imp λh e=>h (Ayn e)):(l.map Eh).Pairwise λa b=>UY a b≠0);refine⟨_,(QS cmP (k:=2) u Kq Kq (λ_=>⟨B,B⟩) o B (by have:=g.length_eq;rw[A4] at this;omega:f.length<=1000000) D (λx _ y _=>ACr j) d G).any,?_⟩;rintro _ E ⟨rfl,F,H⟩;have n:(H0 UY (l.map Eh)).length=f.length:=by rw[←m];exact(DO f).length_eq
  refine⟨(A.then H λi U=>o.ai i U:AA h.ad E).ag,Y7 (Cr:=E4) (λ_=>⟨B,B⟩) (by rw[n,←m];exact F) λh0=>C (BO (by rw[←n,h0];rfl))⟩
 .rintro w J ⟨x,o⟩
  refine⟨x,H0 UY (l.map Eh),o.rd,by rw[P.length_eq,A4],λk K=>?_⟩;obtain⟨p,g,rfl⟩:=List.mem_map.1 (P.subset K);exact⟨p.2,g⟩
section
variable{α:Type} {kt:Ai} {kv vv:α->Aa} {Q:α->α->Bool}
def Q0 {x y:α}:∀{l:List α},y∈KT Q x l->y=x\/y∈l
 |[],h=>.inl (List.mem_singleton.1 h)
 |
  z::l,h=>by
  rw[KT] at h;split at h
  .exact(List.mem_cons.1 h).imp_right Jq
  .rcases List.mem_cons.1 h with h|h
   .exact .inr Jq
   .exact(Q0 h).imp_right Jq
def VF (x:α):∀l:List α,(KT Q x l).length<=l.length+1
 |[]=>Ae _
 |z::l=>by rw[KT];split<;>simp[AO]<;>have:=VF x l<;>omega
def S9 (K:Acl kt kv Q) {x:α}:∀{l:List α},l.Pairwise (λa b=>kv a≠kv b)->(KT Q x l).Pairwise λa b=>kv a≠kv b
 |[],_=>List.pairwise_singleton _ _
 |
  z::l,h=>by
  obtain⟨h1,f⟩:=List.pairwise_cons.1 h;rw[KT];split
  .rename_i d
   exact List.pairwise_cons.2 ⟨λy c=>by rw[(K.iff _ _).1 d];exact h1 y c,f⟩
  .rename_i d
   refine List.pairwise_cons.2 ⟨λy c=>?_,S9 K f⟩;rcases Q0 c with rfl|c
   .exact λe=>d ((K.iff _ _).2 e.symm)
   .exact h1 y c
end
def HZ (e:CI):Value:=.agg ⟨BV {e with c:=0}⟩
def Mx (e:CI):Value:=.int .i64 e.c
def N9 (a b:CI):Bool:=Gp a.rd.data.toList b.rd.data.toList&&(Gp a.tx.data.toList b.tx.data.toList&&(a.l==b.l&&(a.r==b.r&&Ag)))
def Apw:Acl 114 HZ N9:=by
 refine⟨λa b=>?_,λa b=>?_,λa=>?_,λa=>rfl⟩
 .have e:IZ Ax Op.maxDepth 114 (HZ a) (HZ b)=bm (Gp a.rd.data.toList b.rd.data.toList) (bm (Gp a.tx.data.toList b.tx.data.toList) (bm (a.l==b.l) (bm (a.r==b.r) (bm ((0:Int)==0) (I Ag))))):=rfl
  rw[e];simp[L1];simp[N9]
 .unfold N9
  rw[An,An,An,Mh,CJ,CJ];constructor
  .rintro⟨h1,c,d,f⟩
   unfold HZ BV;simp only at h1 c⊢;rw[h1,c,eq_of_beq d,eq_of_beq f]
  .intro h
   unfold HZ BV at h;simp[Value.agg.injEq,Array.mk.injEq,List.cons.injEq,Value.string.injEq,Value.int.injEq,true_and,and_true] at h;exact⟨h.1,h.2.1,by simp[h.2.2.1],by simp[h.2.2.2]⟩
 .have e:Cy (HZ a) (HZ a)=(Gp a.rd.data.toList a.rd.data.toList&&(Gp a.tx.data.toList a.tx.data.toList&&((Ag&&decide (a.l=a.l))&&((Ag&&decide (a.r=a.r))&&((Ag&&decide ((0:Int)=0))&&Ag))))):=rfl
  rw[e,CJ.2 rfl,CJ.2 rfl];simp
def H4 (l:List CI) (e:CI):List CI:=match l.find? (N9 e) with
 |some y=>if e.c<y.c then KT N9 e l else l
 |none=>KT N9 e l
def QP (es:List CI):List CI:=es.foldl H4 []
structure MS (es l:List CI):Prop where
 bd:l.Pairwise λa b=>HZ a≠HZ b
 mem:∀x∈l,x∈es
 len:l.length<=es.length
def MS.step {es l:List CI} (i:MS es l) (e:CI):MS (es++[e]) (H4 l e):=by
 have a:MS (es++[e]) (KT N9 e l):=⟨S9 Apw i.bd,λx b=>by
  rcases Q0 b with rfl|b
  .simp
  .exact DW _ (i.mem x b),by have:=VF (Q:=N9) e l;have:=i.len;rw[Aj,Br];omega⟩
 unfold H4;split
 .split
  .exact a
  .exact (⟨i.bd,λx b=>DW _ (i.mem x b),by have:=i.len;rw[Aj];omega⟩:MS (es++[e]) l)
 .exact a
def SV:∀es:List CI,Dv (es.flatMap BV) (es.flatMap BV)=Ag
 |[]=>rfl
 |
  e::es=>by
  show(Gp e.rd.data.toList e.rd.data.toList&&(Gp e.tx.data.toList e.tx.data.toList&&((Ag&&decide (e.l=e.l))&&((Ag&&decide (e.r=e.r))&&((Ag&&decide (e.c=e.c))&&Dv (es.flatMap BV) (es.flatMap BV))))))=Ag;rw[SV es,CJ.2 rfl,CJ.2 rfl];simp
def Ayg {a b:CI} (h:Xd a b=0):HZ a=HZ b:=by
 obtain⟨h1,h⟩:=Ob h;obtain⟨_,h⟩:=Ob h;obtain⟨d,h⟩:=Ob h;obtain⟨e,h⟩:=Ob h;obtain⟨f,_⟩:=Ob h;unfold HZ;rw[show({a with c:=0}:CI)={b with c:=0} by rw[Xt h1,Xt d,Mu e,Mu f]]
def ZQ (e:Ap):AH:=(AJ e.key).take 4++AJ e.val
def c86 (af:Base S L) (ar:S.ov 86=Z) (au:S.nd 86=I 114) (av:S.hk 86=Z) (aw:S.ov 167=I (IA Ax 114)) {es:List CI} (en:Dq h v es) (hn:es.length<=20000):
 Bk S L 10 86 [v] h λw J=>AA h J/\∃M:List CI,AS J h.nx 114 5 w M.length (M.flatMap BV)/\M.length<=es.length/\∀e'∈M,e'∈es:=by
 have hL:=af.aI;have all:∀k,k<=es.length->MS (es.take k) ((es.take k).foldl H4 []):=by
  intro k
  induction k with
  |zero=>intro _;exact⟨.nil,(λx R=>by cases R),Ae _⟩
  |
   succ k ih=>
   intro hk;rw[A5 G,K1];exact(ih G).step _
 have Da:=all es.length Jq;rw[CS] at Da;have Da:MS es (QP es):=Da;have ag:=Da.bd.imp λh e=>h (Ayg e);have P:=DO (c:=Xd) (QP es);refine(Agc (fn:=f86) (k:=5) (xs:=H0 Xd (QP es)) Kq av ar au Kq (λ_=>rfl) (λxs=>by cases xs with|nil=>rfl|cons x xs=>exact SV (x::xs)) λd be=>?_).mono ?_
 rotate_left
 .rintro w J ⟨x,o⟩
  exact⟨x,_,o,by rw[P.length_eq];exact Da.len,λe T=>Da.mem e (P.subset T)⟩
 have V:=show Rd h.ad _ _ _ _ from en;generalize W:h.ad=b;rw[W] at V;obtain⟨A0,c0,rfl⟩:∃A c,v=.slice A es.length c:=by obtain⟨_,A,c,e,_⟩:=V;exact⟨A,c,e⟩
 have s1:=(Sep.nil b).add (a:=aG HZ Mx b.nx []) (AA.new b (.map [] 0)) ⟨by rw[Ck];omega,[],0,by rw[CK,Bi B],B,B⟩ (λi U=>A2 U.symm);refine⟨Dc B,λC F D q=>∃k:Nat,F=[(3,.map (I b.nx)),(13,.slice A0 es.length c0),(14,Vi es.length),(15,Vi k)]/\D=[]/\C=es.length-k/\k<=es.length/\Sep b q [aG HZ Mx b.nx ((es.take k).foldl H4 [])],
  ⟨_,_,Sq,(by omega:es.length-0<L),0,B,B,B,Al _,s1⟩,?_⟩
 rintro C F D q ⟨k,rfl,rfl,rfl,hk,s⟩ ax;refine Ad (λn=>?_) (λn=>?_)
 .have n:k<es.length:=by have:=Fp n;omega
  obtain⟨a1,y1,e9,_,r⟩:=(Rd.ext V s.e).el n;cases e9;rw[flatK (f:=BV) (λ_=>rfl) es (Ab n)] at r;have ah:=A5 n;generalize es[k]=e at r ah;have N:(es.take (k+1)).foldl H4 []=H4 ((es.take k).foldl H4 []) e:=by rw[ah,K1];rfl
  generalize(es.take k).foldl H4 []=l at s N;obtain⟨g1,z1,X,z2,s2⟩:=s.var (t:=114) (z:=.agg #[.string ⟨#[]⟩,.string ⟨#[]⟩,Vi 0,Vi 0,Vi 0]) Kq (v:=.agg ⟨BV e⟩) B B B;obtain⟨g3,z3,g4,z4,s4⟩:=s2.var (t:=114) (z:=.agg #[.string ⟨#[]⟩,.string ⟨#[]⟩,Vi 0,Vi 0,Vi 0]) Kq (v:=.agg ⟨BV e⟩) B B B;obtain⟨O,z5,E⟩:=s4.st (t:=3) B (i:=0) B (j:=4) (v:=Vi 0) (by show 4<5;decide) B;have c6:BK O X.nx 0 (BV {e with c:=0}):=(E.dD (i:=0) B).cells;have c5:Cell O q.nx 4 (Vi e.c):=(E.dD (i:=1) B).cell (i:=4) B;have m5:TA HZ Mx O b.nx l:=(E.2.1 2 _ B).1;have lk:=m5.look Apw (t:=266) (et:=3) (z:=Vi 0) Kq Kq e;obtain⟨g6,z6,m6,u6⟩:=m5.ah Apw (t:=266) (et:=3) Kq e;have s6:=E.ah (i:=2) (a':=aG HZ Mx b.nx (KT N9 e l)) B u6.ae m6 λx R=>.inl R
  refine⟨G,_,EQ (k:=5) Kq (show BK q a1.block (a1.off+(k:Int).toNat*5) (BV e) from r) B,_,_,z1 _,_,z2,_,EQ (k:=5) Kq (show BK X q.nx 0 (BV e) from (s2.dD (i:=0) B:Own X q.nx 114 (BV e)).cells) B,_,_,z3 _,_,z4,_,z5,_,EQ (k:=5) Kq c6 B,_,_,Cs (CN _) lk,?_⟩;have ai:Sep b g6 [aG HZ Mx b.nx (KT N9 e l)]:=s6.drop 2;cases hf:l.find? (N9 e) with
  |
   none=>
   have H:H4 l e=KT N9 e l:=by unfold H4;rw[hf]
   refine⟨_,_,B,_,EQ (k:=5) Kq c6 B,_,ld B c5,_,_,Cs Nb z6,?_⟩;exact⟨⟨by omega,by omega⟩,_,_,Sq,(by omega:es.length-(k+1)<es.length-k),k+1,B,B,B,n,by rw[N,H];exact ai⟩
  |
   some y=>
   refine⟨_,_,B,_,ld B c5,Bz (λk2=>?_) (λk2=>?_)⟩
   .have H:H4 l e=KT N9 e l:=by unfold H4;rw[hf];exact Bi k2
    exact⟨_,EQ (k:=5) Kq c6 B,_,ld B c5,_,_,Cs Nb z6,⟨by omega,by omega⟩,_,_,Sq,(by omega:es.length-(k+1)<es.length-k),k+1,B,B,B,n,by rw[N,H];exact ai⟩
   .have H:H4 l e=l:=by unfold H4;rw[hf];exact Bm k2
    exact⟨⟨by omega,by omega⟩,_,_,Sq,(by omega:es.length-(k+1)<es.length-k),k+1,B,B,B,n,by rw[N,H];exact (E.drop 2:Sep b O [aG HZ Mx b.nx l])⟩
 .have n:=KK n
  obtain rfl:k=es.length:=G;rw[CS] at s;have s:Sep b q [aG HZ Mx b.nx (QP es)]:=s;generalize QP es=l at s ag Da P;obtain⟨_,u,bf,ay,az,aa⟩:TA HZ Mx q b.nx l:=(s.2.1 0 _ B).1;have bg:u.length=l.length:=by have:=Cs HD aa;simpa using this
  have hl:=Da.len;obtain⟨bh,aj,ak⟩:=s.cN (τ:=Ax) (t:=266) (kt:=114) (et:=3) Kq (i:=0) B (m:=b.nx) (λx=>Iff.rfl) ay az;generalize bi:q.nx=rI at ak aj;have a0:=ak.add (a:=aS b.nx 114 5 (.slice Z 0 0) 0 []) (AA.refl _) (AS.nil _ _ _ _) (λi U=>U.elim);refine⟨_,_,aj,λC F D J=>∃(g:List Ap) (Q:Aa),F=[(9,Q),(41,AG rI 0)]/\D=[]/\C=u.length-g.length/\(g=[]->Q=.slice Z 0 0)/\Sep b J [aS b.nx 114 5 Q g.length (g.flatMap ZQ),Yu rI b.nx u g],
   ⟨_,_,Sq,(by omega:u.length-0<L),[],_,B,B,B,λ_=>rfl,a0⟩,?_⟩
  rintro C F D bj ⟨g,Q,rfl,rfl,rfl,hz,s⟩ ax;refine s.cO (i:=1) B (λa2=>?_) (λe T bk a3 s=>?_)
  .have hp:=(s.it (i:=1) B).all a2
   have o:=s.sl (i:=0) B;obtain⟨K,r,q2⟩:=HH (λa=>(HZ a,Mx a)) (l:=g.map λe:Ap=>(e.key,e.val)) (m:=l) (by rw[←aa];exact hp.map _);have al:K.length=g.length:=by have:=Cs HD r;simpa using this.symm
   have a4:g.flatMap ZQ=K.flatMap BV:=by
    rw[(by rw[UM];rfl:g.flatMap ZQ=(g.map λe:Ap=>(e.key,e.val)).flatMap λp=>(AJ p.1).take 4++AJ p.2),r,UM];rfl
   rw[a4,←al] at o;obtain⟨p1,p2⟩:=Wb cmE q2 ag;have bl:K.length=l.length:=q2.length_eq;refine⟨_,(QS cmE (Cr:=BV) (k:=5) (d:=3) aw Kq Kq (λ_=>⟨B,B⟩) o B G p2 (λx _ y _=>ACb af) d G).any,?_⟩;rintro _ am ⟨rfl,a5,a6⟩;have an:AA b am:=s.e.then a6 λi U=>o.ai i U
   have ao:(H0 Xd l).length=K.length:=by rw[←p1];exact(DO K).length_eq
   refine⟨?_,?_⟩
   .rw[←W] at an;exact an.ag
   .rw[←(by rw[←W];rfl:b.nx=h.nx)]
    exact Y7 (Cr:=BV) (xs:=H0 Xd l) (λ_=>⟨B,B⟩) (by rw[ao,←p1];exact a5) λh0=>hz (BO (by rw[←al,←ao,h0];rfl))
  .obtain⟨m,hm,ap⟩:=List.mem_map.1 (show(e.key,e.val)∈l.map _ from aa▸Gn T)
   have ab:e.key=HZ m:=(Cs Eh ap).symm;have ad:e.val=Mx m:=(Cs Amy ap).symm;have bm:g.length<u.length:=by
    have:=(s.it (i:=1) B).len;rw[Aj,Br] at this;omega
   have aq:=QO (s.it (i:=1) B);rw[ab,ad] at aq;rw[ab,ad];obtain⟨bn,a7,bo,a8,a9⟩:=s.var (t:=114) (z:=.agg #[.string ⟨#[]⟩,.string ⟨#[]⟩,Vi 0,Vi 0,Vi 0]) Kq (v:=HZ m) B B B;obtain⟨ba,bb,ae⟩:=a9.st (t:=3) B (i:=0) B (j:=4) (v:=Vi m.c) (by show 4<5;decide) B;obtain⟨bc,am,t38,bd⟩:=ae.ba (st:=24) (t2:=24) (e:=114) (k:=5) Kq (i:=1) B (ys:=BV m) B B ae.e.nx G (n':=(g++[e]).length) (xs':=(g++[e]).flatMap ZQ) (by simp) (by rw[E0,List.flatMap_singleton,(by unfold ZQ;rw[ab,ad];rfl:ZQ e=BV m)]);exact⟨_,_,Cs (CN _) aq,_,_,a7 _,_,a8,_,bb,_,EQ (k:=5) Kq ((ae.dD (i:=0) B).cells:BK ba a3.nx 0 (BV m)) B,_,_,Iv (τ:=Ax) (t:=24) (e:=114) (k:=5) Kq (.agg ⟨BV m⟩) B B (by decide) _,_,_,t38,_,_,Sq,(by rw[Aj,Br];omega:u.length-(g++[e]).length<_),g++[e],bc,B,B,B,λh=>Cf h (by simp),bd.drop 1⟩
section
variable{P:AN} {τ:Bb} {w:AM}
def JU:AH->Nat->T Aa->T Aa
 |[],_,t=>t
 |v::l,i,t=>JU l (i+1) (bif plainCell v then t.ins i v else t)
def SY:∀(l:AH) (i j:Nat) (t:T Aa),j<i->(JU l i t).get j=t.get j
 |[],_,_,_,_=>rfl
 |
  v::l,i,j,t,h=>by
  rw[JU,SY l (i+1) j _ (by omega)];cases plainCell v with
  |false=>rfl
  |true=>rw[D1,T.dA,Bm (by omega)]
def SN:∀(l:AH) (i k:Nat) (t:T Aa) {v:Aa},l[k]?=I v->plainCell v=Ag->(JU l i t).get (i+k)=I v
 |[],_,_,_,_,h,_=>by cases h
 |
  x::l,i,0,t,v,h,a=>by
  have e:x=v:=by simpa using h
  subst e;show(JU l (i+1) _).get i=_;rw[SY l (i+1) i _ (by omega),a,D1,T.dA,Bi B]
 |
  x::l,i,k+1,t,v,h,a=>by
  rw[JU,show i+(k+1)=i+1+k by omega];exact SN l (i+1) k _ (by simpa using h) a
def SR:∀(l:AH) (i j:Nat) (t:T Aa) {v:Aa},(JU l i t).get j=I v->(∃k,j=i+k/\l[k]?=I v/\plainCell v=Ag)\/t.get j=I v
 |[],_,_,_,_,h=>.inr h
 |
  x::l,i,j,t,v,h=>by
  rw[JU] at h;rcases SR l (i+1) j _ h with⟨k,rfl,h1,b⟩|h
  .exact .inl ⟨k+1,by omega,by simpa using h1,b⟩
  .cases a:plainCell x with
   |false=>rw[a] at h;exact .inr h
   |
    true=>
    rw[a,D1,T.dA] at h;by_cases e:j=i
    .rw[Bi e] at h
     exact .inl ⟨0,e,by simpa using h,by rw[←Option.some.inj h];exact a⟩
    .rw[Bm e] at h;exact .inr h
def Ajy:Obj->HB
 |.cells C e a=>.cells (JU C.toList 0 .nil) C.size e 0 (a.2+1) Ah
 |_=>.dead
def TF:List (Nat×CB)->T HB->T HB
 |[],t=>t
 |(g,b)::l,t=>(TF l t).ins g b.oB
def Q1:∀(l:List (Nat×CB)) (t:T HB) {i:Nat} {hb:HB},(TF l t).get i=I hb->(∃b,(i,b)∈l/\hb=b.oB)\/t.get i=I hb
 |[],_,_,_,h=>.inr h
 |
  (g,b)::l,t,i,hb,h=>by
  rw[TF,T.dA] at h;split at h
  .rename_i e;subst e;cases h;exact .inl ⟨b,Av,rfl⟩
  .rcases Q1 l t h with⟨a,h1,c⟩|h
   .exact .inl ⟨a,Az _ h1,c⟩
   .exact .inr h
def Wc:∀(l:List (Nat×CB)) (t:T HB) {i:Nat} {b:CB},(i,b)∈l->∃a,(i,a)∈l/\(TF l t).get i=I a.oB
 |
  (g,b0)::l,t,i,b,h=>by
  by_cases e:i=g
  .subst e;exact⟨b0,Av,by rw[TF,T.dA,Bi B]⟩
  .rcases List.mem_cons.1 h with h|h
   .cases h;exact Cf B e
   .obtain⟨a,h1,c⟩:=Wc l t h
    exact⟨a,Az _ h1,by rw[TF,T.dA,Bm e];exact c⟩
def GB (a:List (Nat×CB)) (w:AM):Y:=⟨TF a (T.laid (w.heap.toList.map Ajy) 0 .nil),w.heap.size,.no⟩
def OV {i:Nat}:(T.laid (w.heap.toList.map Ajy) 0 .nil).get i=(w.heap[i]?).map Ajy:=by
 rw[T.an,A4,EZ];by_cases h:i<w.heap.size
 .rw[Bi (by omega),DL,AX,Is]
 .rw[Bm (by omega),T.get_nil,Dr (by omega)];rfl
def Pn {a:List (Nat×CB)} (c:H9 P w a) {g:Nat} {b:CB} (d:(g,b)∈a):(GB a w).t.get g=I b.oB:=by
 obtain⟨j,h1,h⟩:=Wc a (T.laid (w.heap.toList.map Ajy) 0 .nil) d;obtain⟨vs,e,rfl,_,i⟩:=Io c d;obtain⟨k,l,rfl,_,f⟩:=Io c h1;rw[i] at f;cases f;exact h
def Abp {n:List (Nat×CB)} (q:H9 P w n) (r:τ.ng<=w.heap.size):C5 P τ (Jr w.heap.size) (GB n w) w:=by
 refine⟨⟨λid o=>?_,λid pl hb e s=>?_,λid pl e=>?_,λi j D E U c d F H t=>?_,λg f=>?_⟩,r⟩
 .have o:w.heap.size<=id:=o
  simp only[Jr];rw[Bm (by omega)]
 .simp only[Jr] at e
  split at e
  case isFalse=>cases e
  rename_i f;cases e;rcases Q1 _ _ s with⟨b,u,rfl⟩|h
  .obtain⟨vs,e,rfl,x,y⟩:=Io q u
   have z:LR (Jr w.heap.size) vs vs:=LR.ak x;refine⟨⟨vs⟩,(0,0),y,by simp,λi U=>by simp,λi v a=>?_,.inl B,λ_=>⟨B,by simp⟩⟩;rw[Ev.T.an] at a;by_cases p:0<=i/\i<0+vs.length
   .rw[Bi p] at a
    simp only[DL] at a;obtain⟨v',h1,l⟩:=z.get a;exact⟨by omega,v',by simpa using h1,l⟩
   .rw[Bm p,Ev.T.get_nil] at a;cases a
  .rw[OV,By f] at h
   cases h;cases A:w.heap[id] with
   |
    cells C e m=>
    refine⟨C,m,by rw[By f,A],by show 0+C.size<=_;omega,λi U=>by show 0+C.size+0*i.size<=_;omega,λi v a=>?_,.inr (.inr ⟨Al _,.inr (Nat.succ_pos _),by show m.2<=0+(m.2+1);omega⟩),λh=>by cases h⟩;rcases SR _ _ _ _ a with⟨k,rfl,h1,l⟩|h
    .rw[Is] at h1
     rw[Ba] at a⊢;exact⟨(Array.getElem?_eq_some_iff.1 h1).1,v,by rw[show(⟨id,0,0⟩:Pl).o+k=k from Ba k];exact h1,VR.av l⟩
    .rw[T.get_nil] at h;cases h
   |_=>trivial
 .simp only[Jr] at e
  split at e
  case isFalse=>cases e
  cases e
  assumption
 .simp only[Jr] at c d
  split at c
  case isFalse=>cases c
  split at d
  case isFalse=>cases d
  cases c;cases d;simp only at t;omega
 .simp only[Jr];rw[Bi (by omega)]
def Ur {a:List (Nat×CB)} (n:H9 P w a) {b:Nat} (D:∃x,w.shape? b=I x):
 b<(GB a w).nx/\∃c m e lo U x,(GB a w).t.get b=I (.cells c m e lo U x)/\∀(k:Nat) (u:Aa),w.cell? ⟨b,k,Z⟩=I u->plainCell u=Ag->c.get k=I u:=by
 obtain⟨x,d⟩:=D;unfold Jd at d;cases hb:w.heap[b]? with
 |none=>rw[hb] at d;cases d
 |
  some o=>
  have E:=(Array.getElem?_eq_some_iff.1 hb).1;refine⟨E,?_⟩;rw[hb] at d;cases o with
  |
   cells C e H=>
   have q:∀{k:Nat} {u:Aa},w.cell? ⟨b,k,Z⟩=I u->C[k]?=I u:=λ{k u} h=>by
    unfold WX at h;simp only[hb] at h;exact h
   obtain⟨r,i⟩:∃r,(GB a w).t.get b=I r:=by
    by_cases g:∃y,(b,y)∈a
    .obtain⟨y,f⟩:=g;exact⟨_,Pn n f⟩
    .have Cw:∀(l:List (Nat×CB)) (t:T HB),(∀y,(b,y)∉l)->(TF l t).get b=t.get b:=by
      intro l t
      induction l with
      |nil=>intro _;rfl
      |
       cons p l F=>
       intro s;rw[TF,T.dA,Bm λe=>s p.2 (by rw[e];exact Av)];exact F λy f=>s y (Az _ f)
     exact⟨_,(Cw a _ λy f=>g ⟨y,f⟩).trans (by rw[OV,hb];rfl)⟩
   rcases Q1 _ _ i with⟨y,g,rfl⟩|h
   .obtain⟨vs,K,rfl,_,z⟩:=Io n g
    rw[hb] at z;cases z;refine⟨_,_,_,_,_,_,i,λk u j A=>?_⟩;have h1:=q j;rw[Db] at h1;have L:=(List.getElem?_eq_some_iff.1 h1).1;rw[T.an,Bi (by omega),DL];exact h1
   .rw[OV,hb] at h
    cases h;refine⟨_,_,_,_,_,_,i,λk u j A=>?_⟩;have h1:=SN C.toList 0 k .nil (v:=u) (by rw[Is];exact q j) A;rw[Ba] at h1;exact h1
  |_=>cases d
def Aad {b:List (Nat×CB)} (g:H9 P w b) {a:BD} {n c k:Nat} {xs:AH} (j:∃x,w.shape? a.block=I x) (l:xs.length=n*k) (o:n<=c) (d:∀i u,xs[i]?=I u->w.cell? ⟨a.block,a.off+i,Z⟩=I u/\plainCell u=Ag):
 Rd (GB b w) (.slice (I a) n c) k n xs:=by
 obtain⟨h1,p,m,e,lo,U,x,q,r⟩:=Ur g j;refine⟨l,I a,c,B,o,(λh=>by cases h),λa' s=>?_⟩;cases s;exact⟨h1,p,m,e,lo,U,x,q,λi u f=>r _ u (d i u f).1 (d i u f).2⟩
def Abf {a:BD} {n c:Nat} (d:a.spot=Z) (hb:a.block<w.heap.size):VR (Jr w.heap.size) (.slice (I a) n c) (.slice (I a) n c):=by
 obtain⟨b,off,sp⟩:=a;have d:sp=none:=d;subst d;exact VR.slice (ρ:=Jr w.heap.size) (id:=b) (off:=off) (sp:=Z) (len:=n) (cap:=c) (pl:=⟨b,0,0⟩) (o':=off) (by unfold Jr;rw[Bi hb]) λ_=>(Ba off).symm
open Classical in
def Yy (h:Y):Aa->Y->RR:=λv' J=>if v'=.bool Ag/\J.lo.ag h.nx=Ag then I [.flat 0 []] else Z
def Abx {l:Be} (p:C8 P τ l) {f:Au} {fn:BC} {cd:DC} {args a:AH} {h:Y} {ρ:Ren} (m:C5 P τ ρ h w) (q:LR ρ args a) (c:CdA l (.func f) args h.ad λv J=>AA h.ad J/\v=.bool Ag)
 (r:P.funcs[f]?=I fn) (s:(fn.name== "runtime.NumGoroutine")=Ah) (hb:fn.body=I cd):CallsIn Fence.wide 0 P f ⟨a⟩ w λe w'=>e=.returned (.bool Ag)/\QR w w':=by
 obtain⟨t,u,_,_⟩:=c (Yy h) (λ_ _=>Z) (λ_=>True) λv J n=>by
  unfold Yy;rw[Bi ⟨n.2,n.1.ag⟩];exact⟨_,B,by simp,λ_ _=>trivial⟩
 have h1:Hk P (callFunc f ⟨a⟩) w (Ho P τ ρ w h.ad (Yy h) (λ_ _=>Z) t):=p (.func f) (.func f) args a h.ad _ _ _ ρ w m (.func f) q u;have x:(callFunc f ⟨a⟩).run P w=.ok (.enter f ⟨a⟩) w:=Go.Proofs.enters_of r s hb _ _;unfold Hk at h1;rw[x] at h1;refine CallsIn.mono h1 λy w' j=>?_;cases y with
 |outgrown=>exact j.elim
 |panicked M=>obtain⟨_,_,_,_,_,_,_,_,_,hb,_⟩:=j;cases hb
 |
  returned v'=>
  obtain⟨N,O,h1,Q,z,R,A,k,S⟩:=j;unfold Yy at k;split at k
  case isFalse=>cases k
  rename_i d;obtain⟨rfl,C⟩:=d;have g:=A.br;have D:∀i pl',h1.lo.has i->ρ i=I pl'->False:=λi pl' E o=>by
   rcases A8 i h.nx with d|d
   .exact GO C d E
   .rw[m.1.fresh i d] at o;cases o
  cases z;exact⟨B,g.size,λb hb=>g.ae b hb λF H K L=>(D F H K L).elim,g.os,g.out,g.tape⟩
end
abbrev Ovs:=List (Nat×(Be->AH->Y->Jl))
def Xj (a:Ovs) (b:List (Nat×Nat)):A9:={
 ov:=λf=>Mv f (a++[(137,IA Ax 93),(167,IA Ax 114)])
 nd:=λf=>Mv f b
 dv:=λf=>Mv f [(257,λ_ h=>I h),(258,λ_ h=>I h)]
 hk:=λf=>Mv f [(161,Adc 4 (HG 5 64 65 1))]
 rc:=λf=>Mv f [(257,rcF f257),(258,rcF f258)]}
def TW {f e:Nat} (s:TJ prog Ax f e):MO prog Ax f (IA Ax e):=by
 obtain⟨n,h1,rfl,a,b,c⟩:=s;exact⟨λo d args p h J v ρ w g i j k kp l m=>Ami Fi h1 a b c d g i j k kp l m⟩
def Ug {m:Ovs} {q:List (Nat×Nat)} (r:∀p∈m,MO prog Ax p.1 p.2):JX prog Ax (Xj m q):={
 ov:=λf g b=>by
  rcases List.mem_append.1 (JH b:(f,g)∈m++_) with h|_|⟨_,_|⟨_,h⟩⟩
  .exact(r _ h).go
  .exact(TW Aob).go
  .exact(TW Ayd).go
  .cases h
 dv:=Alh Fi λf g b=>by
  rcases(JH b:(f,g)∈_) with _|⟨_,_|⟨_,h⟩⟩
  .exact⟨Ayv,B⟩
  .exact⟨Axj,B⟩
  .cases h
 rc:=λf g b=>by
  rcases(JH b:(f,g)∈_) with _|⟨_,_|⟨_,h⟩⟩
  .have a:Ax.fn.get 257=I f257:=Kq
   exact λargs l v v' h J ρ w hk d n j=>Aft Fi a B B Jq (IT codeOk (Fi.fn _ _ a).1 rfl).2 args l v v' h J ρ w hk d n j
  .have a:Ax.fn.get 258=I f258:=Kq
   exact λargs l v v' h J ρ w hk d n j=>Aft Fi a B B Jq (IT codeOk (Fi.fn _ _ a).1 rfl).2 args l v v' h J ρ w hk d n j
  .cases h
 ex:=λf e s args l h J v ρ w hk d j=>Afc Fi (Avb f e s) hk d j
 cr:=λf fn c a hb=>IT codeOk (Fi.fn _ _ a).1 hb
 hk:=λf g b fn c a hb i x t k u=>by
  rcases(JH b:(f,g)∈_) with _|⟨_,h⟩
  .unfold Adc at k
   cases o:Am i 4 with
   |false=>rw[o] at k;cases k
   |
    true=>
    rw[o] at k;cases k;obtain rfl:=Af o;exact Ayj Fi func161 Ayh fn c t a hb u
  .cases h}
def Aol {c:Ovs} {d:List (Nat×Nat)} {L:Nat} (g:(c++[(137,IA Ax 93),(167,IA Ax 114)]).all (λp=>Nf.contains p.1)=Ag) (h:d.all (λp=>Nf.contains p.1)=Ag) (i:1125899906842624<=L):Base (Xj c d) L:=
 ⟨λf b=>⟨Kf λp a e=>(by have:=List.all_eq_true.1 g p a;rw[e,b] at this;cases this),
  Kf λp a e=>(by have:=List.all_eq_true.1 h p a;rw[e,b] at this;cases this),
  Kf λp a e=>by
   obtain rfl:=List.mem_singleton.1 a;rw[←e] at b;cases b⟩,i⟩
def Aec (n:Nat):C8 prog Ax (B8 Ax (Xj [] []) 1125899906842624 n):=JL Fi (Ug λ_ h=>by cases h) (Va Fi _) (λ_ a=>J6 Fi a) _ n
def Aeo:Base (Xj [] []) 1125899906842624:=Aol B B (Ae _)
def Awl:Apl (Xj [] []):=⟨B,B,B,B⟩
def Alo:MO prog Ax 113 QB:=⟨λf g args j h J v ρ w a b c k kp l d=>by
 obtain⟨rfl,u,i,bs,rfl,hb,rfl⟩:=Air c;obtain⟨n,r,e⟩:=RC hb;exact Agf (Aec 5) (Azh Aeo Awl ⟨B,B,B⟩ (show Rd (Y.ad _) _ _ _ _ from r) e) (Ae _) (Yo bs i) a b d⟩
def Alm:MO prog Ax 114 Ph:=⟨λf g args j h J v ρ w a b c k kp l d=>by
 obtain⟨rfl,u,i,bs,rfl,hb,rfl⟩:=Agz c;obtain⟨n,r,e⟩:=RC hb;exact Agf (Aec 5) (Axc Aeo Awl ⟨B,B,B⟩ (show Rd (Y.ad _) _ _ _ _ from r) e) (Ae _) (Yp bs i) a b d⟩
def Ahg:MO prog Ax 173 Oz:=⟨λl m args n h J v ρ w c d e k kp g i=>by
 obtain⟨a,h1,j,b⟩:∃a:Go.Shelf.Ren,Lays.n190 prog a/\a.f 190=173/\EV Ax 173=true:=⟨_,b7,B,Kq⟩;rw[←j] at b⊢;exact Aii Fi h1 b c d e k kp g i⟩
def Zbu:Be->AH->Y->Jl:=λ_ _ _=>none
def Zbt:E2:=⟨[],[],[],.map (some 10),[.map Za0 87]⟩
abbrev smW (g9:Be->AH->Y->Jl) (kk:Nat->Be->AH->Y->Jl):A9:=Xj [(9,g9),(113,QB),(114,Ph),(173,Oz),(317,IA Ax 298),(27,kk 27),(42,kk 42),(43,kk 43),(44,kk 44),(78,Vh Ax [Zbt])] [(15,9),(86,114),(252,298)]
section
variable{g9:Be->AH->Y->Jl}
def Afl {kk:Nat->Be->AH->Y->Jl} (H:MO prog Ax 9 g9) (HK:∀i,MO prog Ax i (kk i)) (a:MO prog Ax 78 (Vh Ax [Zbt])):JX prog Ax (smW g9 kk):=Ug λp b=>by
 rcases b with _|⟨_,_|⟨_,_|⟨_,_|⟨_,_|⟨_,_|⟨_,_|⟨_,_|⟨_,_|⟨_,_|⟨_,b⟩⟩⟩⟩⟩⟩⟩⟩⟩⟩
 ·exact H
 ·exact Alo
 ·exact Alm
 ·exact Ahg
 ·exact TW Axm
 ·exact HK _
 ·exact HK _
 ·exact HK _
 ·exact HK _
 ·exact a
 ·cases b
def Aet {kk:Nat->Be->AH->Y->Jl} {L:Nat} (c:1125899906842624<=L):Sy (smW g9 kk) L:=
 have a:Base (smW g9 kk) L:=Aol B B c
 {plain:=a.plain,aI:=a.aI,uint:=rfl,text:=rfl
  cy:=λhb M hl=>ABp a B B B B hb M hl
  b7:=λo b=>Azm B o b
  cc:=λo b d=>c96 a o b d
  valid:=λe f n b=>ACv a e f n G
  cw:=λg b=>(c86 a B B B B g b).mono λw J ⟨x,C3,o,hl,h⟩=>Jq
  cB:=rfl}
def Axo {kk:Nat->Be->AH->Y->Jl}:MD (smW g9 kk):=⟨rfl,rfl,rfl⟩
def Za5 {kk:Nat->Be->AH->Y->Jl} {L:Nat} {h:Y}:Zab (smW g9 kk) L h:=λ{J} _=>Lm (g:=Vh Ax [Zbt]) rfl (λa=>by kernel_rfl) ⟨rfl,rfl⟩
def Zbv {f:FuncId}:MO prog Ax f Zbu:=⟨λ_ _ _ _ _ _ _ _ _ _ _ a=>by cases a⟩
end
def Ayi (o:Ovs):Be:=QJ Ax (Xj o [(86,114)]) 1000000 200
abbrev Mk:=JZ prog Ax
def E6:∀p∈([]:Ovs),MO prog Ax p.1 p.2:=λ_ h=>by cases h
def Agk {f:Au} {g:Be->AH->Y->Jl} {o:Ovs} (h:MO prog Ax f g) (b:∀p∈o,MO prog Ax p.1 p.2):∀p∈(f,g)::o,MO prog Ax p.1 p.2:=λp a=>by
 cases a with
 |head=>exact h
 |tail _ a=>exact b p a
def EB {f:Au} {l:List E2} {o:Ovs} (h:∀M∈l,Mk f M) (a:∀p∈o,MO prog Ax p.1 p.2):∀p∈(f,Vh Ax l)::o,MO prog Ax p.1 p.2:=Agk (QY h) a
def K4 {o:Ovs} {f:Au} {M:E2} (a:∀p∈o,MO prog Ax p.1 p.2) (b:Ue Ax (Ayi o) f M=true:=by kernel_rfl):Mk f M:=Ahy (Akn Fi (Ug a) _ _) b
def Zbd:MO prog Ax 78 (Vh Ax [Zbt]):=QY (ES (K4 E6) Ht)
end
def gW:Be->AH->Y->Jl:=Vh Ax [m35]
def Ya {h:Y} (a:h.t.get 0=I Ft.oB) (b:h.t.get 1=I Fu.oB) (c:h.t.get 5=I Hu.oB):QG Ax m35 [] h=I (.bool Ag,h):=by
 have e:QG Ax m35 [] h=(bif Ag&&Ag&&Ag&&(AD 0 Ax.ng&&Hv (De Ax.ng []) Ft (h.t.get 0)&&(AD 1 Ax.ng&&Hv (De Ax.ng []) Fu (h.t.get 1)&&(AD 5 Ax.ng&&Hv (De Ax.ng []) Hu (h.t.get 5)&&Ag))) then I (.bool Ag,⟨h.t,h.nx+0,h.lo⟩) else Z):=rfl
 rw[e,a,b,c];have Cw:(Ag&&Ag&&Ag&&(AD 0 Ax.ng&&Hv (De Ax.ng []) Ft (I Ft.oB)&&(AD 1 Ax.ng&&Hv (De Ax.ng []) Fu (I Fu.oB)&&(AD 5 Ax.ng&&Hv (De Ax.ng []) Hu (I Hu.oB)&&Ag))))=true:=by kernel_rfl
 rw[Cw];cases h;rfl
def Abo {L:Nat} {h0 h:Y} {kk:Nat->Be->AH->Y->Jl} (b:h0.t.get 0=some Ft.oB) (c:h0.t.get 1=some Fu.oB) (d:h0.t.get 5=some Hu.oB) (e:10<=h0.nx) (x:AA h0 h):Bk (smW gW kk) L 1 9 [] h λv J=>AA h J/\v=.bool true:=
 Lm (g:=gW) rfl (λa=>by
  show(match QG Ax m35 [] h with|some r=>some r|none=>none)=some (.bool true,h)
  rw[Ya ((x.t 0 G).trans b) ((x.t 1 G).trans c) ((x.t 5 G).trans d)]) ⟨AA.refl h,rfl⟩
def Aeu:BZ:=[⟨⟨[227,128,135]⟩⟩,⟨⟨[228,184,128]⟩⟩,⟨⟨[228,186,140]⟩⟩,⟨⟨[228,184,137]⟩⟩,⟨⟨[229,155,155]⟩⟩,⟨⟨[228,186,148]⟩⟩,⟨⟨[229,133,173]⟩⟩,⟨⟨[228,184,131]⟩⟩,⟨⟨[229,133,171]⟩⟩,⟨⟨[228,185,157]⟩⟩,⟨⟨[]⟩⟩,⟨⟨[229,141,129]⟩⟩,⟨⟨[231,153,190]⟩⟩,⟨⟨[229,141,131]⟩⟩]
def Zh:BZ:=[⟨⟨[233,155,182]⟩⟩,⟨⟨[229,163,177]⟩⟩,⟨⟨[229,188,144]⟩⟩,⟨⟨[229,143,130]⟩⟩,⟨⟨[229,155,155]⟩⟩,⟨⟨[228,186,148]⟩⟩,⟨⟨[229,133,173]⟩⟩,⟨⟨[228,184,131]⟩⟩,⟨⟨[229,133,171]⟩⟩,⟨⟨[228,185,157]⟩⟩,⟨⟨[]⟩⟩,⟨⟨[230,139,190]⟩⟩,⟨⟨[231,153,190]⟩⟩,⟨⟨[229,141,131]⟩⟩]
def Zn:BZ:=[⟨⟨[]⟩⟩,⟨⟨[228,184,135]⟩⟩,⟨⟨[229,132,132]⟩⟩,⟨⟨[229,133,134]⟩⟩,⟨⟨[228,186,172]⟩⟩]
def Ady:CB:=.cells (Qu Aeu Ah) 342 0 0 Ag
def Aej:CB:=.cells (Qu Zh Ag) 342 0 0 Ag
def Aek:CB:=.cells (AR Zn) 397 0 0 Ag
def Aeb:CB:=.cells ((BG 20).map λi=>.int .u64 ((10^i:Nat):Int)) 445 0 0 Ag
def W5:List (Nat×CB):=[(0,Ft),(1,Fu),(2,Ady),(3,Aej),(4,Aek),(5,Hu),(7,Aeb)]
def OU {h:Y} {g e:Nat} {l:AH} (hg:h.t.get g=I (CB.cells l e 0 0 Ag).oB) (hn:g<h.nx) {i:Nat} {v:Aa} (U:l[i]?=I v):Cell h g i v:=
 ⟨hn,_,_,_,_,_,_,hg,by
  have:=(List.getElem?_eq_some_iff.1 U).1;rw[T.an,Bi (by omega),DL];exact U⟩
def Kg {h:Y} {g e:Nat} {l:AH} (hg:h.t.get g=I (CB.cells l e 0 0 Ag).oB) (hn:g<h.nx) {o:Nat} {xs:AH} (U:∀i v,xs[i]?=I v->l[o+i]?=I v):BK h g o xs:=
 ⟨hn,_,_,_,_,_,_,hg,λi v a=>by
  have:=(List.getElem?_eq_some_iff.1 (U i v a)).1;rw[T.an,Bi (by omega),DL];exact U i v a⟩
def Agx:Ft=.cells ((BG 256).map λb=>.int .u8 (Fk b:Int)) 286 0 0 true:=by kernel_rfl
def Agu:Fu=.cells ((BG 16).flatMap λj=>[.int .u8 ((K6 j).1:Int),.int .u8 ((K6 j).2:Int)]) 337 0 0 true:=by kernel_rfl
def SO:∀j,j<16->((BG 16).flatMap λj=>[AL .u8 ((K6 j).1:Int),.int .u8 ((K6 j).2:Int)])[j*2]?=I (.int .u8 ((K6 j).1:Int))/\((BG 16).flatMap λj=>[AL .u8 ((K6 j).1:Int),.int .u8 ((K6 j).2:Int)])[j*2+1]?=I (.int .u8 ((K6 j).2:Int)):=by
 intro j a;have:j=0\/j=1\/j=2\/j=3\/j=4\/j=5\/j=6\/j=7\/j=8\/j=9\/j=10\/j=11\/j=12\/j=13\/j=14\/j=15:=by omega
 rcases this with rfl|rfl|rfl|rfl|rfl|rfl|rfl|rfl|rfl|rfl|rfl|rfl|rfl|rfl|rfl|rfl<;>exact⟨rfl,rfl⟩
def Abh:(match Hu with|.cells l _ _ _ _=>Am l.length 16&&l.all (λv=>match v with|.int .u32 (.ofNat x)=>AD x 4294967296|_=>Ah)|_=>Ah)=true:=by kernel_rfl
section
variable{h:Y}
def Y5 (c:h.t.get 0=I Ft.oB) (d:h.t.get 1=I Fu.oB) (hn:10<=h.nx):Ce h:=by
 rw[Agx] at c;rw[Agu] at d;refine⟨λb hb=>OU c (by omega) ?_,λj e=>Kg d (by omega) λi v a=>?_⟩
 .rw[AX,Jj hb];rfl
 .rcases i with _|_|i
  .cases a;exact(SO j e).1
  .cases a;exact(SO j e).2
  .cases a
def Auh (a:h.t.get 7=I Aeb.oB) (hn:10<=h.nx):Jx h:=λi U=>OU a (by omega) (by
 rw[AX,Jj (by omega)];rfl)
def Auc (b:h.t.get 2=I Ady.oB) (c:h.t.get 3=I Aej.oB) (d:h.t.get 4=I Aek.oB) (hn:10<=h.nx):Mo h:=by
 have sz:∀l:BZ,l.all (λs=>Ar s.size 100)=Ag->∀s∈l,s.size<=100:=λl e s f=>Ac (List.all_eq_true.1 e s f);exact⟨⟨Aeu,Ah,B,sz _ (by kernel_rfl),Kg b (by omega) λi v a=>by rw[Ba];exact a⟩,
  ⟨Zh,Ag,B,sz _ (by kernel_rfl),Kg c (by omega) λi v a=>by rw[Ba];exact a⟩,
  Zn,B,sz _ (by kernel_rfl),Kg d (by omega) λi v a=>by rw[Ba];exact a⟩
def Ahu (b:h.t.get 5=I Hu.oB) (hn:10<=h.nx):G3 h:=by
 have Cw:=Abh;obtain⟨l,e,c⟩:∃l e,Hu=.cells l e 0 0 true:=⟨_,_,B⟩;rw[c] at Cw b;simp only[An] at Cw;have f:=Af Cw.1;intro i U;have a:=List.all_eq_true.1 Cw.2 l[i] (Bu _);split at a
 .rename_i x d
  exact⟨x,by simpa[AK] using a,OU b (by omega) (by rw[Ab (by omega),d];rfl)⟩
 .cases a
end
def Ajw:List AH->Option (List BI)
 |[]=>I []
 |[.int .i64 a,.int .i64 b,.string s,.int .i64 c,.int .i64 d,.int .i64 e,.int .i64 g]::l=>(match Ajw l with|some r=>I (⟨a,b,s,c,d,e,g⟩::r)|none=>Z)
 |_=>Z
def Alv:∀{l:List AH} {a:List BI},Ajw l=I a->l=a.map Bt:=by
 intro l
 induction l with
 |nil=>intro a h;cases h;rfl
 |
  cons x l b=>
  intro a h;unfold Ajw at h;split at h
  .rename_i e;cases e
  .rename_i e
   cases e;split at h
   .rename_i r c
    cases h;rw[b c];rfl
   .cases h
  .cases h
def Avo (_:Be) (f:AH) (h:Y):Jl:=match f with
 |
  [.slice (I ⟨id,0,Z⟩) len _,.func (.func g) ⟨[]⟩ ⟨[]⟩]=>(match h.t.get id with
  |
   some (.cells c N e 0 0 x)=>(match HF 7 c 0 len with
   |
    some i=>(match Ajw i with
    |some d=>bif Am g 138&&Am e 93&&AD 0 len&&Ar len 1000000&&Ar (len*7) N&&decide (d.Pairwise λa b=>Ty a b≠0) then
     I (.tuple #[],h.put id (.cells (T.laid ((H0 Ty d).map Bt).flatten 0 c) N 93 0 0 x)) else Z
    |none=>Z)
   |none=>Z)
  |_=>Z)
 |_=>Z
def Amc:MO prog Ax 137 Avo:=⟨λ_ _ k l h J v ρ w m f d=>by
 refine(TW Aob).go _ (Aec 5) k l h J v ρ w m f ?_;unfold Avo at d;split at d
 case h_2=>cases d
 rename_i id len z g;split at d
 case h_2=>cases d
 rename_i c N e x o;split at d
 case h_2=>cases d
 rename_i A j;split at d
 case h_2=>cases d
 rename_i C p;replace d:=C1 d;obtain⟨hb,d⟩:=d;obtain⟨hb,q⟩:=Dh hb;obtain⟨hb,r⟩:=Dh hb;obtain⟨hb,s⟩:=Dh hb;obtain⟨hb,t⟩:=Dh hb;obtain⟨u,y⟩:=Dh hb;obtain rfl:=Af u;obtain rfl:=Af y;cases d;cases len with
 |zero=>cases t
 |
  succ n=>
  obtain rfl:=Alv p;have f:=(LK j).1;rw[A4] at f;exact SU cmN Kq (i:=t93) Kq (λ_=>⟨B,B⟩) f (Ac s) (Fp q) (λa _ b _=>Zu (Awf Aeo) (by decide)) o (Ac r) j⟩
def k31:Mk 41 m31:=by
 have a:C8 prog Ax (B8 Ax (smW Zbu λ_=>Zbu) 1125899906842624 7):=JL Fi (Afl Zbv (λ_=>Zbv) Zbd) (Va Fi _) (λ_ a=>J6 Fi a) _ 7;have c:=c41 (S:=smW Zbu λ_=>Zbu) (s:=⟨⟨ZJ⟩⟩) (h:=Ia Ax m31) (Aet (Nat.le_refl _)).toBase5 Za5 (Y5 Kq Kq (Nat.le_of_ble_eq_true Kq)) (by decide) 7 (Nat.le_refl _);obtain⟨o,e,_,b⟩:=c (λv h=>some [.val v h]) (λ_ _=>none) (λx=>∃v J,x=.val v J/\AA (Ia Ax m31) J/\v=.string ⟨⟨ZJ⟩⟩) λv J ⟨x,z,_⟩=>⟨_,rfl,by simp,λy d=>⟨v,J,List.mem_singleton.1 d,x,z.trans (by rw[Za8])⟩⟩;have f:m31.args=[.string ⟨⟨ZJ⟩⟩]:=Kq;refine Tm a (by rw[f];exact e) λv J g=>⟨[],?_⟩;obtain⟨_,_,i,x,rfl⟩:=b _ g;cases i;have q:J.lo.ag (Ax.ng+m31.ins.length)=true:=x.lo _ (Nat.le_refl _) rfl;show(J.lo.ag (Ax.ng+m31.ins.length)&&_&&_&&_&&_)=true;rw[q];exact Kq
abbrev Zc0:A9:=smW Zbu λ_=>Zbu
def Zac:Y:=Ia Ax ⟨[(0,Ft),(1,Fu)],[],[],.nilFunc,[]⟩
def Zah (i:Nat) (s t:Bd):Prop:=t.size<=Zae i s/\∃J,AA Zac J/\∀k kp,B8 Ax Zc0 1125899906842624 8 (.func i) [.string s] Zac k kp=k (.string t) J
def Zbh {i:Nat} {s:Bd} (g:Zag i s):∃t,Zah i s t:=by
 have B:=(Aet (g9:=Zbu) (kk:=λ_=>Zbu) (Nat.le_refl _)).toBase5;have U:Ce Zac:=Y5 Kq Kq (Nat.le_of_ble_eq_true Kq);have b:Zad Zc0:=λi a=>by
  simp at a;rcases a with rfl|rfl|rfl|rfl<;>exact⟨λ_ _ _=>rfl,rfl,rfl⟩
 have Da:∀{d n:Nat},Bk Zc0 1125899906842624 d i [.string s] Zac (λw J=>AA Zac J/\VS n w)->d<=8->n<=Zae i s->∃t,Zah i s t:=λc h j=>by
  obtain⟨v,J,⟨x,t,rfl,k⟩,e⟩:=c 8 h;exact⟨t,Nat.le_trans k j,J,x,e⟩
 rcases g with⟨a,f⟩|⟨rfl,f⟩
 ·exact Da (c27 B Axo b U G a) G (by unfold Zae;rw[if_neg G];exact Nat.le_refl _)
 ·exact Da (c43 B b Za5 U f) G (Nat.le_refl _)
open Classical in
def Zaf (i:Nat) (s:Bd):Bd:=if h:∃t,Zah i s t then Classical.choose h else ⟨#[]⟩
def Zbn {i:Nat} {s:Bd} (a:Zag i s):Zah i s (Zaf i s):=by
 unfold Zaf;rw[dif_pos (Zbh a)];exact Classical.choose_spec (Zbh a)
def Zbe (i:Nat) (s:Bd):E2:=⟨[(0,Ft),(1,Fu)],[.string s],[],.string (Zaf i s),[]⟩
def Zbo {i:Nat} {s:Bd} (b:Zag i s):Mk i (Zbe i s):=by
 obtain⟨_,J,x,e⟩:=Zbn b;have a:C8 prog Ax (B8 Ax Zc0 1125899906842624 8):=JL Fi (Afl Zbv (λ_=>Zbv) Zbd) (Va Fi _) (λ_ a=>J6 Fi a) _ 8;refine Tm a (o:=[.val (.string (Zaf i s)) J]) (e _ _) λv g c=>⟨[],?_⟩;cases List.mem_singleton.1 c;have q:J.lo.ag (Ax.ng+0)=true:=x.lo _ (Nat.le_refl _) rfl;show(J.lo.ag (Ax.ng+0)&&true&&true&&Gp (Zaf i s).data.toList (Zaf i s).data.toList&&true)=true;rw[q,CJ.2 rfl];rfl
open Classical in
def Zbg (i:Nat):Be->AH->Y->Jl:=λ_ args h=>match args with
 |[.string s]=>if Zag i s then QG Ax (Zbe i s) args h else none
 |_=>none
def Zbi {i:Nat}:MO prog Ax i (Zbg i):=⟨λe j args c h J v ρ w f g a k kp b d=>by
 unfold Zbg at a;split at a
 ·split at a
  ·exact Agr (Zbo ‹_›) f g a k kp b d
  ·cases a
 ·cases a⟩
def Zbj {i:Nat} {s:Bd} {h:Y} (h0:h.t.get 0=some Ft.oB) (h1:h.t.get 1=some Fu.oB):QG Ax (Zbe i s) [.string s] h=some (.string (Zaf i s),h):=by
 have e:QG Ax (Zbe i s) [.string s] h=(bif true&&(Gp s.data.toList s.data.toList&&true)&&true&&(Nat.blt 0 Ax.ng&&Hv (De Ax.ng []) Ft (h.t.get 0)&&(Nat.blt 1 Ax.ng&&Hv (De Ax.ng []) Fu (h.t.get 1)&&true)) then some (.string (Zaf i s),⟨h.t,h.nx+0,h.lo⟩) else none):=rfl
 rw[e,h0,h1,CJ.2 rfl];have Cw:(true&&(true&&true)&&true&&(Nat.blt 0 Ax.ng&&Hv (De Ax.ng []) Ft (some Ft.oB)&&(Nat.blt 1 Ax.ng&&Hv (De Ax.ng []) Fu (some Fu.oB)&&true)))=true:=by kernel_rfl
 rw[Cw];cases h;rfl
open Classical in
def Zbk {g9:Be->AH->Y->Jl} {L:Nat} {h:Y} (c:h.t.get 0=some Ft.oB) (d:h.t.get 1=some Fu.oB) (f:10<=h.nx):Zai (smW g9 Zbg) L Zaf h:=by
 refine⟨λ{J s} i x a=>?_,λa=>(Zbn a).1,Za5⟩;have e:(smW g9 Zbg).ov i=some (Zbg i):=by rcases a with⟨rfl|rfl|rfl,_⟩|⟨rfl,_⟩<;>rfl
 refine Lm e (λb=>?_) ⟨AA.refl J,rfl⟩;show(if Zag i s then QG Ax (Zbe i s) [.string s] J else none)=_
 rw[if_pos a];exact Zbj ((x.t 0 G).trans c) ((x.t 1 G).trans d)
def k6:Mk 18 m6:=K4 E6
def k15:Mk 46 m15:=K4 E6
def k8:Mk 48 m8:=K4 E6
def k11:Mk 118 m11:=K4 E6
def k12:Mk 118 m12:=K4 E6
def k16:Mk 19 m16:=K4 (EB (ES k8 Ht) (EB (ES k11 (ES k12 Ht)) (EB (ES k15 Ht) E6)))
def k22:Mk 129 m22:=K4 E6
def k24:Mk 129 m24:=K4 E6
def k25:Mk 57 m25:=K4 (EB (ES k22 (ES k24 Ht)) (Agk Amc E6))
def k26:Mk 20 m26:=K4 (EB (ES k25 Ht) E6)
def k27:Mk 8 m27:=K4 (EB (ES k6 Ht) (EB (ES k16 Ht) (EB (ES k26 Ht) E6)))
def k28:Mk 12 m28:=K4 E6
def k29:Mk 26 m29:=K4 E6
def k32:Mk 43 m32:=K4 E6
def k33:Mk 15 m33:=K4 (EB (ES k31 Ht) (EB (ES k32 Ht) E6))
def k34:Mk 10 m34:=K4 (EB (ES k28 Ht) (EB (ES k29 Ht) (EB (ES k33 Ht) E6)))
def k35:Mk 9 m35:=K4 (EB (ES k27 Ht) (EB (ES k34 Ht) E6))
def Ii {W:AM} (a:H9 prog W W5) (d:Ax.ng<=W.heap.size) {g:Nat} {b:CB} (c:(g,b)∈W5):(GB W5 W).ad.t.get g=I b.oB:=Pn a c
def Yn {W:World} (f:H9 prog W W5) (d:Ax.ng<=W.heap.size) {x:Aco} {L:Nat} (n:1125899906842624<=L) (a:Lt L (GB W5 W) x.c) (o:LR (Jr W.heap.size) x.cells x.cells):
 CallsIn Fence.wide 0 prog 6 ⟨[.agg ⟨x.cells⟩]⟩ W λe p=>e=.returned (.bool true)/\QR W p:=by
 have q:=Abp (τ:=Ax) f d;have j:C8 prog Ax (B8 Ax (smW gW Zbg) L 34):=JL Fi (Afl (QY (ES k35 Ht)) (λ_=>Zbi) Zbd) (Va Fi _) (λ_ j=>J6 Fi j) L 34;have i:10<=(GB W5 W).ad.nx:=d;have k:=Ii f d (g:=0) (b:=Ft) (by unfold W5;simp);have l:=Ii f d (g:=1) (b:=Fu) (by unfold W5;simp);have r:=Ii f d (g:=2) (b:=Ady) (by unfold W5;simp);have s:=Ii f d (g:=3) (b:=Aej) (by unfold W5;simp);have t:=Ii f d (g:=4) (b:=Aek) (by unfold W5;simp);have m:=Ii f d (g:=5) (b:=Hu) (by unfold W5;simp);have u:=Ii f d (g:=7) (b:=Aeb) (by unfold W5;simp);have c:=Zap (Aet (g9:=gW) n) ⟨rfl,rfl,rfl⟩ (Zbk k l i) (Y5 k l i) (Auh u i) (Auc r s t i) (Ahu m i) (λJ x=>Abo k l m i x) (x:=x) (a.ext (AA.ad _)) 34 (Nat.le_refl _);exact Abx j (h:=GB W5 W) q (.cons (.agg o) .nil) c func6 (by kernel_rfl) (cd:=Fq f6) (by kernel_rfl)
section
variable{H:Type} {Cr:Ai×Aa->H} {W:AM} {sp:Nat->Bool} {Ei:Bool}
def c9:prog.cellsOf 9=1:=by kernel_rfl
def c3:prog.cellsOf 3=1:=by kernel_rfl
def Pg {n i:Nat} {l:AH} {xs:List (JO H×List IY)} (h:DataW.trod Cr prog W 0 sp Ei n 9 l=xs[i]?) (U:i<xs.length):∃s,l=[.string s]:=by
 rw[Ab U] at h;obtain⟨s,e,_⟩:=DataW.trod_string underlying9 h;exact⟨s,e⟩
def Hx {n i:Nat} {l:AH} {xs:List (JO H×List IY)} (h:DataW.trod Cr prog W 0 sp Ei n 3 l=xs[i]?) (U:i<xs.length):∃z,l=[.int .i64 z]:=by
 rw[Ab U] at h;obtain⟨z,e,_⟩:=DataW.trod_int underlying3 h;exact⟨z,e⟩
def ABm {l:AH} (h:l.length=5):∃a b c d e,l=[a,b,c,d,e]:=by
 rcases l with _|⟨a,_|⟨b,_|⟨c,_|⟨d,_|⟨e,_|⟨f,l⟩⟩⟩⟩⟩⟩<;>first|(exact⟨_,_,_,_,_,rfl⟩)|(simp at h)
def Aqc {l:AH} (h:l.length=3):∃a b c,l=[a,b,c]:=by
 rcases l with _|⟨a,_|⟨b,_|⟨c,_|⟨d,l⟩⟩⟩⟩<;>first|(exact⟨_,_,_,rfl⟩)|(simp at h)
def AAq {l:AH} (h:l.length=2):∃a b,l=[a,b]:=by
 rcases l with _|⟨a,_|⟨b,_|⟨c,l⟩⟩⟩<;>first|(exact⟨_,_,rfl⟩)|(simp at h)
def Aho {p:Nat} {cs:AH} {y:JO H×List IY} (h:DataW.trod Cr prog W 0 sp Ei p 114 cs=I y):∃e:CI,cs=BV e:=by
 obtain⟨xs,n,_,_,g,i,f⟩:=DataW.trod_struct underlying114 h;rw[show prog.cellsOf 114=5 by kernel_rfl] at g;obtain⟨a,b,c,d,e,rfl⟩:=ABm g;have i:xs.length=5:=i;have j:DataW.trod Cr prog W 0 sp Ei n 9 (([a,b,c,d,e].drop 0).take (prog.cellsOf 9))=xs[0]?:=f 0 _ B;have k:DataW.trod Cr prog W 0 sp Ei n 9 (([a,b,c,d,e].drop 1).take (prog.cellsOf 9))=xs[1]?:=f 1 _ B;have l:DataW.trod Cr prog W 0 sp Ei n 3 (([a,b,c,d,e].drop 2).take (prog.cellsOf 3))=xs[2]?:=f 2 _ B;have m:DataW.trod Cr prog W 0 sp Ei n 3 (([a,b,c,d,e].drop 3).take (prog.cellsOf 3))=xs[3]?:=f 3 _ B;have o:DataW.trod Cr prog W 0 sp Ei n 3 (([a,b,c,d,e].drop 4).take (prog.cellsOf 3))=xs[4]?:=f 4 _ B;rw[c9] at j k;rw[c3] at l m o;obtain⟨q,r⟩:=Pg j (by omega);obtain⟨s,t⟩:=Pg k (by omega);obtain⟨u,v⟩:=Hx l (by omega);obtain⟨w,x⟩:=Hx m (by omega);obtain⟨z,A⟩:=Hx o (by omega);cases r;cases t;cases v;cases x;cases A;exact⟨⟨q,s,u,w,z⟩,B⟩
def VT {t s:Nat} (u:t=59\/t=61) {cs:AH} {y:JO H×List IY} (h:DataW.trod Cr prog W 0 sp Ei s t cs=I y):∃e:RT,cs=Qm e:=by
 rcases u with rfl|rfl
 .obtain⟨xs,n,_,_,f,g,d⟩:=DataW.trod_struct underlying59 h
  rw[show prog.cellsOf 59=3 by kernel_rfl] at f;obtain⟨a,b,c,rfl⟩:=Aqc f;have g:xs.length=3:=g;have i:DataW.trod Cr prog W 0 sp Ei n 9 (([a,b,c].drop 0).take (prog.cellsOf 9))=xs[0]?:=d 0 _ B;have j:DataW.trod Cr prog W 0 sp Ei n 9 (([a,b,c].drop 1).take (prog.cellsOf 9))=xs[1]?:=d 1 _ B;have k:DataW.trod Cr prog W 0 sp Ei n 3 (([a,b,c].drop 2).take (prog.cellsOf 3))=xs[2]?:=d 2 _ B;rw[c9] at i j;rw[c3] at k;obtain⟨l,m⟩:=Pg i (by omega);obtain⟨o,p⟩:=Pg j (by omega);obtain⟨q,r⟩:=Hx k (by omega);cases m;cases p;cases r;exact⟨⟨l,o,q⟩,B⟩
 .obtain⟨xs,n,_,_,f,g,d⟩:=DataW.trod_struct underlying61 h
  rw[show prog.cellsOf 61=3 by kernel_rfl] at f;obtain⟨a,b,c,rfl⟩:=Aqc f;have g:xs.length=3:=g;have i:DataW.trod Cr prog W 0 sp Ei n 9 (([a,b,c].drop 0).take (prog.cellsOf 9))=xs[0]?:=d 0 _ B;have j:DataW.trod Cr prog W 0 sp Ei n 9 (([a,b,c].drop 1).take (prog.cellsOf 9))=xs[1]?:=d 1 _ B;have k:DataW.trod Cr prog W 0 sp Ei n 3 (([a,b,c].drop 2).take (prog.cellsOf 3))=xs[2]?:=d 2 _ B;rw[c9] at i j;rw[c3] at k;obtain⟨l,m⟩:=Pg i (by omega);obtain⟨o,p⟩:=Pg j (by omega);obtain⟨q,r⟩:=Hx k (by omega);cases m;cases p;cases r;exact⟨⟨l,o,q⟩,B⟩
def Ip {c:Type} {encA:c->AH} {st e k:Nat} (q:prog.underlying st=I (.slice e)) (hk:prog.cellsOf e=k) (he:∀{s:Nat} {cs:AH} {y:JO H×List IY},DataW.trod Cr prog W 0 sp Ei s e cs=I y->∃a:c,cs=encA a)
 (M:∀a,(encA a).all plainCell=Ag/\(encA a).length=k) (aa:0<k) {base:Nat} {v:Aa} (t:Cell.okWide prog W .any base st v) {s:Nat} {x:JO H×List IY} (ht:DataW.trod Cr prog W 0 sp Ei s st [v]=I x) {w:List (Nat×CB)} (z:H9 prog W w):
 ∃l:List c,Rd (GB w W) v k l.length (l.flatMap encA)/\VR (Jr W.heap.size) v v/\l.length<=9223372036854775807:=by
 rcases DataW.trod_slice q ht with⟨A,_⟩|⟨a,len,cap,ah,rest,n,_,A,_,_,ab,hm,ai,hx,_⟩
 .cases A
  exact⟨[],⟨by simp,Z,0,B,Ae _,λ_=>rfl,λa h=>by cases h⟩,.az _ _,Al _⟩
 cases A;have C:Cell.ok prog W .any base st (.slice (I a) len cap):=by
  unfold Cell.okWide at t;rw[q] at t;exact t
 unfold Cell.ok at C;rw[q] at C;obtain⟨_,_,_,D,aj,ak,m,_⟩:=C;have hb:a.block<W.heap.size:=by
  unfold Jd at m;cases h:W.heap[a.block]? with
  |none=>rw[h] at m;cases m
  |some o=>exact(Array.getElem?_eq_some_iff.1 h).1
 have N:∀i,i<len->∃b:c,W.cells? 0 (a.add (i*k)) k=I (encA b):=λi U=>by
  have O:=hx i U;rw[Ab (by omega),hk] at O;obtain⟨cs,E,p⟩:=Option.bind_eq_some_iff.1 O;obtain⟨b,rfl⟩:=he p;exact⟨b,E⟩
 obtain⟨F,K,ad⟩:=a;have D:ad=none:=D;subst D;obtain⟨f,ae⟩:∃f:Fin len->c,∀i:Fin len,W.cells? 0 (Addr.add ⟨F,K,Z⟩ (i.1*k)) k=I (encA (f i)):=⟨λi=>Classical.choose (N i.1 i.2),λi=>Classical.choose_spec (N i.1 i.2)⟩;have af:∀i (U:i<len) r,r<k->W.cell? ⟨F,K+(i*k+r),Z⟩=(encA (f ⟨i,U⟩))[r]?:=λi U r hr=>by
  have h:=ae ⟨i,U⟩;unfold World.cells? at h;rw[Bi (Al _)] at h;have E:=mapM_some_get h r r (by simp[hr]);rw[←E,EL,EL,DD]
 obtain⟨l,P⟩:∃l:List c,l=List.ofFn f:=⟨_,B⟩;have L:l.length=len:=by rw[P,List.length_ofFn]
 have Q:l.flatMap encA=(l.map encA).flatten:=rfl;have S:∀g∈l.map encA,g.length=k:=λg z=>by
  obtain⟨b,_,rfl⟩:=List.mem_map.1 z;exact(M b).2
 have T:(l.flatMap encA).length=len*k:=by rw[Q,IU _ S,A4,L]
 have R:Rd (GB w W) (.slice (I ⟨F,K,Z⟩) len cap) k len (l.flatMap encA):=Aad z ⟨_,m⟩ T ab λj u d=>by
  have V:j<len*k:=by rw[←T];exact(List.getElem?_eq_some_iff.1 d).1
  have X:j/k<len:=Nat.div_lt_of_lt_mul (by rw[UI];exact V);rw[Q,IL _ S j (by rw[A4,L];exact V),AX,Ab (by omega)] at d;simp only[Ek,CC] at d;have ag:l[j/k]'(by omega)=f ⟨j/k,X⟩:=by simp only[P,List.getElem_ofFn]
  rw[ag] at d;have p:=af (j/k) X (j%k) (Je _ aa);rw[show j/k*k+j%k=j by rw[UI];exact Nat.div_add_mod j k,d] at p;exact⟨p,List.all_eq_true.1 (M _).1 u (AZ d)⟩
 exact⟨l,by rw[L];exact R,Abf B hb,by have:maxLen=9223372036854775807:=rfl;omega⟩
end
section
variable{H:Type} {Cr:Ai×Aa->H} {W:AM} {sp:Nat->Bool} {Ei:Bool}
def Aiv {j:Nat} {cs:AH} {y:JO H×List IY} (h:DataW.trod Cr prog W 0 sp Ei j 112 cs=I y):∃e:JT,cs=Mm e:=by
 obtain⟨xs,n,_,_,c,d,f⟩:=DataW.trod_struct underlying112 h;rw[show prog.cellsOf 112=2 by kernel_rfl] at c;obtain⟨a,b,rfl⟩:=AAq c;have d:xs.length=2:=d;have g:DataW.trod Cr prog W 0 sp Ei n 9 (([a,b].drop 0).take (prog.cellsOf 9))=xs[0]?:=f 0 _ B;have i:DataW.trod Cr prog W 0 sp Ei n 3 (([a,b].drop 1).take (prog.cellsOf 3))=xs[1]?:=f 1 _ B;rw[c9] at g;rw[c3] at i;obtain⟨k,l⟩:=Pg g (by omega);obtain⟨m,o⟩:=Hx i (by omega);cases l;cases o;exact⟨(k,m),B⟩
def Aat {l:Nat} {cs:AH} {y:JO H×List IY} (h:DataW.trod Cr prog W 0 sp Ei l 208 cs=I y):∃e:Qz,cs=YD e:=by
 obtain⟨xs,n,_,_,f,g,d⟩:=DataW.trod_struct underlying208 h;rw[show prog.cellsOf 208=3 by kernel_rfl] at f;obtain⟨a,b,c,rfl⟩:=Aqc f;have g:xs.length=3:=g;have i:DataW.trod Cr prog W 0 sp Ei n 3 (([a,b,c].drop 0).take (prog.cellsOf 3))=xs[0]?:=d 0 _ B;have j:DataW.trod Cr prog W 0 sp Ei n 3 (([a,b,c].drop 1).take (prog.cellsOf 3))=xs[1]?:=d 1 _ B;have k:DataW.trod Cr prog W 0 sp Ei n 3 (([a,b,c].drop 2).take (prog.cellsOf 3))=xs[2]?:=d 2 _ B;rw[c3] at i j k;obtain⟨m,o⟩:=Hx i (by omega);obtain⟨p,q⟩:=Hx j (by omega);obtain⟨r,s⟩:=Hx k (by omega);cases o;cases q;cases s;exact⟨(m,p,r),B⟩
def Aza {l:AH} (h:l.length=13):∃a0 a1 a b c d e f g i b0 b1 j,l=[a0,a1,a,b,c,d,e,f,g,i,b0,b1,j]:=by
 rcases l with _|⟨a0,_|⟨a1,_|⟨a,_|⟨b,_|⟨c,_|⟨d,_|⟨e,_|⟨f,_|⟨g,_|⟨i,_|⟨b0,_|⟨b1,_|⟨j,_|⟨k,l⟩⟩⟩⟩⟩⟩⟩⟩⟩⟩⟩⟩⟩⟩<;>first|(exact⟨_,_,_,_,_,_,_,_,_,_,_,_,_,rfl⟩)|(simp at h)
def Alb:prog.cellTypes prog.depth 34=I [22,3,23,24,9,27,28,3,3,3,3,3,3]:=by kernel_rfl
def IF {A:Type} {xs:List A} {i:Nat} {o:Option A} (h:o=xs[i]?) (U:i<xs.length):∃y,o=I y:=⟨xs[i],by rw[h,Ab U]⟩
def Ahx {base:Nat} {v:Aa} (M:Acg prog W .any base 34 v) {d:JO H} {ps:List IY} (r:DataW.Trod Cr prog W 0 sp Ei 34 v d ps) {R:List (Nat×CB)} (s:H9 prog W R):
 ∃x:Aco,v=.agg ⟨x.cells⟩/\LR (Jr W.heap.size) x.cells x.cells/\∃L,1125899906842624<=L/\Lt L (GB R W) x.c:=by
 unfold Acg at M;rw[underlying34] at M;obtain⟨⟨cs⟩,rfl,N,ts,S,_,ae⟩:=M;rw[Alb] at S;cases S;have N:cs.length=13:=N.trans (by kernel_rfl);obtain⟨a0,a1,a,b,h,f,g,j,l,m,b0,b1,o,rfl⟩:=Aza N;have w:∀(i:Nat) (v:Aa) (u:Ai),[a0,a1,a,b,h,f,g,j,l,m,b0,b1,o][i]?=I v->([22,3,23,24,9,27,28,3,3,3,3,3,3]:List Ai)[i%13]?=I u->Cell.okWide prog W .any base u v:=λi v u h1 h2=>by
  obtain⟨u',C,h4⟩:=ae i v (by simpa using h1);have C:([22,3,23,24,9,27,28,3,3,3,3,3,3]:List Ai)[i%13]?=I u':=C;rw[h2] at C;cases C;exact h4
 obtain⟨af,r⟩:=r;obtain⟨xs,n,_,_,_,T,q⟩:=DataW.trod_struct underlying34 (show DataW.trod Cr prog W 0 sp Ei af 34 [a0,a1,a,b,h,f,g,j,l,m,b0,b1,o]=I (d,ps) from r);have T:xs.length=6:=T;have ag:prog.cellsOf 30=7:=by kernel_rfl
 have c32:prog.cellsOf 32=2:=by kernel_rfl
 have c26:prog.cellsOf 26=4:=by kernel_rfl
 have y:∀t∈[22,23,24,27,28],prog.cellsOf t=1:=by
  intro t r;have k:([22,23,24,27,28]:Bo).all (λt=>Am (prog.cellsOf t) 1)=true:=by kernel_rfl
  exact Af (List.all_eq_true.1 k t r)
 have f0:DataW.trod Cr prog W 0 sp Ei n 30 (([a0,a1,a,b,h,f,g,j,l,m,b0,b1,o].drop 0).take (prog.cellsOf 30))=xs[0]?:=q 0 _ B;have f1:DataW.trod Cr prog W 0 sp Ei n 32 (([a0,a1,a,b,h,f,g,j,l,m,b0,b1,o].drop 7).take (prog.cellsOf 32))=xs[1]?:=q 1 _ B;have f2:DataW.trod Cr prog W 0 sp Ei n 3 (([a0,a1,a,b,h,f,g,j,l,m,b0,b1,o].drop 9).take (prog.cellsOf 3))=xs[2]?:=q 2 _ B;have f3:DataW.trod Cr prog W 0 sp Ei n 3 (([a0,a1,a,b,h,f,g,j,l,m,b0,b1,o].drop 10).take (prog.cellsOf 3))=xs[3]?:=q 3 _ B;have f4:DataW.trod Cr prog W 0 sp Ei n 3 (([a0,a1,a,b,h,f,g,j,l,m,b0,b1,o].drop 11).take (prog.cellsOf 3))=xs[4]?:=q 4 _ B;have f5:DataW.trod Cr prog W 0 sp Ei n 3 (([a0,a1,a,b,h,f,g,j,l,m,b0,b1,o].drop 12).take (prog.cellsOf 3))=xs[5]?:=q 5 _ B;rw[ag] at f0;rw[c32] at f1;rw[c3] at f2 f3 f4 f5;obtain⟨z2,e2⟩:=Hx f2 (by omega);obtain⟨z3,e3⟩:=Hx f3 (by omega);obtain⟨z4,e4⟩:=Hx f4 (by omega);obtain⟨z5,e5⟩:=Hx f5 (by omega);cases e2;cases e3;cases e4;cases e5;obtain⟨y1,g1⟩:=IF f1 (by omega);obtain⟨O,V,_,_,_,X,aa⟩:=DataW.trod_struct underlying32 g1;have X:O.length=2:=X;have s0:DataW.trod Cr prog W 0 sp Ei V 3 (([j,l].drop 0).take (prog.cellsOf 3))=O[0]?:=aa 0 _ B;have s1:DataW.trod Cr prog W 0 sp Ei V 3 (([j,l].drop 1).take (prog.cellsOf 3))=O[1]?:=aa 1 _ B;rw[c3] at s0 s1;obtain⟨zF,e6⟩:=Hx s0 (by omega);obtain⟨zT,e7⟩:=Hx s1 (by omega);cases e6;cases e7;obtain⟨y0,g0⟩:=IF f0 (by omega);obtain⟨z,D,_,_,_,ab,E⟩:=DataW.trod_struct underlying30 g0;have ab:z.length=4:=ab;have t0:DataW.trod Cr prog W 0 sp Ei D 26 (([a0,a1,a,b,h,f,g].drop 0).take (prog.cellsOf 26))=z[0]?:=E 0 _ B;have t1:DataW.trod Cr prog W 0 sp Ei D 9 (([a0,a1,a,b,h,f,g].drop 4).take (prog.cellsOf 9))=z[1]?:=E 1 _ B;have t2:DataW.trod Cr prog W 0 sp Ei D 27 (([a0,a1,a,b,h,f,g].drop 5).take (prog.cellsOf 27))=z[2]?:=E 2 _ B;have t3:DataW.trod Cr prog W 0 sp Ei D 28 (([a0,a1,a,b,h,f,g].drop 6).take (prog.cellsOf 28))=z[3]?:=E 3 _ B;rw[c26] at t0;rw[c9] at t1;rw[y 27 (by simp)] at t2;rw[y 28 (by simp)] at t3;obtain⟨ah,e8⟩:=Pg t1 (by omega);cases e8;obtain⟨y2,g2⟩:=IF t0 (by omega);obtain⟨A,F,_,_,_,ad,K⟩:=DataW.trod_struct underlying26 g2;have ad:A.length=4:=ad;have u0:DataW.trod Cr prog W 0 sp Ei F 22 (([a0,a1,a,b].drop 0).take (prog.cellsOf 22))=A[0]?:=K 0 _ B;have u1:DataW.trod Cr prog W 0 sp Ei F 3 (([a0,a1,a,b].drop 1).take (prog.cellsOf 3))=A[1]?:=K 1 _ B;have u2:DataW.trod Cr prog W 0 sp Ei F 23 (([a0,a1,a,b].drop 2).take (prog.cellsOf 23))=A[2]?:=K 2 _ B;have u3:DataW.trod Cr prog W 0 sp Ei F 24 (([a0,a1,a,b].drop 3).take (prog.cellsOf 24))=A[3]?:=K 3 _ B;rw[y 22 (by simp)] at u0;rw[c3] at u1;rw[y 23 (by simp)] at u2;rw[y 24 (by simp)] at u3;obtain⟨df,e9⟩:=Hx u1 (by omega);cases e9;obtain⟨_,q0⟩:=IF u0 (by omega);obtain⟨_,q2⟩:=IF u2 (by omega);obtain⟨_,q3⟩:=IF u3 (by omega);obtain⟨_,q4⟩:=IF t2 (by omega);obtain⟨_,q5⟩:=IF t3 (by omega);obtain⟨p,r0,v0,l0⟩:=Ip (encA:=Mm) (k:=2) underlying22 (by kernel_rfl) Aiv (λ_=>⟨B,B⟩) (by decide) (w 0 _ _ B B) q0 s;obtain⟨c,r1,v1,l1⟩:=Ip (encA:=YD) (k:=3) underlying23 (by kernel_rfl) Aat (λ_=>⟨B,B⟩) (by decide) (w 2 _ _ B B) q2 s;obtain⟨e,r2,v2,l2⟩:=Ip (encA:=BV) (k:=5) underlying24 (by kernel_rfl) Aho (λ_=>⟨B,B⟩) (by decide) (w 3 _ _ B B) q3 s;obtain⟨P,r3,v3,l3⟩:=Ip (encA:=Qm) (k:=3) underlying27 (by kernel_rfl) (VT (.inl B)) (λ_=>⟨B,B⟩) (by decide) (w 5 _ _ B B) q4 s;obtain⟨Q,r4,v4,l4⟩:=Ip (encA:=Qm) (k:=3) underlying28 (by kernel_rfl) (VT (.inr B)) (λ_=>⟨B,B⟩) (by decide) (w 6 _ _ B B) q5 s;refine⟨⟨⟨⟨a0,df,a,b,p,c,e⟩,ah,f,g,P,Q⟩,zF,zT,z2,z3,z4,z5⟩,B,?_,1125899906842625+p.length+c.length+e.length+P.length+Q.length,by omega,?_⟩
 .exact .cons v0 (.cons (.int _ _) (.cons v1 (.cons v2 (.cons (.string _) (.cons v3 (.cons v4 (.cons (.int _ _) (.cons (.int _ _) (.cons (.int _ _) (.cons (.int _ _) (.cons (.int _ _) (.cons (.int _ _) .nil))))))))))))
 .exact⟨⟨⟨r0,r1,r2⟩,⟨by show p.length<_;omega,l0⟩,⟨by show c.length<_;omega,l1⟩,⟨by show e.length<_;omega,l2⟩⟩,⟨r3,r4⟩,⟨by show P.length<_;omega,l3⟩,⟨by show Q.length<_;omega,l4⟩⟩
end
end
end Go.Ev
