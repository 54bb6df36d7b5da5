/-
  Part of the proof.
-/
import Derived.Test.YtcooopkognhciaaGreatDoorB0
set_option maxRecDepth 100000
set_option maxHeartbeats 40000000
set_option linter.all false
open Bool renaming false->Ah,true->Ag
open Go renaming BinOp->CT,Code->DC,Func->BC,FuncId->Au,MapEntry->Ap,Operand->BU,TypeId->Ai,TypeInfo->KR,Value->Aa,Addr->BD,Deferred->Hh,IntKind->Cq
open Option renaming none->Z,some->I
open Array renaming toList->aI
open Nat renaming beq->Am,ble->Ar,blt->AD,succ->A3,rec->UE
open List renaming range->BG,pairwise_iff_getElem->F8,length->LT,replicate->AE,eraseIdx_cons_succ->W6,cons->eV,replicate_append_replicate->Qi,all_append->Yqb,contains_eq_mem->Ace,length->LB,set_set->qF,length->HD
open Int renaming ofNat->AQ,toNat->bH,natCast_mul->qP
open ByteArray renaming size->aL
open Go.Value renaming slice->PA,int->AL,bool->CU,tuple->C4
open UInt8 renaming toNat->dE,toNat_inj->qQ
open Classical renaming choose->iW
open Prod renaming fst->Eh,snd->fS,mk->eD
open Go.Utf8 renaming encode->Yqa
namespace Go.Ev
open Go Go.Proofs Tryz
noncomputable section
def il:=@Classical.choose_spec
def im:=@List.find?_eq_none
def E0:=@List.flatMap_append
def Dg:=@List.flatMap_cons
def Iz:=@List.getElem?_of_mem
def fA:=@List.length_nil
def dP:=@List.mem_map
def iU:=@List.nodup_cons
def dY:=@List.pairwise_cons
def Gm:=@List.perm_append_singleton
def Hj:=@List.set_append
def qU:=@List.take_add_one
def UR:=@List.take_append_of_le_length
def kM:=@List.take_sublist
def Mi:=@Nat.beq_refl
def W7:=@Nat.lt_irrefl
section
variable {k k':Cq} {a b:Int} {op:CT} {t:Ai} {τ:Bb} {ox oy:BU} {x y:Aa}
variable {τ:Bb} {t e:Ai} {h c a J:Y} {b o N j i b0 k off t2 m:Nat} {v x z:Aa} {s:WS} {P W:Nat->Prop} {xs ys:AH}
variable {L d:Nat} {a:AH} {S:A9} {f:Au} {h:Y} {Q k:Aa->Y->Prop} [aF S L]
section
variable {h J h0 h1 H:Y} {v fv nv pv cv ev lv u v':Aa} {xs args vs ys:AH} {n b N i k e r j x m c q d a p t2 st sb mo ck lp rm b0 sz off:Nat} {t:Ai} {f:Au} {fn:BC} {s:Bd} {bs:Bl} {ws:Bo} {W:Nat->Prop} {Q:Aa->Y->Prop} {A:Option BD} {z df day:Int} {ss:BZ} {τ:Bb}
variable{S:A9} {L:Nat} {l:List Bool} {w b1:Nat} [aF S L]
def sG (r:Rd h v 1 n (Ay bs)) (l:n<=100000000):
 iB S L 1 186 [v] h λw J=>AS J h.a 5 1 w n (Ay bs):=
 Cn f186 λd m _=>by
  obtain⟨g,A,c,rfl,j,e,k⟩:=r;cases A with
  |
   none=>
   have:=e B;subst this;have:n=0:=G;subst this;rw[(by simpa using g:Ay bs=[])];exact⟨_,B,AA.refl _,AS.nil _ _ _ _⟩
  |
   some a=>
   have r:Rd h (.slice (I a) n c) 1 n (Ay bs):=⟨g,_,c,B,j,e,k⟩;have b:=AA.row h 5 [];have f:=r.C b;have o:AS (BN h 5 []) h.a 5 1 (sL h.a 0 0) 0 []:=⟨B,.inr ⟨h.a,0,[],B,Ae _,Ae _,B,aQ.row h 5 []⟩⟩;obtain⟨s,J,q,t2,p,t⟩:=UN Kq o f.bu f.src Jq (Fa bs) b.a G;refine⟨_,B,_,_,B,_,_,q,b.then p (λi U=>by have:i=h.a:=U;omega),?_⟩
   rw[IW,Ba] at t2;exact t2
def ADt:Bk S L 1 343 [.int .i32 z] h λw J=>w=.bool (decide (z<97\/122<z))/\J=h:=
 Cn f343 λd c _=>by
  refine Bz (λe=>?_) (λe=>?_)
  .refine⟨?_,B⟩
   rw[decide_eq_true Jq];rfl
  .refine⟨?_,B⟩
   by_cases a:122<z
   .rw[decide_eq_true (show z<97\/122<z from .inr a)]
    show CU (decide (122<z))=_;rw[decide_eq_true a]
   .rw[decide_eq_false (show¬(z<97\/122<z) by omega)]
    show CU (decide (122<z))=_;rw[decide_eq_false a]
def BK (h:Y) (b off:Nat) (xs:AH):Prop:=b<h.a/\∃c n e lo U x,h.t.get b=I (.cells c n e lo U x)/\∀i u,xs[i]?=I u->c.get (off+i)=I u
def BK.O (c:BK h b off xs) (e:B0 W h J) (a:¬W b):BK J b off xs:=by
 let⟨hb,y⟩:=c;exact⟨AC hb e.a,e.t b hb a▸y⟩
def BK.C (c:BK h b off xs) (e:AA h J):BK J b off xs:=c.O (e.O λ_=>False) λh=>h
def aQ.cells {e:Ai} (o:aQ h b e xs):BK h b 0 xs:=by
 let⟨hb,c,x,h1,a⟩:=o;exact⟨hb,c,_,_,_,_,_,h1,λi u d=>Jq⟩
def Rd.el (r:Rd h v k n xs) (U:i<n):∃a c,v=.slice (I a) n c/\n<=c/\BK h a.block (a.off+i*k) ((xs.drop (i*k)).take k):=by
 obtain⟨t,A,c,rfl,d,e,f⟩:=r;cases A with
 |none=>have:=e B;omega
 |some a=>
  let⟨g,l,m,o,lo,p,x,q,s⟩:=f a B;refine⟨a,c,B,d,g,l,m,o,lo,p,x,q,λj u b=>?_⟩;rw[DD];refine s _ u ?_;rw[LS] at b;split at b
  .rw[Eg] at b;exact b
  .cases b
def ZX (τ:Bb) (t k:Nat):Bool:=match τ.ds.get t,τ.b.get t with
 |I d,I i=>J5 d&&Am i.size k
 |_,_=>Ah
def EQ {t:Nat} (a:ZX τ t k=Ag) (c:BK h b off xs) (f:LT xs=k):Bw τ t h b off=I (.agg ⟨xs⟩):=by
 unfold ZX at a;split at a
 .rename_i d i g U
  rw[An] at a;let⟨_,l,n,e,lo,m,x,h1,j⟩:=c;have:=HQ j;rw[f,←Af a.2] at this;unfold Bw;simp[h1,g,a.1,D1,U,this]
 .cases a
def aQ.bD {t:Nat} (a:ZX τ t k=Ag) {e:Ai} (o:aQ h b e xs) (c:LT vs=k) (f:i+k<=LT xs) (q:vs.all one=Ag):
 ∃J,BA τ t h b i (.agg ⟨vs⟩)=I J/\aQ J b e (I2 xs i vs)/\Er b h J:=by
 unfold ZX at a;split at a
 .rename_i d n p U
  rw[An] at a;obtain⟨J,g,j,l⟩:=o.bb (by rw[c];exact f) q;refine⟨J,?_,j,l⟩;unfold BA;have m:AJ (.agg ⟨vs⟩)=vs:=B;simp only[U,m,c,Af a.2,g];simp
 .cases a
structure DQ where
 c:Bd
 b:Aa
 a:Bl
def Fj (p:DQ):AH:=[.string p.c,p.b]
def EC (h:Y) (v:Aa) (ps:List DQ):Prop:=Rd h v 2 (LT ps) (ps.flatMap Fj)/\∀p∈ps,aL p.c<=100000000/\LT p.a<=16777216/\Rd h p.b 1 (LT p.a) (Ay p.a)
def EC.C {ps:List DQ} (p:EC h v ps) (e:AA h J):EC J v ps:=
 ⟨p.1.C e,λq a=>⟨(p.2 q a).1,(p.2 q a).2.1,(p.2 q a).2.2.C e⟩⟩
def Vo (ps:List DQ) {p:DQ} (U:ps[i]?=I p):((ps.flatMap Fj).drop (i*2)).take 2=Fj p:=by
 induction ps generalizing i with
 |nil=>cases U
 |cons q ps a=>
  cases i with
  |zero=>cases U;rfl
  |
   succ i=>
   have:=a Jq;rw[show(i+1)*2=i*2+2 by omega];exact this
def U9 (h:Y) (p:DQ) (c:one p.b=Ag):∃k,K7 Ax 184 (.agg #[.string ⟨#[]⟩,.slice Z 0 0]) h=I (AG h.a 0,k)/\k.a=h.a+1/\AA h k/\∃a,BA Ax 184 k h.a 0 (.agg ⟨Fj p⟩)=I a/\AA h a/\aQ a h.a 184 (Fj p):=by
 let⟨k,d,b,e,f⟩:=H1 Ax 184 (.agg #[.string ⟨#[]⟩,.slice Z 0 0]) h;obtain⟨a,g,i,j⟩:=e.bD Kq (vs:=Fj p) B (by show 0+2<=2;decide) (by show(one _&&(one p.b&&Ag))=Ag;rw[c];rfl);exact⟨k,d,f,b,a,g,b.ah j (Ae _),i⟩
def Rd.one (r:Rd h v k n xs):one v=true:=by
 obtain⟨_,A,c,rfl,_⟩:=r;rfl
def AS.mono {M:Nat} {e:Ai} (o:AS h N e k v n xs) (d:M<=N):AS h M e k v n xs:=by
 obtain⟨i,a|⟨b,c,sp,a,f,g⟩⟩:=o
 .exact⟨i,.inl a⟩
 .exact⟨i,.inr ⟨b,c,sp,a,Ao d f,g⟩⟩
def ACf {ps:List DQ} (p:EC h v ps) (P:LT ps<=1000000):
 iB S L 2 104 [v,.string s] h λw J=>(w=.tuple #[.slice Z 0 0,.bool Ah]\/∃q∈ps,∃o,w=.tuple #[o,.bool Ag]/\AS J h.a 5 1 o (LT q.a) (Ay q.a)):=
 Cn f104 λd Q R=>by
  let⟨r,u⟩:=p;obtain⟨x,b,c,rfl,y,z,C⟩:=r;have D:Rd h (.slice b (LT ps) c) 2 (LT ps) (ps.flatMap Fj):=⟨x,b,c,B,y,z,C⟩;refine⟨λl A f=>∃k:Nat,A=[(1,.string s),(8,.slice b (LT ps) c),(9,Vi (LT ps)),(10,Vi k)]/\k<=LT ps/\l=LT ps-k/\AA h f,
   ⟨_,_,Sq,?_,0,B,Al _,B,AA.refl _⟩,?_⟩
  .omega
  rintro l A f ⟨k,rfl,T,rfl,g⟩ V;apply Bz<;>intro e
  .have m:k<LT ps:=G
   have i:=Ab m;obtain⟨q,E⟩:∃q,q=ps[k]:=⟨_,B⟩;rw[←E] at i;have n:=AZ i;let⟨W,X,t⟩:=u q n;let⟨a1,y1,F,_,H⟩:=(D.C g).el m;cases F;rw[Vo ps i] at H;let⟨h1,t2,t3,t4,h2,t5,t6,t7⟩:=U9 f q t.one;have a:=g.trans t6;refine⟨G,_,EQ Kq Jq B,_,_,t2,_,t5,_,ld B (t7.cell B),_,B,Ad (λK=>?_) (λK=>?_)⟩
   .refine⟨_,ld B (t7.cell B),_,sG (t.C a) G d G,?_⟩
    rintro M j ⟨N,O⟩;refine⟨a.trans N,.inr ⟨q,n,M,B,O.mono a.a⟩⟩
   .refine⟨Pq,_,_,Sq,?_,k+1,B,G,B,a⟩
    omega
  .exact⟨g,.inl B⟩
def th (p:aC h b 0 (Vi n)):Bk S L 1 162 [AG b 0] h λv J=>v=Vi n/\J=h:=
 Cn f162 λd c _=>by
  refine⟨_,B,_,ld B p,B,B⟩
def kD (p:aC h b 0 (Vi n)) {i:Int}:Bk S L 2 183 [AG b 0,Vi i] h λv J=>v=.bool (decide (0<=i/\i<n))/\J=h:=
 Cn f183 λd f _=>by
  refine Bz (λe=>?_) (λe=>?_)
  .refine GZ (th p d G) ?_
   refine⟨?_,B⟩;by_cases a:i<n
   .rw[decide_eq_true (show 0<=i/\i<(n:Int) from⟨e,a⟩)]
    show CU (decide (i<(n:Int)))=_;rw[decide_eq_true a]
   .rw[decide_eq_false (show¬(0<=i/\i<n) by omega)]
    show CU (decide (i<n))=_;rw[decide_eq_false a]
  .refine⟨?_,B⟩
   rw[decide_eq_false Jq];rfl
def rS {i:Int}:Bk S L 1 182 [Vi i] h λv J=>v=.bool (decide (0<=i/\i<=30000))/\J=h:=
 Cn f182 λd c _=>by
  refine Bz (λe=>?_) (λe=>?_)
  .refine⟨?_,B⟩
   by_cases a:i<=30000
   .rw[decide_eq_true (show 0<=i/\i<=30000 from⟨e,a⟩)]
    show CU (decide (i<=30000))=_;rw[decide_eq_true a]
   .rw[decide_eq_false (show¬(0<=i/\i<=30000) by omega)]
    show CU (decide (i<=30000))=_;rw[decide_eq_false a]
  .refine⟨?_,B⟩
   rw[decide_eq_false Jq];rfl
def C9 (a b:Int):Value:=.agg #[.int .i64 a,.int .i64 b]
def Xs (a b c d:Int):IZ Ax Op.maxDepth 321 (C9 a b) (C9 c d)=I (a==c&&b==d):=by
 rw[(by rfl:IZ Ax Op.maxDepth 321 (C9 a b) (C9 c d)=(match I (a==c) with|some Ag=>(match I (b==d) with|some Ag=>I Ag|some Ah=>I Ah|none=>Z)|some Ah=>I Ah|none=>Z))]
 cases a==c<;>cases b==d<;>rfl
def Np (l:GX) (a b:Int):Option Int:=match l with
 |[]=>Z
 |p::l=>if a==p.1.1&&b==p.1.2 then I p.2 else Np l a b
def Kd (k v:Aa):∀(es:List Ap) (b lo:Nat),Fc b lo es=Ag->lo<=b->Fc (b+1) lo (es++[⟨k,v,b⟩])=Ag
 |
  [],b,lo,_,a=>by
  show(Ar lo b&&AD b (b+1)&&Ag)=Ag;rw[Aq a,show AD b (b+1)=Ag by rw[AK];omega];rfl
 |
  e::es,b,lo,h,a=>by
  simp only[Fc,An,AK] at h;show(Ar lo e.born&&AD e.born (b+1)&&Fc (b+1) (A3 e.born) (es++[⟨k,v,b⟩]))=Ag;rw[h.1.1,show AD e.born (b+1)=Ag by rw[AK];omega,Kd k v es b _ h.2 G];rfl
def Kc {f:Ap->Ap} (a:∀e,(f e).born=e.born):∀(es:List Ap) (j b lo:Nat),Fc b lo es=Ag->Fc b lo (Cu es j f)=Ag
 |[],_,_,_,_=>rfl
 |e::es,0,b,lo,h=>by simpa[Cu,Fc,a] using h
 |e::es,j+1,b,lo,h=>by
  simp[Cu,Fc,An] at h⊢;exact⟨h.1,Kc a es j b _ h.2⟩
def Amb:∀{es:List Ap} {lo a:Nat},Fc ck lo es=Ag->a<=lo->Fc ck a es=Ag
 |[],_,_,_,_=>rfl
 |e::es,lo,a,h,b=>by
  simp only[Fc,An] at h⊢;exact⟨⟨Aq Jq,h.1.2⟩,h.2⟩
def Zc:∀(es:List Ap) (j a lo:Nat),Fc a lo es=Ag->Fc a lo (es.eraseIdx j)=Ag
 |[],_,_,_,h=>h
 |e::es,0,a,lo,h=>by
  simp only[Fc,An] at h;exact Amb h.2 Jq
 |e::es,j+1,a,lo,h=>by
  simp[W6,Fc,An] at h⊢;exact⟨h.1,Zc es j a _ h.2⟩
def oh (l:GX):Prop:=l.Pairwise λp q=>p.1≠q.1
def HE (h:Y) (r:Nat) (l:GX):Prop:=r<h.a/\∃es b,h.t.get r=I (.map es b)/\es.map (λe=>(e.key,e.val))=l.map (λp=>(C9 p.1.1 p.1.2,AL .i64 p.2))/\Fc b 0 es=Ag/\oh l
def HE.O {l:GX} (c:HE h r l) (e:B0 W h J) (a:¬W r):HE J r l:=by
 let⟨hb,y⟩:=c;exact⟨AC hb e.a,e.t r hb a▸y⟩
def HE.C {l:GX} (c:HE h r l) (e:AA h J):HE J r l:=c.O (e.O λ_=>False) λh=>h
def oP (a b:Int):∀(es:List Ap) (l:GX) (i:Nat),es.map (λe=>(e.key,e.val))=l.map (λp=>(C9 p.1.1 p.1.2,Vi p.2))->
 (CE Ax 321 (C9 a b) es i=I Z/\Np l a b=Z)\/∃j e c,CE Ax 321 (C9 a b) es i=I (I (j,e))/\e.val=Vi c/\Np l a b=I c
 |[],[],i,_=>.inl ⟨B,B⟩
 |[],_::_,_,h=>Jq
 |_::_,[],_,h=>Jq
 |e::es,p::l,i,h=>by
  simp[Bp,eV.injEq,Prod.mk.injEq] at h;let⟨⟨h1,f⟩,d⟩:=h;rw[CE,h1,Xs,Np];cases g:(a==p.1.1&&b==p.1.2) with
  |true=>exact .inr Jq
  |false=>simpa using oP a b es l (i+1) d
def Vk (h:Y) (b n:Nat) (a:Int) (l:GX):Prop:=aC h b 0 (.int .i64 n)/\aC h b 1 (.int .i64 a)/\∃r,aC h b 2 (.map (I r))/\HE h r l
def Mz (n:Nat) (c:Int) (l:GX) (a b:Int):Int:=
 if(0<=a/\a<n)/\(0<=b/\b<n) then(Np l a b).getD c else 30000
def ADb {l:GX} (m:Vk h p n df l) {a b:Int}:Bk S L 3 303 [AG p 0,Vi a,Vi b] h λv J=>v=Vi (Mz n df l a b)/\J=h:=
 Cn f303 λd y _=>by
  obtain⟨o,w,r,q,z,es,F,s,D,_⟩:=m;refine GZ (kD o d G) ?_;refine⟨_,_,B,Ad (λe=>?_) (λe=>?_)⟩
  .have e:¬(0<=a/\a<(n:Int)):=λf=>by rw[decide_eq_true f] at e;cases e
   exact⟨by rw[Mz,Bm (λf=>e f.1)];rfl,B⟩
  refine GZ (kD o d G) ?_;refine⟨_,_,B,Ad (λg=>?_) (λg=>?_)⟩
  .have g:¬(0<=b/\b<(n:Int)):=λf=>by rw[decide_eq_true f] at g;cases g
   exact⟨by rw[Mz,Bm (λf=>g f.2)];rfl,B⟩
  have x:Mz n df l a b=(Np l a b).getD df:=by rw[Mz,Bi ⟨(by simpa using e:0<=a/\a<(n:Int)),(by simpa using g:0<=b/\b<(n:Int))⟩]
  rw[x];have t:Ax.ds.get 317=I (.map 321 3):=by rfl
  have u:Do Ax 5 321 (C9 a b)=true:=by rfl
  rcases oP a b es l 0 D with⟨C,i⟩|⟨j,A,c,C,i,E⟩
  .have k:BW Ax 317 (.map (I r)) (C9 a b) Ag h=I (.tuple #[Vi 0,.bool Ah]):=by
    unfold BW;simp only[t,u,D1,s,C,(by rfl:CP Ax 3=I (Vi 0))];rfl
   refine⟨_,ld B q,_,_,Cs (CN h) k,_,ld B w,?_,B⟩;rw[i];rfl
  .have k:BW Ax 317 (.map (I r)) (C9 a b) Ag h=I (.tuple #[Vi c,.bool Ag]):=by
    unfold BW;simp only[t,u,D1,s,C,i];rfl
   refine⟨_,ld B q,_,_,Cs (CN h) k,?_,B⟩;rw[E];rfl
def ML (l:GX) (a b c:Int):GX:=match l with
 |[]=>[((a,b),c)]
 |p::l=>if a==p.1.1&&b==p.1.2 then((a,b),c)::l else p::ML l a b c
def Ago (a b:Int):Cy (C9 a b) (C9 a b)=true:=by
 rw[(by rfl:Cy (C9 a b) (C9 a b)=((Ag&&decide (a=a))&&((Ag&&decide (b=b))&&Ag)))];simp
def vG (a b c:Int):∀(es:List Ap) (l:GX) (i:Nat) (m:Nat),es.map (λe:Ap=>(e.key,e.val))=l.map (λp=>(C9 p.1.1 p.1.2,Vi p.2))->
 (CE Ax 321 (C9 a b) es i=I Z/\(es++[({key:=C9 a b,val:=Vi c,born:=m}:Ap)]).map (λe:Ap=>(e.key,e.val))=(ML l a b c).map (λp=>(C9 p.1.1 p.1.2,Vi p.2)))\/
 ∃j e,CE Ax 321 (C9 a b) es i=I (I (i+j,e))/\Cy e.key (C9 a b)=Ag/\(Cu es j λe=>{e with key:=C9 a b,val:=Vi c}).map (λe:Ap=>(e.key,e.val))=(ML l a b c).map (λp=>(C9 p.1.1 p.1.2,Vi p.2))
 |[],[],i,m,_=>.inl ⟨B,B⟩
 |[],_::_,_,_,h=>Jq
 |_::_,[],_,_,h=>Jq
 |e::es,p::l,i,m,h=>by
  simp[Bp,eV.injEq,Prod.mk.injEq] at h;let⟨⟨h1,f⟩,g⟩:=h;rw[CE,h1,Xs,ML];cases d:(a==p.1.1&&b==p.1.2) with
  |true=>
   refine .inr ⟨0,e,B,?_,?_⟩
   .rw[h1]
    simp[An,beq_iff_eq] at d;rw[←d.1,←d.2];exact Ago a b
   .simp[Cu,g]
  |
   false=>
   rcases vG a b c es l (i+1) m g with⟨o,n⟩|⟨j,k,o,n,q⟩
   .refine .inl ⟨o,?_⟩
    simpa[h1,f] using n
   .refine .inr ⟨j+1,k,?_,n,?_⟩
    .rw[show i+(j+1)=i+1+j by omega];exact o
    .simp only[Cu,Bp,h1,f,q];rfl
def Wj {a b c:Int}:∀{l:GX} {q:(Int×Int)×Int},q∈ML l a b c->q.1=(a,b)\/q∈l
 |[],q,h=>.inl (by rw[bQ.1 h])
 |p::l,q,h=>by
  rw[ML] at h;split at h
  .rcases bZ.1 h with rfl|h
   .exact .inl B
   .exact .inr Jq
  .rcases bZ.1 h with rfl|h
   .exact .inr Av
   .exact(Wj h).imp Jq Jq
def OH {a b c:Int}:∀{l:GX},oh l->oh (ML l a b c)
 |[],_=>List.pairwise_singleton _ _
 |p::l,h=>by
  have J:=dY.1 h;rw[ML];split
  .rename_i d
   simp[An,beq_iff_eq] at d;exact dY.2 Jq
  .rename_i d
   refine dY.2 ⟨λq f=>?_,OH J.2⟩;rcases Wj f with e|e
   .intro g
    rw[e] at g;exact d Jq
   .exact J.1 q e
def ABt {l:GX} (m:HE h r l) (a b c:Int):∃J,BH Ax 317 (.map (I r)) (C9 a b) (Vi c) h=I J/\HE J r (ML l a b c)/\Er r h J:=by
 obtain⟨d,es,o,g,t,i,s⟩:=m;have k:Ax.ds.get 317=I (.map 321 3):=by rfl
 have n:Do Ax 5 321 (C9 a b)=true:=by rfl
 rcases vG a b c es l 0 o t with⟨p,q⟩|⟨j,e,p,q,u⟩
 .refine⟨h.put r (.map (es++[({key:=C9 a b,val:=Vi c,born:=o}:Ap)]) (o+1)),?_,⟨by rw[Cc];exact d,_,_,by rw[BQ,Bi B],q,Kd _ _ es o 0 i (Al _),OH s⟩,Er.put _ _ _⟩
  unfold BH;simp[k,n,D1,g,p]
 .rw[Ba] at p
  refine⟨h.put r (.map (Cu es j λe=>{e with key:=C9 a b,val:=Vi c}) o),?_,⟨by rw[Cc];exact d,_,_,by rw[BQ,Bi B],u,Kc (f:=λe=>{e with key:=C9 a b,val:=Vi c}) (λ_=>B) es j o 0 i,OH s⟩,Er.put _ _ _⟩
  unfold BH;simp[k,n,D1,g,p,q]
def Nh (l:GX) (a b:Int):GX:=match l with
 |[]=>[]
 |p::l=>if a==p.1.1&&b==p.1.2 then l else p::Nh l a b
def uy (a b:Int):∀(es:List Ap) (l:GX) (i:Nat),es.map (λe:Ap=>(e.key,e.val))=l.map (λp=>(C9 p.1.1 p.1.2,Vi p.2))->
 (CE Ax 321 (C9 a b) es i=I Z/\Nh l a b=l)\/
 ∃j e,CE Ax 321 (C9 a b) es i=I (I (i+j,e))/\(es.eraseIdx j).map (λe:Ap=>(e.key,e.val))=(Nh l a b).map (λp=>(C9 p.1.1 p.1.2,Vi p.2))
 |[],[],i,_=>.inl ⟨B,B⟩
 |[],_::_,_,h=>Jq
 |_::_,[],_,h=>Jq
 |e::es,p::l,i,h=>by
  simp[Bp,eV.injEq,Prod.mk.injEq] at h;let⟨⟨h1,d⟩,c⟩:=h;rw[CE,h1,Xs,Nh];cases g:(a==p.1.1&&b==p.1.2) with
  |true=>exact .inr ⟨0,e,B,Jq⟩
  |
   false=>
   rcases uy a b es l (i+1) c with⟨k,n⟩|⟨j,f,k,m⟩
   .refine .inl ⟨k,?_⟩
    simp[n]
   .refine .inr ⟨j+1,f,?_,?_⟩
    .rw[show i+(j+1)=i+1+j by omega];exact k
    .simp only[W6,Bp,h1,d,m];rfl
def Vw (a b:Int):∀l:GX,(Nh l a b).Sublist l
 |[]=>.slnil
 |p::l=>by
  rw[Nh];split
  .exact List.sublist_cons_self _ _
  .exact List.Sublist.cons_cons _ (Vw a b l)
def AEn {l:GX} (m:HE h r l) (a b:Int):∃J,Bx Ax .delete [317,321] [.map (I r),C9 a b] h=I (.tuple #[],J)/\HE J r (Nh l a b)/\Er r h J:=by
 let⟨c,es,ck,d,m6,f,m8⟩:=m;have g:Ax.ds.get 317=I (.map 321 3):=B
 have i:Do Ax 5 321 (C9 a b)=Ag:=B
 suffices H:∃J,II Ax [317,321] [.map (I r),C9 a b] h=I J/\HE J r (Nh l a b)/\Er r h J by
  let⟨J,k,n⟩:=H;exact⟨J,by simp[Bx,k],n⟩
 rcases uy a b es l 0 m6 with⟨o,q⟩|⟨j,e,o,p⟩
 .refine⟨h.put r (.map es ck),?_,⟨Jq,_,_,by rw[BQ,Bi B],Jq,f,Jq⟩,Er.put _ _ _⟩
  unfold II;simp[g,i,D1,d,o]
 .rw[Ba] at o
  refine⟨h.put r (.map (es.eraseIdx j) ck),?_,⟨Jq,_,_,by rw[BQ,Bi B],p,Zc es j ck 0 f,m8.sublist (Vw a b l)⟩,Er.put _ _ _⟩;unfold II;simp[g,i,D1,d,o]
def F6 (h:Y) (b n:Nat) (a:Int) (r:Nat) (l:GX):Prop:=b≠r/\aC h b 0 (.int .i64 n)/\aC h b 1 (.int .i64 a)/\aC h b 2 (.map (I r))/\HE h r l
def F6.C {l:GX} (m:F6 h b n df r l) (e:AA h J):F6 J b n df r l:=
 ⟨m.1,m.2.1.C e,m.2.2.1.C e,m.2.2.2.1.C e,m.2.2.2.2.C e⟩
def P9 {l:GX} (m:HE J r l):HE (h.M J) r l:=by
 let⟨a,b⟩:=m;exact⟨Jq,Jq⟩
def Da {l l':GX} (u:Er r h J) (m:F6 h b n df r l) (m':HE J r l'):F6 J b n df r l':=
 ⟨m.1,m.2.1.ah u m.1,m.2.2.1.ah u m.1,m.2.2.2.1.ah u m.1,m'⟩
def sy {l:GX} (m:F6 h b n df r l) {x y:Int}:Bk S L 3 97 [AG b 0,Vi x,Vi y,Vi z] h λw J=>
 B0 (·=r) h J/\((w=Vi 6/\¬((0<=x/\x<n)/\(0<=y/\y<n)/\(0<=z/\z<=30000))/\F6 J b n df r l)\/(w=Vi 0/\(0<=x/\x<n)/\(0<=y/\y<n)/\(0<=z/\z<=30000)/\F6 J b n df r (if z=df then Nh l x y else ML l x y z))):=
 Cn f97 λd H _=>by
  obtain⟨K,u,M,N,O⟩:=m;have o:F6 h b n df r l:=Jq;have q:B0 (·=r) h h:=(AA.refl h).O _;refine⟨_,B,GZ (kD u d G) ?_⟩;refine⟨_,_,B,Ad (λe=>?_) (λe=>?_)⟩
  .have e:¬(0<=x/\x<(n:Int)):=λa=>by rw[decide_eq_true a] at e;cases e
   exact⟨q,.inl ⟨B,λa=>e a.1,o⟩⟩
  have e:0<=x/\x<(n:Int):=Gq;refine GZ (kD u d G) ?_;refine⟨_,_,B,Ad (λc=>?_) (λc=>?_)⟩
  .have c:¬(0<=y/\y<(n:Int)):=λa=>by rw[decide_eq_true a] at c;cases c
   exact⟨q,.inl ⟨B,λa=>c a.2.1,o⟩⟩
  have c:0<=y/\y<(n:Int):=Gq;refine GZ (rS d G) ?_;refine⟨_,_,B,Ad (λf=>?_) (λf=>?_)⟩
  .have f:¬(0<=z/\z<=30000):=λa=>by rw[decide_eq_true a] at f;cases f
   exact⟨q,.inl ⟨B,λa=>f a.2.2,o⟩⟩
  have f:0<=z/\z<=30000:=Gq;obtain⟨T,U,v,A,P⟩:=H1 Ax 321 (C9 0 0) h;obtain⟨p,C,D,E⟩:=(A:aQ T h.a 321 [Vi 0,Vi 0]).bD (k:=2) Kq (i:=0) (vs:=[Vi x,Vi y]) B Jq B;have s:=v.ah E Jq;have R:Bw Ax 321 p h.a 0=I (C9 x y):=EQ Kq (D:aQ p h.a 321 [Vi x,Vi y]).cells B;have g:=o.C s;refine⟨_,_,U,_,C,_,ld B g.2.2.1,Bz (λt=>?_) (λt=>?_)⟩
  .obtain⟨F,Q,t2,j⟩:=AEn (h:=p.ad) g.2.2.2.2 x y
   exact⟨[],Kq,_,ld B g.2.2.2.1,_,R,_,_,Q,(s.O _).trans j.M.O,.inr ⟨B,e,c,f,by rw[Bi t];exact Da j.M g (P9 t2)⟩⟩
  .obtain⟨F,Q,t2,j⟩:=ABt (h:=p.ad) g.2.2.2.2 x y z
   exact⟨[],Kq,_,ld B g.2.2.2.1,_,R,_,_,Cs Nb Q,(s.O _).trans j.M.O,.inr ⟨B,e,c,f,by rw[Bm t];exact Da j.M g (P9 t2)⟩⟩
def sA {n:Int}:iB S L 2 96 [Vi n,Vi df] h λw J=>
 ((w=.tuple #[.pointer Z,Vi 6]/\¬((1<=n/\n<=64)/\(0<=df/\df<=30000)))\/((1<=n/\n<=64)/\(0<=df/\df<=30000)/\∃b r,h.a<=b/\h.a<=r/\w=.tuple #[AG b 0,Vi 0]/\F6 J b n.toNat df r [])):=
 Cn f96 λd m _=>by
  refine Bz (λe=>?_) (λe=>?_)
  .exact⟨AA.refl h,.inl ⟨B,G⟩⟩
  apply Bz<;>intro o
  .exact⟨AA.refl h,.inl ⟨B,G⟩⟩
  refine GZ (rS d G) ?_;refine⟨_,_,B,Ad (λa=>?_) (λa=>?_)⟩
  .have a:¬(0<=df/\df<=30000):=λf=>by rw[decide_eq_true f] at a;cases a
   exact⟨AA.refl h,.inl ⟨B,λf=>a f.2⟩⟩
  obtain⟨p,i,j,k,l⟩:=H1 Ax 319 (.agg #[Vi n,Vi df,.map (I h.a)]) (h.new (.map [] 0));have c:=k;rw[Ck] at i c l;refine⟨_,_,i,(AA.new h (.map [] 0)).trans j,.inr ⟨G,Jq,h.a+1,h.a,G,G,B,G,?_,c.cell B,c.cell B,HE.C ⟨by rw[Ck];omega,[],0,by rw[CK,Bi B],B,B,.nil⟩ j⟩⟩;rw[←(G:n=(bH n:Int))];exact c.cell B
def mx {x:Int}:Bk S L 1 297 [Vi x] h λw J=>w=.bool Ah/\J=h:=
 Cn f297 λd b _=>by
  refine⟨?_,B⟩;show CU (!decide (x=x))=_;simp
def Dx (x y:Int):Int:=if x<y then-1 else if y<x then 1 else 0
def Qo {x y:Int}:Bk S L 2 209 [Vi x,Vi y] h λw J=>w=Vi (Dx x y)/\J=h:=
 Cn f209 λd c _=>by
  refine GZ (mx d G) ?_;refine GZ (mx d G) ?_;apply Bz<;>intro e
  .exact⟨by rw[Dx,Bi e];rfl,B⟩
  apply Bz<;>intro b
  .exact⟨by rw[Dx,Bm e,Bi b];rfl,B⟩
  exact⟨by rw[Dx,Bm e,Bm b];rfl,B⟩
def sZ (r:Rd h v k n xs):Bk S L 1 454 [v] h λw J=>w=Vi n/\J=h:=
 Cn f454 λd b _=>by
  obtain⟨_,A,c,rfl,_⟩:=r;exact⟨B,B⟩
def Hm (n w:Nat) (a:Bo) (i:Int):Int:=if 0<=i/\i<n then min (E1 a w i.toNat) 1073741824 else 0
def Im (n w:Nat) (a:Bo) (i:Int):0<=Hm n w a i/\Hm n w a i<=1073741824:=by
 have:=FM a w i.toNat;unfold Hm;split<;>omega
def Xo (p:BX h b n w ws) {i:Int}:Bk S L 3 198 [AG b 0,Vi i] h λv J=>v=Vi (Hm n w ws i)/\J=h:=
 Cn f198 λd g _=>by
  refine GZ (ZZ p d G) ?_;intro z c;have e:z=Hm n w ws i:=by
   rw[Hm];by_cases f:0<=i/\i<n
   .rw[Bi f] at c⊢;omega
   .rw[Bm f] at c⊢;omega
  have j:=Im n w ws i;refine⟨_,.inl Pq,?_,B⟩;rw[e];rfl
def AGe (p:BX h b n w ws) {i e:Int} (U:0<=i/\i<=9223372036854775806):Bk S L 4 286 [AG b 0,Vi i,Vi e] h λv J=>v=.tuple #[Vi (Hm n w ws i),Vi (if i+1<n then Hm n w ws (i+1) else e)]/\J=h:=
 Cn f286 λd f _=>by
  refine⟨Pq,GZ (K3 p.1 d G) ?_⟩;apply Bz<;>intro c
  .refine⟨Pq,GZ (Xo p d G) ?_⟩
   refine GZ (Xo p d G) ?_;rw[Bi c];exact⟨B,B⟩
  .refine GZ (Xo p d G) ?_
   rw[Bm c];exact⟨B,B⟩
def AR (l:BZ):AH:=l.map Value.string
def Dl {l:BZ} (a:k<LT l):(AR l)[k]?=I (.string l[k]):=by
 unfold AR;rw[AX,Ab a];rfl
def CJ {a b:Bd}:Gp (aI a.data) (aI b.data)=Ag↔a=b:=by
 rw[J0,beq_iff_eq];constructor
 .intro h
  cases a with|mk a=>cases b with|mk b=>cases a with|mk a=>cases b with|mk b=>simp at h;rw[h]
 .rintro rfl;rfl
end
section
variable(m:Bool) (τ:Bb) (call:Be)
def YN (sz:Nat):List Tmp->AH->As->Option As
 |[],[],A=>I A
 |p::ps,v::vs,A=>bif AD p sz then YN sz ps vs ((p,v)::A) else Z
 |_,_,_=>Z
def Ki (l:Nat) (b:LoopState->Option DC->HB) (a:Option DC) (Q:Aa->Y->Prop) (_:As) (h:Y):Prop:=
 ∃st p,h.t.get l=I (b st p)/\Q (.bool a.isNone) (h.put l (b (match a with|Z=>.ready|I _=>.done) a))
def Um (L:Nat) (l:Nat) (a:LoopState->Option DC->HB) (sz:Nat) (ps:List Tmp) (c d:DC) (e:AH) (A:As) (h:Y) (Q:Aa->Y->Prop):Prop:=
 match YN sz ps e A with
 |I f=>J2 τ call L sz c (kp (λg b=>b.t.get l=I (a .ready Z)/\
  J2 τ call L sz d (kp (Ki l a Z Q) (λid=>Ki l a (I (.exit id)) Q) (Ki l a (I .ret) Q)) g (b.put l (a .busy Z))) (λ_ _ _=>False) (λ_ _=>False)) f h
 |Z=>False
end
section
variable{τ:Bb} {call:Be}
def Pt {sz:Nat}:∀(ps:List Tmp) (vs:AH) (A b:As) (a:T Aa) (ds:List Hh),YN sz ps vs A=I b->Gx A ⟨a,sz,ds⟩->∃c,JY sz ps vs a=I c/\Gx b ⟨c,sz,ds⟩
 |[],[],A,b,a,ds,h,r=>by cases h;exact⟨a,B,r⟩
 |[],_::_,A,b,a,ds,h,r=>Jq
 |_::_,[],A,b,a,ds,h,r=>Jq
 |p::ps,v::vs,A,b,a,ds,h,r=>by
  rw[YN] at h;cases hb:AD p sz with
  |false=>rw[hb] at h;cases h
  |true=>
   rw[hb] at h;let⟨c,f,g⟩:=Pt ps vs ((p,v)::A) b (a.ins p v) ds h (λx u d=>by
    show(a.ins p v).get x=I u;rw[GC] at d;rw[T.M];split at d
    .rename_i e;subst e;rw[Bi B];exact d
    .rename_i e;rw[Bm (λh=>e h.symm)];exact r _ _ d)
   exact⟨c,by rw[JY,hb];exact f,g⟩
def Ahr {S:A9} {L n l:Nat} {st:LoopState} {o:Option DC} {f:T Aa} {sz:Nat} {ps:List Tmp} {a b:DC} {d:Nat} {i:AH} {A:As} {h:Y} {Q:Aa->Y->Prop}
 (s:h.t.get l=I (.loop st o f sz ps a b d)) (r:Gx A ⟨f,sz,[]⟩) (c:Um τ (B8 τ S L n) L l (λst p=>.loop st p f sz ps a b d) sz ps a b i A h Q):Cd (B8 τ S L (n+1)) (.yield l) i h Q:=by
 unfold Um at c;split at c
 case h_2=>cases c
 rename_i u v;let⟨w,x,z⟩:=Pt ps i A u f [] v r;have G:∀(j:Option DC) (fr:Fr) (h:Y) (_:Unit) (A:As),fr.sz=sz->fr.ds=[]->Gx A fr->Ki l (λst p=>.loop st p f sz ps a b d) j Q A h->P1 Q λy=>Fy l j y.1 fr h:=λj fr h _ A _ N _ ⟨_,_,C,D⟩=>⟨_,_,D,λk kp=>by simp only[Fy,N,IJ,C];cases j<;>rfl⟩
 suffices H:P1 Q λy=>B7 τ (B8 τ S L n) L (I l) a (.mk (λfr g=>
  (match fr.ds,g.t.get l with
   |[],I (.loop .ready Z _ _ _ _ _ _)=>(match IJ g l .busy Z with
    |I E=>B7 τ (B8 τ S L n) L (I l) b (.mk (Fy l Z y.1) (λid=>Fy l (I (.exit id)) y.1) (Fy l (I .ret) y.1) (λ_ _ _=>Z)) fr E
    |Z=>Z)
   |_,_=>Z))
  (λ_ _ _=>Z) (λ_ _=>Z) (λ_ _ _=>Z)) ⟨w,sz,[]⟩ h from H.imp λ_ h=>h.imp λ_ ⟨q,e⟩=>⟨q,λk kp=>Eq.trans (by
   show Ll τ (B8 τ S L n) L l i _ k=_;unfold Ll;rw[s];simp only[x];rfl) (e k kp)⟩
 refine La W0 R3 L sz a _ _ _ () _ h c z B B ⟨λfr g _ A F J K ⟨m,c1⟩=>?_,λ_ _ _ _ _ _ _ _ c=>c.elim,λ_ _ _ _ _ _ _ c=>c.elim,λ_ _ _ _ _ _ _ _ c=>c.elim⟩;have M:IJ g l .busy Z=I (g.put l (.loop .busy Z f sz ps a b d)):=by
  unfold IJ;rw[m]
 simp only[J,m,M];exact La W0 R3 L sz b _ _ A () fr _ c1 K F J ⟨G Z,λid=>G (I (.exit id)),G (I .ret),λ_ _ _ _ _ _ _ _ c=>c.elim⟩
def JM {k:Y->Prop}:∀(D:Bo) {h:Y},D.Nodup->(∀b∈D,h.t.get b=I (.aq Ah))->(∀J,J.a=h.a->B0 (·∈D) h J->k J)->Og D k h
 |[],h,_,_,H=>H h B ((AA.refl h).O _)
 |b::D,h,d,f,H=>by
  refine⟨f b Av,JM D (iU.1 d).2 (λc a=>?_) λJ g a=>H J Jq ?_⟩
  .have j:c≠b:=λe=>(iU.1 d).1 (e▸a)
   rw[BQ,Bm j];exact f c (Az _ a)
  .exact(((Er.put h b (.aq Ag)).O).mono (λi U=>Jq)).trans (a.mono λi U=>Az _ U)
def Arm (l:Nat) (b:LoopState->Option DC->HB) (K:KG Bo) (A:As) (D:Bo) (h:Y):Prop:=
 ∃st a,h.t.get l=I (b st a)/\st≠.busy/\(match a with
  |Z=>K.n A D (h.put l (b .exhausted a))
  |some .ret=>K.r A D (h.put l (b .exhausted a))
  |I (.exit id)=>K.x id A D (h.put l (b .exhausted a))
  |_=>False)
def XI {fn:BC} (h:τ.fn.get f=I fn) (hb:fn.body.isSome=Ag):(match τ.fn.get f with|some fn=>fn.body.isSome=Ag|none=>False):=Jq
def T3 {m:Bool} {S:A9} {L n sz:Nat} {ps:Array Tmp} {e g:DC} {K:KG Bo} {A:As} {D:Bo} {h:Y} {f:Au} {first cap:Array Aa}
 (H:∀(i:LoopState->Option DC->HB),(∀q p,(i q p).live=Ag)->(∀(d:Nat) (j:As) (l:AH) (k:Y) (Q:Aa->Y->Prop),Sub j A->k.t.get (A3 h.a)=I (i .ready Z)->
  Um τ (B8 τ S L d) L (A3 h.a) i sz (aI ps) e g l j k Q->Cd (B8 τ S L (d+1)) (.yield (A3 h.a)) l k Q)->
  JW m (B8 τ S L n) (.func f) (aI first++[.func (.yield (A3 h.a)) #[] #[]]++aI cap) ((h.new (.aq Ah)).new (i .ready Z)) (λ_ a=>Arm (A3 h.a) i K A (h.a::D) a)):
 ∀b,Gx A ⟨b,sz,[]⟩->JW m (B8 τ S L n) (.func f) (aI first++[.func (.yield (A3 h.a)) #[] #[]]++aI cap) ((h.new (.aq Ah)).new (.loop .ready Z b sz (aI ps) e g h.a)) (λ_ a=>uk (A3 h.a) K A (h.a::D) a):=by
 intro b r;let⟨Q,c,o⟩:=H (λst p=>.loop st p b sz (aI ps) e g h.a) (λ_ _=>B) (λm j l k Q q s c=>Ahr s (λt v u=>r t v (q t v u)) c);refine⟨Q,c,λv a w=>?_⟩;let⟨st,x,y,z,C⟩:=o v a w;exact⟨st,x,b,sz,aI ps,e,g,h.a,y,z,C⟩
end
section
variable{S:A9} {L:Nat} [aF S L]
section
variable {h J h0 h1 H:Y} {v fv nv pv cv ev lv u v':Aa} {xs args vs ys:AH} {b N i k e r j x m c q d a p t2 st sb mo ck lp rm b0 sz off:Nat} {t:Ai} {f:Au} {fn:BC} {s:Bd} {bs:Bl} {ws:Bo} {W:Nat->Prop} {Q:Aa->Y->Prop} {A:Option BD} {z df day:Int} {ss:BZ} {τ:Bb}
def P7 (l:List Bool) (c:Bool) (h:i<=j):(l.take i).count c<=(l.take j).count c:=by
 have:l.take i=(l.take j).take i:=Jq
 rw[this];exact(kM i (l.take j)).count_le c
def Akm (l:List Bool) (c:Bool) (i:Nat):(l.take (i+1)).count c<=(l.take i).count c+1:=by
 rw[qU,K0];have:(l[i]?.toList).count c<=(l[i]?.toList).length:=HM;have a:(l[i]?.toList).length<=1:=Jq
 omega
def Oi:∀l:List Bool,l.count Ag+l.count Ah=LT l
 |[]=>rfl
 |b::l=>by
  have:=Oi l;cases b<;>simp<;>omega
def XB (l:List Bool) (c:Bool) (i:Nat):(l.take i).count c<=l.count c:=(kM i l).count_le c
def vD (l:List Bool) (U:i<=LT l):(l.take i).count Ag+(l.take i).count Ah=i:=by
 rw[Oi,Cg];omega
def Ahm {l:List Bool} (h0:l[0]?=I Ag) (d:l[1]?=I Ah) {z:Nat} (c:1<(l.take (z+1)).count Ag):2<=z/\1<=(l.take z).count false:=by
 match l,h0,d with
 |a::b::r,h0,d=>
  simp only[CO,B5,I.injEq] at h0 d;subst h0 d
  match z,c with
  |0,c=>simp at c
  |1,c=>simp at c
  |z+2,c=>exact⟨G,Jq⟩
structure En where
 bits:List Bool
 is:List Bool
 a:Bl
 ni:Nat
 b:Nat
 c:Bo
 M:Bo
def En.n (t:En):Nat:=LT t.a+1
def En.O (t:En):Prop:=LT t.bits=2*t.n+1/\t.bits.count Ag=t.n/\t.bits[0]?=I Ag/\t.bits[1]?=I Ah/\t.b<=15/\t.n<=524287/\LT t.M<=20000/\
 ∃a:Nat->Nat,(∀c z,1<=c->(t.bits.take z).count Ag<=c->c<(t.bits.take (z+1)).count Ag->(t.bits.take z).count Ah-1<t.n/\a ((t.bits.take z).count Ah-1)+1=a c)/\
  ∀x∈t.M,x<t.n/\a x<=256
def Bn (l:Bo):AH:=l.map λx:Nat=>AL .i64 x
def HO (l:Bo):(Bn l).length=LT l:=by simp[Bn]
def GH {l:Bo} (a:k<LT l):(Bn l)[k]?=I (Vi (l.getD k 0:Nat)):=by
 unfold Bn;rw[AX,Ak,Ab a];rfl
def DE (h:Y) (b:Nat) (t:En):Prop:=t.O/\(∃p,aC h b 0 (AG p 0)/\Du h p t.bits)/\(∃p,aC h b 1 (AG p 0)/\Du h p t.is)/\(∃v,aC h b 2 v/\Rd h v 1 (LT t.a) (Ay t.a))/\
 (∃p,aC h b 3 (AG p 0)/\BX h p t.ni t.b t.c)/\∃v,aC h b 4 v/\Rd h v 1 (LT t.M) (Bn t.M)
def DE.C {t:En} (T:DE h b t) (e:AA h J):DE J b t:=by
 let⟨a,⟨c,a0,b0⟩,⟨d,a1,b1⟩,⟨f,g,i⟩,⟨j,k,l⟩,m,n,o⟩:=T;exact⟨a,⟨c,a0.C e,b0.C e⟩,⟨d,a1.C e,b1.C e⟩,⟨f,g.C e,i.C e⟩,⟨j,k.C e,l.C e⟩,m,n.C e,o.C e⟩
def Aba {l:List Bool} {n k b c:Nat} (f:LT l=2*n+1) (g:l.count Ag=n) (h0:l[0]?=I Ag) (i:b<LT l) (j:c<LT l) (m:(l.take b).count Ah<=k) (o:k<(l.take (b+1)).count Ah)
 (p:(l.take c).count Ah<=k+1) (q:k+1<(l.take (c+1)).count Ah):b+1<=c/\1<=(l.take (b+1)).count Ag/\(l.take (b+1)).count Ag+c-(b+1)=(l.take c).count Ag/\(l.take (b+1)).count Ag<=(l.take c).count Ag/\(l.take c).count Ag<=n:=by
 have s:=Akm l Ah b;have d:b+1<=c:=by
  rcases A8 b c with h|h
  .exact h
  .have:=P7 l Ah (show c+1<=b+1 by omega);omega
 have t:=P7 l Ah d;have e:=P7 l Ag d;have u:=vD l (show b+1<=LT l by omega);have v:=vD l (show c<=LT l by omega);have a1:=XB l Ag c;have w:1<=(l.take (b+1)).count true:=by
  have:=P7 l Ag (show 1<=b+1 by omega);have x:(l.take 1).count Ag=1:=by
   match l,h0 with
   |a::r,h0=>simp only[CO,I.injEq] at h0;subst h0;simp
  omega
 refine⟨d,w,G,e,G⟩
def ADz {a b:Int} {y:Nat} (d:a=x) (c:b=y):C4 #[Vi a,Vi b]=.tuple #[Vi (x:Int),Vi (y:Int)]:=Jq
def so {t:En} (T:DE h b t) (A:k<t.n):
 iB S L 6 348 [AG b 0,Vi k] h λw J=>∃x y:Nat,w=.tuple #[Vi x,Vi y]/\1<=x/\x<=y/\y<=t.n:=
 Cn f348 λd C _=>by
  let⟨⟨l,m,o,D,E,k6,F,k8⟩,⟨p,f,g⟩,_⟩:=T;have H:t.bits.count Ah=t.n+1:=by have:=Oi t.bits;omega
  refine⟨_,ld B f,_,mz g Ah G d G,?_⟩;rintro K I ⟨i,⟨hb,_⟩|⟨c,rfl,a1,M,N⟩⟩
  .omega
  refine⟨Pq,_,ld B (f.C i),Pq,_,mz (g.C i) Ah G d G,?_⟩;rintro O q ⟨r,⟨hb,_⟩|⟨s,rfl,a,P,Q⟩⟩
  .omega
  have j:=i.trans r;let⟨R,u,V,v,z⟩:=Aba l m o a1 a (G:(t.bits.take c).count Ah<=k) G G G;refine⟨_,ld B (f.C j),_,ZW (g.C j) Ag (c+1) G d G,?_⟩;rintro _ q ⟨rfl,rfl⟩;have e:((c:Int)+1).toNat=c+1:=G;rw[e];refine⟨Pq,Pq,j,_,_,ADz B G,u,v,z⟩
def Arz (a b:Int) (hb:0<=b/\b<18446744073709551616):D8 .u64 a b<=b/\0<=D8 .u64 a b:=by
 have e:(BitVec.ofInt 64 a&&&BitVec.ofInt 64 b).toNat<=(BitVec.ofInt 64 b).toNat:=by rw[BitVec.toNat_and];exact ke
 have d:(BitVec.ofInt 64 b).toNat=bH b:=by rw[BitVec.toNat_ofInt];omega
 have c:D8 .u64 a b=IntKind.wrap .u64 ((BitVec.ofInt 64 a&&&BitVec.ofInt 64 b).toNat:Int):=B;rw[c,G8];omega
def Aks (g:Bo) {w:Nat} (b:w<=15) (i:Nat):E1 g w i<=32767:=by
 obtain⟨q,a⟩:∃q,q=2^w:=⟨_,B⟩;have h:1<=q:=Jq
 have f:q<=2^15:=a▸Na G b
 have c:Es .u64 1 w=q:=by
  unfold Es;have e:min ((w:Int)).toNat IntKind.u64.bits=w:=by show min w 64=w;omega
  rw[e];have:1*2^w=(q:Int):=by rw[a];push_cast;omega
  rw[this];exact FC Pq
 have d:UX (Es .u64 1 w) 1=q-1:=c▸T0 Pq
 unfold E1;split
 .omega
 .show D8 .u64 _ _<=_
  rw[d];exact Int.le_trans (Arz _ _ G).1 G
def sH {t:En} (T:DE h b t) (n:k<=1048576):
 iB S L 3 285 [AG b 0,Vi k] h λw J=>∃(x:Nat) (f:Bool),w=.tuple #[Vi x,.bool f]/\x<=32767:=
 Cn f285 λd o _=>by
  obtain⟨⟨r,s,u,v,g,I,y,H⟩,⟨p,z,A⟩,⟨C,c1,c⟩,_,⟨D,a,j⟩,_⟩:=T;refine⟨_,ld B c1,_,ji c (i:=k) d G,?_⟩;rintro _ h ⟨rfl,rfl⟩;refine⟨_,_,B,Ad (λe=>?_) (λe=>?_)⟩
  .exact⟨AA.refl _,0,Ah,B,G⟩
  refine⟨[],Kq,_,ld B a,_,ld B c1,_,ZW (h:=h.ad) c Ag k G d G,?_⟩;rintro _ _ ⟨rfl,rfl⟩;refine⟨B,_,ZZ (h:=(nb h).ad) (show BX (nb h) _ _ _ _ from j.C (AT (AA.refl h))) d G,?_⟩;rintro _ _ ⟨rfl,rfl⟩;refine⟨B,?_⟩;have E:=FM t.c t.b (((t.bits.take 0).count Ag:Nat):Int).toNat;obtain⟨q,l,m⟩:∃q:Nat,(if(0:Int)<=((t.is.take (k:Int).toNat).count Ag:Nat)/\(((t.is.take (k:Int).toNat).count Ag:Nat):Int)<t.ni then E1 t.c t.b (((t.is.take (k:Int).toNat).count Ag:Nat):Int).toNat else 0)=(q:Int)/\q<=32767:=by
   split
   .have K:=FM t.c t.b (((t.is.take (k:Int).toNat).count Ag:Nat):Int).toNat
    have F:=Aks t.c g (((t.is.take (k:Int).toNat).count Ag:Nat):Int).toNat;exact⟨(E1 t.c t.b (((t.is.take (k:Int).toNat).count Ag:Nat):Int).toNat).toNat,G,G⟩
   .exact⟨0,B,G⟩
  rw[l];refine⟨_,.inl Pq,AT (AT (AA.refl h)),q,Ag,B,m⟩
def jz {t:En} (T:DE h b t):Bk S L 1 79 [AG b 0] h λw J=>w=Vi (LT t.M)/\J=h:=
 Cn f79 λd f _=>by
  let⟨_,_,_,_,_,v,c4,e⟩:=T;obtain⟨_,A,c,rfl,_⟩:=e;exact⟨_,B,_,ld B c4,B,B⟩
end
end
section
variable {h J h0 h1 H:Y} {v fv nv pv cv ev lv u v':Aa} {xs args vs ys:AH} {n b N i k e r j x m c q d a p t2 st sb mo ck lp rm b0 sz off:Nat} {t:Ai} {f:Au} {fn:BC} {s:Bd} {bs:Bl} {ws:Bo} {W:Nat->Prop} {Q:Aa->Y->Prop} {A:Option BD} {z df day:Int} {ss:BZ} {τ:Bb}
variable{S:A9} {L:Nat} [aF S L]
def tq {t:En} (T:DE h b t) (r:k<t.n) {c:Int}:
 iB S L 7 284 [AG b 0,Vi k,.int .u8 c] h λw J=>∃(x:Nat) (s:Bool),w=.tuple #[Vi x,.bool s]/\(s=Ag->x<t.n):=
 Cn f284 λd W X=>by
  have v:=T;obtain⟨⟨k1,k2,k3,k4,k5,Z,Y,U⟩,_,_,⟨I,z,C⟩,_⟩:=T;have hn:t.n=LT t.a+1:=B;refine cl (so v r) ?_;rintro _ h1 ⟨H,x,y,rfl,K,D,M⟩;refine⟨λE A F=>∃x y:Nat,A=[(0,AG b 0),(1,Vi k),(2,.int .u8 c),(8,Vi x),(9,Vi y)]/\1<=x/\x<=y/\y<=t.n/\E=y-x/\AA h F,
   ⟨_,_,Sq,?_,x,y,B,K,D,M,B,H⟩,?_⟩
  .omega
  rintro E A F ⟨x,y,rfl,hx,D,N,rfl,g⟩ aa;apply Bz<;>intro e
  .obtain⟨m,O,ab,ad⟩:∃m:Nat,((x:Int)+y)/2=m/\x<=m/\m<y:=⟨(x+y)/2,G,G,G⟩
   obtain⟨a1,P,rfl,_,j⟩:=C.at_ G;have Q:=λi u l=>(j i u l).C g;refine⟨Pq,_,rZ ⟨G,Pq⟩,?_⟩;rw[O];refine⟨_,ld B (z.C g),Pq,G,_,Rd.ld Q B (i:=m-1) (by show((m:Int)-1).toNat*1=_;omega) (CY G),Ad (λo=>?_) (λo=>?_)⟩
   .refine⟨Pq,_,_,Sq,?_,m+1,y,B,G,G,N,B,g⟩
    omega
   .refine⟨_,_,Sq,?_,x,m,B,G,G,G,B,g⟩
    omega
  refine cl (so (v.C g) r) ?_;rintro _ f ⟨R,p,q,rfl,ae,af,ag⟩;have a:=g.trans R;refine⟨[],Kq,Bz (λo=>?_) (λo=>?_)⟩
  .obtain⟨a1,P,rfl,_,j⟩:=C.at_ G
   have V:=z.C a;exact⟨_,ld B V,Pq,G,_,Rd.ld (h:=f) (λi u l=>(j i u l).C a) B (i:=x-1) (by show((x:Int)-1).toNat*1=_;omega) (CY G),a,x,_,B,λ_=>G⟩
  .exact⟨a,x,Ah,B,λh=>by cases h⟩
def ADk {t:En} (T:DE h b t) (q:aL s<=100000000):
 iB S L 8 287 [AG b 0,Sg s] h λw J=>∃(x:Nat) (a:Bool),w=.tuple #[Vi x,.bool a]/\(a=Ag->x<t.n):=
 Cn f287 λd r u=>by
  have v:t.n=LT t.a+1:=B;refine⟨λi A j=>∃(k x:Nat) (a:Bool),A=[(0,AG b 0),(1,Sg s),(6,Vi x),(7,.bool a),(8,Vi k)]/\k<=aL s/\i=aL s-k/\(a=Ag->x<t.n)/\AA h j,
   ⟨_,_,Sq,?_,0,0,Ag,B,Al _,B,λ_=>G,AA.refl _⟩,?_⟩
  .omega
  rintro i A j ⟨k,x,a,rfl,z,rfl,c,g⟩ C;apply Bz<;>intro e
  .apply Ad<;>intro l
   .refine⟨G,_,tq (T.C g) (c l) d G,?_⟩
    rintro _ f ⟨m,y,o,rfl,p⟩;refine⟨Pq,_,_,Sq,?_,k+1,y,o,B,G,B,p,g.trans m⟩;omega
   .exact⟨g,x,a,B,c⟩
  .exact⟨g,x,a,B,c⟩
def ABs {t:En} (T:DE h b t) (i:aL s<=100000000):
 iB S L 9 205 [AG b 0,Sg s] h λw J=>∃(x:Nat) (a:Bool),w=.tuple #[Vi x,.bool a]/\x<=32767:=
 Cn f205 λd o _=>by
  have c:=T.1.2.2.2.2.2.1;refine⟨_,B,Ad (λe=>?_) (λe=>?_)⟩
  .exact⟨AA.refl _,0,Ah,B,G⟩
  refine cl (ADk T i) ?_;rintro _ q ⟨f,y,a,rfl,j⟩;refine⟨_,_,B,Ad (λg=>?_) (λg=>?_)⟩
  .exact⟨f,0,Ah,B,G⟩
  have k:a=Ag:=Jq
  have:=j k;refine cl (sH (T.C f) G) ?_;rintro _ p ⟨l,z,m,rfl,n⟩;exact⟨f.trans l,z,m,B,n⟩
def Vt (l:List (Nat×Nat)):AH:=l.flatMap λp=>[.int .i64 p.1,.int .i64 p.2]
def ABu {t:En} (T:DE h b t) (a:aL s<=100000000):
 iB S L 8 201 [AG b 0,Sg s] h λw J=>∃a:List (Nat×Nat),AS J h.a 347 2 w (LT a) (Vt a)/\(∀p∈a,p.1<=32767)/\LT a<=aL s:=
 Cn f201 λd O P=>by
  have Q:t.n=LT t.a+1:=rfl;have k6:=T.1.2.2.2.2.2.1;refine⟨_,B,λC A m=>∃(k x:Nat) (l:Aa) (a:List (Nat×Nat)),A=[(0,AG b 0),(1,Sg s),(5,l),(6,Vi x),(14,Vi s.size),(15,Vi k)]/\k<=aL s/\C=aL s-k/\x<t.n/\AA h m/\
   AS m h.a 347 2 l (LT a) (Vt a)/\(∀p∈a,p.1<=32767)/\LT a<=k,
   ⟨_,_,Sq,?_,0,0,_,[],B,Al _,B,G,AA.refl _,AS.nil _ _ _ _,(λp c=>by cases c),Ae _⟩,?_⟩
  .omega
  rintro C A m ⟨k,x,l,f,rfl,R,rfl,H,g,o,hb,V⟩ W;apply Bz<;>intro e
  .refine⟨G,_,tq (T.C g) H d G,?_⟩
   rintro _ h1 ⟨q,y,D,rfl,j⟩;have r:=g.trans q;refine⟨_,_,B,Ad (λE=>?_) (λE=>?_)⟩
   .exact⟨r,f,o.C q,hb,G⟩
   have K:D=true:=by cases D<;>first|rfl|cases E
   have j:=j K;refine cl (sH (T.C r) G) ?_;rintro _ M ⟨F,z,X,rfl,N⟩;have u:=r.trans F;have v:=(o.C q).C F;apply Ad<;>intro e3
   .obtain⟨I,J,Z,t2,Y,t4⟩:=Tz Kq v (ys:=[Vi z,Vi ((k:Int)+1)]) B B u.a G
    refine⟨Pq,_,_,i3 344 _ 2 (.agg #[Vi z,Vi ((k:Int)+1)]) M,_,_,Z,Pq,_,_,Sq,?_,k+1,y,I,f++[(z,k+1)],B,G,B,j,u.then Y λi U=>v.ai i U,?_,?_,?_⟩
    .omega
    .have:Vt (f++[(z,k+1)])=Vt f++[Vi z,Vi ((k:Int)+1)]:=by simp[Vt]
     rw[this,Aj];exact t2
    .intro p c
     rcases dF.1 c with c|c
     .exact hb p c
     .rw[bQ.1 c];exact N
    .simp;omega
   .refine⟨Pq,_,_,Sq,?_,k+1,y,l,f,B,G,B,j,u,v,hb,G⟩
    omega
  .exact⟨g,f,o,hb,G⟩
def vN {z:Aa} (a:CP τ t=I z) (h:Y):∃d,(∀A,D9 τ A h (.alloc t)=I (AG h.a 0,d))/\AA h d/\aQ d h.a t (AJ z)/\d.a=h.a+1:=by
 let⟨d,b,c⟩:=H1 τ t z h;exact⟨d,λA=>by show(match CP τ t with|some z=>K7 τ t z h|none=>Z)=_;rw[a];exact b,c⟩
def Arj (o:aQ h p 230 (Ay bs)) (d:LT bs=256) (e:a<=256):∃v,C7 Ax 230 (AG p 0) (I (Vi a)) Z Z=I v/\Rd h v 1 (256-a) (Ay (bs.drop a)):=by
 refine⟨.slice (I ⟨p,0+a*1,I 0⟩) (256-a) (256-a),?_,?_⟩
 .show(bif Ar a 256&&Ar 256 256 then I (PA (I ⟨p,0+a*1,I 0⟩) (256-a) (256-a)) else Z)=_
  rw[Aq e];rfl
 .let⟨h1,c,x,f,g⟩:=o
  refine⟨by rw[A7,AV,d];omega,_,_,B,Ae _,(λh=>by cases h),λa' j=>?_⟩;cases j;refine⟨h1,c,_,_,_,_,_,f,λi u b=>g _ u ?_⟩;rw[←EA,Eg] at b;rw[show 0+a*1+i=a+i by omega];exact b
def ZR:List Bool->Nat->Nat
 |[],_=>0
 |Ag::_,0=>0
 |Ag::l,x+1=>ZR l x+1
 |Ah::l,x=>ZR l x+1
def Ui:∀(l:List Bool) (x z:Nat),(l.take z).count Ag<=x->x<(l.take (z+1)).count Ag->ZR l x=z
 |[],x,z,_,h=>Jq
 |b::l,x,0,h1,h=>by
  cases b with
  |true=>
   obtain rfl:x=0:=Jq
   rfl
  |false=>simp at h
 |b::l,x,z+1,h1,h=>by
  rw[List.take_succ_cons] at h1 h;cases b with
  |true=>
   rw[List.count_cons_self] at h1 h;obtain⟨y,rfl⟩:∃y,x=y+1:=⟨x-1,G⟩;rw[ZR,Ui l y z G G]
  |false=>
   rw[List.count_cons_of_ne Jq] at h1 h;rw[ZR,Ui l x z h1 h]
def sq (t:En) (x:Nat):Nat:=(t.bits.take (ZR t.bits x)).count Ah-1
def U2 (t:En):Nat->Nat->Bl->Bl
 |0,_,a=>a
 |f+1,x,a=>if x=0 then a else U2 t f (sq t x) (t.a.getD (x-1) 0::a)
def Sv (t:En) (k:Int):Bd:=if 0<=k/\k<(LT t.M) then EY (U2 t 256 (t.M.getD k.toNat 0) []) else⟨#[]⟩
def lu {t:En} (T:DE h b t) {k:Int}:
 iB S L 6 80 [AG b 0,Vi k] h λw J=>∃(s:Bd) (ok:Bool),w=.tuple #[Sg s,.bool ok]/\aL s<=256/\s=Sv t k:=
 Cn f80 λd ae hL=>by
  have aa:=T;obtain⟨⟨k1,k2,k3,k4,k5,k6,k7,j,Y,k9⟩,⟨p0,c0,O⟩,_,⟨v2,c2,r2⟩,_,v4,c4,r4⟩:=T;have hn:t.n=LT t.a+1:=B;apply Ad<;>intro e
  .exact⟨AA.refl _,⟨#[]⟩,Ah,B,by decide,by rw[Sv,Bm (by have:=Fp e;omega)]⟩
  refine GZ (jz aa d G) ?_;apply Ad<;>intro r
  .exact⟨AA.refl _,⟨#[]⟩,Ah,B,by decide,by rw[Sv,Bm (by have:=Fp r;omega)]⟩
  have e:=KK e;have r:=KK r;obtain⟨q,rfl⟩:∃q:Nat,k=q:=⟨bH k,G⟩;obtain⟨m,z1,y,o1,n1⟩:=vN (z:=.agg ⟨AE 256 (.int .u8 0)⟩) Kq h;obtain⟨a4,y4,rfl,_,q4⟩:=r4.at_ G;have ab:t.M.getD q 0∈t.M:=by
   rw[Ak,Ab G];exact Bu _
  obtain⟨P,C⟩:=k9 _ ab;obtain⟨l,D⟩:∃l,l=t.M.getD q 0:=⟨_,B⟩;rw[←D] at P C;refine⟨_,_,z1 _,_,ld B (c4.C y),G,_,Rd.ld (λi u E=>(q4 i u E).C y) B (i:=q) (by show((q:Int)).toNat*1=_;omega) (GH G),?_⟩;rw[←D];refine⟨λQ A F=>∃(x a:Nat) (bs:Bl),A=[(0,AG b 0),(6,AG h.a 0),(7,Vi a),(8,Vi x)]/\x<t.n/\a+j l=256+j x/\j x<=256/\a<=256/\Q=j x/\LT bs=256/\aQ F h.a 230 (Ay bs)/\AA h F/\∃f,j x<=f/\U2 t f x (bs.drop a)=U2 t 256 l [],
   ⟨_,_,Sq,?_,l,256,AE 256 0,B,P,B,C,G,B,by simp,by rw[Ay,KD];exact o1,y,256,C,by simp⟩,?_⟩
  .omega
  rintro Q A F ⟨x,a,bs,rfl,hx,ha,af,ad,rfl,R,o,g,f,hf,V⟩ ag;apply Bz<;>intro e3
  .obtain⟨a2,y2,rfl,_,q2⟩:=r2.at_ G
   have ah:1<=j x:=by
    have hz:∃z,(t.bits.take z).count Ag<=x/\x<(t.bits.take (z+1)).count true:=by
     have Cw:∀n,x<(t.bits.take n).count Ag->∃z,(t.bits.take z).count Ag<=x/\x<(t.bits.take (z+1)).count true:=by
      intro n
      induction n with
      |zero=>intro h;simp at h
      |
       succ n ih=>
       intro h;rcases A8 x ((t.bits.take n).count Ag) with m|m
       .exact ih m
       .exact⟨n,m,h⟩
     exact Cw (LT t.bits) (by rw[CS];exact (G:x<t.bits.count Ag))
    obtain⟨z,m,K⟩:=hz;have:=(Y x z G m K).2;omega
   obtain⟨p,u5,u6,u7⟩:=aQ.st (τ:=Ax) (t:=5) B (i:=a-1) (v:=.int .u8 ((t.a.getD (x-1) 0).toNat:Int)) o (by rw[A7];omega) B;have u8:aQ p h.a 230 (Ay (bs.set (a-1) (t.a.getD (x-1) 0))):=by
    have:Ay (bs.set (a-1) (t.a.getD (x-1) 0))=(Ay bs).set (a-1) (.int .u8 ((t.a.getD (x-1) 0).toNat:Int)):=by simp[Ay,Cp]
    rw[this];exact u6
   have M:=g.ah u7 (Ae _);have W:=c0.C M;have v5:=O.C M;refine⟨Pq,_,ld B (c2.C g),Pq,G,_,Rd.ld (λi u E=>(q2 i u E).C g) B (i:=x-1) (by show((x:Int)-1).toNat*1=_;omega) (CY G),G,p,(by rw[(by show 0+_*1=_;omega:0+((a:Int)-1).toNat*t5.size=a-1)];exact u5),[],Kq,_,ld B W,_,ld B W,_,mz (h:=p.ad) v5 Ag G d G,?_⟩;rintro o2 K ⟨N,⟨hb,_⟩|⟨z,rfl,b1,b2,b3⟩⟩
   .omega
   have X:=M.trans N.M;obtain⟨f1,f2⟩:=Ahm k3 k4 (z:=z) G;obtain⟨f3,f4⟩:=Y x z G G G;have v6:=O.C X;refine⟨N.C,GZ (ZW (h:=(p.M K).ad) v6 Ah z G d G) ?_⟩;have ez:((z:Int)).toNat=z:=B;rw[ez];refine⟨B,Pq,_,_,Sq,?_,(t.bits.take z).count Ah-1,a-1,_,B,f3,G,G,G,B,?_,u8.C (N.M.trans (AT (AA.refl _))),AT X,f-1,G,?_⟩
   .omega
   .simp[R]
   .obtain⟨f',rfl⟩:∃f',f=f'+1:=⟨f-1,G⟩
    rw[←V,U2,Bm G,sq,Ui t.bits x z G G,List.drop_set,Bm G,Nat.sub_self,Di G,List.set_cons_zero,show a-1+1=a by omega,Nat.add_sub_cancel]
  .obtain⟨v,s1,U⟩:=Arj o R ad
   have s3:=FB (τ:=Ax) (s:=98) (d:=9) Kq U;obtain⟨_,A,c,rfl,_⟩:=U;refine⟨_,_,(λH=>by rw[s1];rfl:∀H,CN H (C7 Ax 230 (AG h.a 0) (I (Vi a)) Z Z)=I (.slice A (256-a) c,H)) _,_,s3,g,_,Ag,B,?_,?_⟩
   .show(bs.drop a).length<=256
    rw[AV];omega
   .obtain rfl:x=0:=G
    rw[Sv,Bi G,show((q:Int)).toNat=q from B,←D,←V];cases f<;>rfl
def kG {w:Aa} {cs:Bl} (o:AS h N 5 1 v n (Ay bs)) (g:N<=h.a) (r:Rd h w 1 m (Ay cs)) (s:∀i,BY w i->¬BY v i) (Q:n<=100000000) (R:m<=100000000):
 Bk S L 1 180 [v,w] h λu J=>∃t:Bl,AS J N 5 1 u (n+4+m) (Ay t)/\B0 (BY v) h J/\jW h v u:=
 Cn f180 λd T _=>by
  obtain⟨y,j,k,rfl,z,A,C⟩:=r;have D:Rd h (.slice j m k) 1 m (Ay cs):=⟨y,j,k,B,z,A,C⟩;obtain⟨b,E⟩:=DH (m:Int);obtain⟨c,F⟩:=DH (DN .i64 (m:Int) 8);obtain⟨e,H⟩:=DH (DN .i64 (m:Int) 16);obtain⟨f,K⟩:=DH (DN .i64 (m:Int) 24);have a:=AA.row h 5 (Ay [b,c,e,f]);obtain⟨V,h1,Y,t2,q,I⟩:=UN Kq (o.C a) (x:=sL h.a 4 4) (ys:=Ay [b,c,e,f]) B
   (by rw[Il (aQ.row h 5 (Ay [b,c,e,f])) (by show 0+4*1<=4;decide)];rfl) B B (Ao g a.a) G
  have l:=(D.C a).O q s;obtain⟨W,X,M,p,O,P⟩:=UN Kq t2 l.bu l.src Jq (Fa cs) (Ao (Ao g a.a) q.a) G;rw[←Ee,←Ee] at p;have Z:=a.a;have aa:=q.a;refine⟨_,.inr E.symm,G,_,.inr F.symm,G,_,.inr H.symm,G,_,.inr K.symm,_,_,lH _ _ _ _ h,_,_,Y,_,_,M,_,p,((a.O _).trans q).then O λi U=>?_,λi U=>?_⟩
  .rcases I i U with h|h
   .exact .inl h
   .right;omega
  .rcases P i U with h|h
   .rcases I i h with h|h
    .exact .inl h
    .right;omega
   .right;omega
def mR {t:En} (T:DE h b t):iB S L 3 91 [AG b 0] h λw J=>∃bs:Bl,LT bs<=12000000/\AS J h.a 5 1 w (LT bs) (Ay bs):=
 Cn f91 λd P _=>by
  have k6:=T.1.2.2.2.2.2.1;have Q:t.n=LT t.a+1:=B;let⟨R,⟨V,x,y⟩,⟨W,c1,z⟩,⟨X,A,q⟩,⟨p3,c3,C⟩,_⟩:=T;refine⟨_,B,_,ld B x,_,ky y d G,λo1 I ⟨r,b1,l1,D⟩=>?_⟩;refine⟨_,kG (AS.nil I h.a 5 1) r.a D.rd (bs:=[]) (λi _ h=>h.elim) G G d G,λu1 h2 ⟨e1,j,E,w1⟩=>?_⟩;have e:=r.then E λi U=>U.elim
  refine⟨_,ld B (A.C e),_,kG j e.a (q.C e) (λi U c=>by have:=q.aw i U;have:=j.ai i c;omega) G G d G,λu2 h3 ⟨e2,k,F,w2⟩=>?_⟩;have f:=e.then F λi U=>j.ai i U
  refine⟨_,ld B (c1.C f),_,ky (z.C f) d G,λo4 h4 ⟨l,H,l4,s⟩=>?_⟩;refine⟨_,kG (k.C l) (Ao f.a l.a) s.rd (λi U c=>by have:=s.ai i U;have:=k.aw i c;omega) G G d G,λZ h5 ⟨e3,m,K,w3⟩=>?_⟩;have g:=(f.trans l).then K λi U=>k.ai i U
  refine⟨_,ld B (c3.C g),_,nL (C.C g) d G,λo6 h6 ⟨o,M,l6,u⟩=>?_⟩;refine⟨_,kG (m.C o) (Ao g.a o.a) u.rd (λi U c=>by have:=u.ai i U;have:=m.aw i c;omega) G G d G,λY h7 ⟨v,p,N,w4⟩=>?_⟩;have O:0+4+LT b1+4+LT t.a+4+LT H+4+LT M=LT v:=by have:=p.len;rw[A7] at this;exact this
  rw[O] at p;exact⟨(g.trans o).then N λi U=>m.ai i U,v,G,p⟩
end
end
open Go Go.Proofs Tryz
section
variable {h J h0 h1 H:Y} {v fv nv pv cv ev lv u v':Aa} {xs args vs ys:AH} {n b N i k e r j x m c q d a p t2 st sb mo ck lp rm b0 sz off:Nat} {t:Ai} {f:Au} {fn:BC} {s:Bd} {bs:Bl} {ws:Bo} {W:Nat->Prop} {Q:Aa->Y->Prop} {A:Option BD} {z df day:Int} {ss:BZ} {τ:Bb}
variable{S:A9} {L:Nat} {l:BZ} [aF S L]
def gS (l:BZ) (i:Nat):Bl:=(l.getD i ⟨#[]⟩).data.toList
def Js (U:i<LB l):gS l i=l[i].data.toList:=by
 unfold gS;rw[Ak,Ab U];rfl
def J9 (s:Bd):aL s=LB s.data.toList:=Jq
def Td:∀a b:Bl,KJ a b=Ag\/a=b\/KJ b a=Ag
 |[],[]=>.inr (.inl B)
 |[],_::_=>.inl B
 |_::_,[]=>.inr (.inr B)
 |
  a::l,b::m=>by
  rcases FD a.toNat b.toNat with h|h|h
  .left;show(bif AD a.toNat b.toNat then Ag else _)=Ag;rw[show AD a.toNat b.toNat=Ag by rw[AK];exact h];rfl
  .have e:=qQ.1 h
   subst e;have c:∀x y:Bl,KJ (a::x) (a::y)=KJ x y:=λx y=>by
    show(bif AD a.toNat a.toNat then Ag else bif Am a.toNat a.toNat then KJ x y else Ah)=_
    rw[show AD a.toNat a.toNat=Ah by rw[MK,ne_eq,AK];omega,show Am a.toNat a.toNat=Ag by simp];rfl
   rw[c,c];rcases Td l m with h|h|h
   .exact .inl h
   .exact .inr (.inl (by rw[h]))
   .exact .inr (.inr h)
  .right;right;show(bif AD b.toNat a.toNat then Ag else _)=Ag;rw[show AD b.toNat a.toNat=Ag by rw[AK];exact h];rfl
def nF (l:BZ):Prop:=LB l<=20000/\(∀i,i<LB l->1<=(gS l i).length/\(gS l i).length<=256)/\∀i,i+1<LB l->KJ (gS l i) (gS l (i+1))=Ag
def CM (l:BZ):(AR l).length=LB l:=by simp[AR]
def ABk (r:Rd h v 1 (LB l) (AR l)):
 Bk S L 1 166 [v] h λw J=>J=h/\(w=Vi 0/\nF l\/w=Vi 1\/w=Vi 2):=
 Cn f166 λd N O=>by
  obtain⟨u,c,f,rfl,x,y,z⟩:=r;have C:Rd h (.slice c (LB l) f) 1 (LB l) (AR l):=⟨u,c,f,B,x,y,z⟩;apply Bz<;>intro e
  .exact⟨B,.inr (.inr B)⟩
  refine⟨λp A b=>b=h/\∃k:Nat,A=[(0,.slice c (LB l) f),(8,.slice c (LB l) f),(9,Vi (LB l)),(10,Vi k)]/\k<=LB l/\p=LB l-k/\
   (∀i,i<k->1<=(gS l i).length/\(gS l i).length<=256)/\∀i,i+1<k->KJ (gS l i) (gS l (i+1))=Ag,
   ⟨_,_,Sq,?_,B,0,B,Al _,B,λi U=>G,λi U=>G⟩,?_⟩
  .omega
  rintro p A b ⟨rfl,k,rfl,P,rfl,I,s⟩ Q;apply Bz<;>intro R
  .have g:k<LB l:=G
   let⟨a1,T,D,_,q⟩:=C.at_ G;cases D;have E:=Rd.ld q (t:=9) B (by show k*1=k;omega) (Dl g);refine⟨G,_,E,_,B,Ad (λm=>?_) (λm=>?_)⟩
   .exact⟨B,.inr (.inl B)⟩
   have F:1<=(gS l k).length:=by
    rw[Js g];rcases KQ l[k].data.toList.length with h0|h0
    .have:=List.length_eq_zero_iff.1 h0
     rw[this] at m;cases m
    .exact h0
   apply Bz<;>intro V
   .exact⟨B,.inr (.inl B)⟩
   have H:(gS l k).length<=256:=by rw[Js g,←J9];omega
   have X:∀(b:0<k->KJ (gS l (k-1)) (gS l k)=Ag),(∀i,i<k+1->1<=(gS l i).length/\(gS l i).length<=256)/\∀i,i+1<k+1->KJ (gS l i) (gS l (i+1))=true:=λb=>
    ⟨λi U=>by
     rcases A8 i k with h|h
     .exact I i h
     .have:i=k:=G
      subst this;exact⟨F,H⟩,λi U=>by
     rcases A8 (i+1) k with h|h
     .exact s i h
     .have:k=i+1:=G
      subst this;exact b G⟩
   apply Bz<;>intro W
   .have K:=Rd.ld q (t:=9) B (j:=((k:Int)-1).toNat*1) G (Dl (show k-1<LB l by omega))
    refine⟨Pq,G,_,K,_,B,Ad (λa=>?_) (λa=>?_)⟩
    .exact⟨B,.inr (.inl B)⟩
    have M:KJ (gS l (k-1)) (gS l k)=true:=by
     rw[Js g,Js (show k-1<LB l by omega)];rw[Iy] at a;rcases Td l[k-1].data.toList l[k].data.toList with h|h|h
     .exact h
     .have:Gp l[k].data.toList l[k-1].data.toList=true:=by rw[J0,beq_iff_eq];exact h.symm
      rw[a.2] at this;cases this
     .rw[a.1] at h;cases h
    let⟨n,o⟩:=X (λ_=>M);refine⟨Pq,_,_,Sq,?_,B,k+1,B,G,B,n,o⟩;omega
   .let⟨n,o⟩:=X (λ_=>G)
    refine⟨Pq,_,_,Sq,?_,B,k+1,B,G,B,n,o⟩;omega
  .obtain rfl:k=LB l:=G
   exact⟨B,.inl ⟨B,G,I,s⟩⟩
def Lq (l:BZ) (a b d:Nat):Prop:=a<=b/\b<=LB l/\∀i,a<=i->i<b->d<=(gS l i).length/\(gS l i).take d=(gS l a).take d
def Y1:∀y z:Bl,KJ (y++z) y=Ah
 |[],z=>by cases z<;>rfl
 |a::y,z=>by
  show(bif AD a.toNat a.toNat then Ag else bif Am a.toNat a.toNat then KJ (y++z) y else Ah)=_
  rw[show AD a.toNat a.toNat=Ah by rw[MK,ne_eq,AK];omega,show Am a.toNat a.toNat=Ag by simp];exact Y1 y z
def Abg (s:nF l) (o:Lq l a b d) (r:a<j) (f:j<b):d<(gS l j).length:=by
 let⟨m,n,e⟩:=o;let⟨p,g⟩:=e j G f;rcases A8 d (gS l j).length with h|h
 .exact h
 have i:=(Bj h).symm;obtain⟨q,k⟩:=e (j-1) G G;have c:=s.2.2 (j-1) G;rw[show j-1+1=j by omega] at c;rw[i,g,←k] at c;have:=Y1 ((gS l (j-1)).take d) ((gS l (j-1)).drop d);rw[FO] at this;rw[this] at c;cases c
def XE (h:Y) (c e:Nat) (v:Aa) (l:BZ) (a b d:Nat):Prop:=aC h c 0 (.int .i64 a)/\aC h c 1 (.int .i64 b)/\aC h c 2 (.int .i64 d)/\aC h e 0 v/\Rd h v 1 (LB l) (AR l)
def ZP (S:A9) (L:Nat) (d:Nat) (f:Fn) (args:AH) (h:Y) (Q:Aa->Y->Prop):Prop:=∀n,d<=n->Cd (B8 Ax S L n) f args h Q
def zU {a b:UInt8} (h:(dE a:Int)=(dE b:Int)):a=b:=by
 have:dE a=dE b:=G;exact qQ.1 this
def AGb (r:Rd h v 1 (LB l) (AR l)):
 iB S L 1 167 [.agg #[Vi a,Vi b,Vi e],v] h λw J=>∃g m,h.a<=g/\h.a<=m/\w=.func (.func 256) #[] #[AG g 0,AG m 0]/\XE J g m v l a b e:=
 Cn f167 λd t _=>by
  let⟨h1,b1,i,n,u⟩:=H1 Ax 300 (.agg #[Vi a,Vi b,Vi e]) h;let⟨o,p,f,k,x⟩:=H1 Ax 40 v h1;have q:aQ o h1.a 40 [v]:=by
   have:AJ v=[v]:=by obtain⟨_,A,c,rfl,_⟩:=r;rfl
   rw[this] at k;exact k
  have s:=i.a;have j:=n;refine⟨_,_,b1,_,_,p,i.trans f,h.a,h1.a,Ae _,s,B,(j.cell B).C f,(j.cell B).C f,(j.cell B).C f,q.cell B,r.C (i.trans f)⟩
def ADl {y U:Nat} {dy:Nat} (D:nF l) (E:Lq l a b e) (o:Nat->Y->Prop) (M:∀i f,o i f->XE f y U v l a b e)
 (h0:∀i,i=a\/i=a+1->o i h) (X:∀i k f,o i f->a<=i->i<k->k<=b->e<(gS l i).length->Lq l i k (e+1)->ZP S L dy (.yield x) [.agg #[Vi i,Vi k,Vi ((e:Int)+1)]] f λu J=>u=.bool Ag/\o k J):
 Bk S L (dy+1) 256 [.func (.yield x) #[] #[],AG y 0,AG U 0] h λ_ J=>∃i,i<=LB l+1/\o i J:=
 Cn f256 λd af hL=>by
  have ag:=D.1;let⟨CN,aa,z⟩:=E;have E:Lq l a b e:=⟨CN,aa,z⟩;obtain⟨s1,s2,s3,Z,W⟩:=M a h (h0 a (.inl B));have N:=h0 a (.inl B);have O:∀j,a<j->j<b->e<(gS l j).length:=λj t c=>Abg D E t c
  let F:Nat->As->Y->Prop:=λp A f=>∃i:Nat,A=[(0,.func (.yield x) #[] #[]),(1,AG y 0),(2,AG U 0),(4,Vi i)]/\a<=i/\i<=b/\p=b-i/\(∀j,i<=j->j<b->e<(gS l j).length)/\o i f
  refine⟨_,ld B s1,[],Kq,_,ld B s2,Ad (λg=>?a) (λg=>?b)⟩
  case' b=>
   refine⟨F,⟨_,_,Sq,?_,a,B,Ae _,CN,B,λj t c=>?_,N⟩,?_⟩
  case' a=>
   obtain⟨a1,y1,rfl,_,q1⟩:=W.at_ Jq;refine⟨_,ld B Z,⟨G,Jq⟩,_,Rd.ld q1 B (by show a*1=a;omega) (Dl (by have:=Fp g;omega)),_,ld B s3,Ad (λC=>?a1) (λC=>?a2)⟩
  case' a1=>
   refine⟨Pq,F,⟨_,_,Sq,?_,a+1,B,G,by have:=Fp g;omega,B,λj t c=>O j G c,h0 _ (.inr B)⟩,?_⟩
  case' a2=>
   refine⟨F,⟨_,_,Sq,?_,a,B,Ae _,CN,B,λj t c=>?_,N⟩,?_⟩
  all_goals first
   |omega
   |(have g:=KK g;omega)
   |(
    rcases A8 a j with h|h
    .exact O j h c
    .have g:=Fp g
     have C:=KK C;obtain rfl:j=a:=G
     have:=(z j (Ae _) c).1;rw[Js (show j<LB l by omega)] at this⊢;rw[J9] at C;omega)
   |skip
  all_goals
   rintro p A f ⟨i,rfl,ab,ah,rfl,m,H⟩ ai;let⟨w1,P,K,Q,w5⟩:=M i f H;refine⟨_,ld B P,Bz (λe3=>?_) (λe3=>?_)⟩;rotate_left
   .exact⟨i,G,H⟩
   let⟨a2,y2,e9,_,R⟩:=w5.at_ G;cases e9;have aj:=m i (Ae _) G;have ak:=(D.2.1 i G).2;refine⟨Pq,λp A J=>J=f/\∃k:Nat,A=[(0,.func (.yield x) #[] #[]),(1,AG y 0),(2,AG U 0),(4,Vi i),(5,Vi k)]/\i<k/\k<=b/\p=b-k/\∀j,i<=j->j<k->(gS l j)[e]?=(gS l i)[e]?,
    ⟨_,_,Sq,?_,B,i+1,B,G,G,B,λj t c=>Jq⟩,?_⟩
   .omega
   rintro p A J ⟨rfl,k,rfl,ad,T,rfl,V⟩ al;refine⟨[],Kq,_,ld B P,Bz (λe4=>?_) (λe4=>?_)⟩;have q:=m k G G;have r:=m i G G;have s:k<LB l:=G;have w:i<LB l:=G;rw[Js s,←J9] at q;rw[Js w,←J9] at r;refine⟨_,ld B Q,G,_,Rd.ld R B (by show k*1=k;omega) (Dl s),_,ld B K,G,
    _,ld B Q,G,_,Rd.ld R B (by show i*1=i;omega) (Dl w),_,ld B K,G,Ad (λn=>?_) (λn=>?_)⟩
   .have n:=zU (Fp n)
    have q:=m k G G;have r:=m i G G;rw[Js s] at q;rw[Js w] at r;have e6:(gS l k)[e]?=(gS l i)[e]?:=by
     rw[Js s,Js w];have n:l[k].data.toList.getD e 0=l[i].data.toList.getD e 0:=n;rw[Ak,Ak,Ab q,Ab r] at n;rw[Ab q,Ab r];exact Cs I n
    refine⟨Pq,_,_,Sq,G,B,k+1,B,G,G,B,λj t c=>?_⟩;rcases A8 j k with h|h
    .exact V j t h
    .rw[show j=k by omega];exact e6
   all_goals
    refine⟨_,ld B K,Pq,_,X i k J H ab ad T (m i (Ae _) G) ⟨G,G,λj t c=>⟨m j t G,?_⟩⟩ d G,?_⟩
    .rw[qU,qU,V j t c,(z j G G).2,(z i G G).2]
    rintro _ c ⟨rfl,ae⟩;refine⟨_,_,B,_,_,Sq,G,k,B,G,T,B,λj t c=>m j G c,ae⟩
end
structure Ct where
 C:Nat->Prop
 holds:Y->Prop
 a:∀{W:Nat->Prop} {h J:Y},B0 W h J->(∀i,C i->¬W i)->holds h->holds J
 lt:∀{h:Y},holds h->∀i,C i->i<h.a
 M:∀{h J:Y},holds J->holds (h.M J)
def aO (b:Nat) (e:Ai) (xs:AH):Ct:={
 C:=λi=>i=b
 holds:=λh=>aQ h b e xs
 a:=λc a o=>o.O c (a b B)
 lt:=λo i U=>U▸o.1
 M:=λo=>o.M}
def aS (N:Nat) (e:Ai) (k:Nat) (v:Aa) (n:Nat) (xs:AH):Ct:={
 C:=BY v
 holds:=λh=>AS h N e k v n xs
 a:=λc a o=>o.O c a
 lt:=λo i U=>o.aw i U
 M:=λo=>o.M}
def aB (b:Nat) (x:HB):Ct:={
 C:=λi=>i=b
 holds:=λh=>b<h.a/\h.t.get b=I x
 a:=λc a o=>⟨AC o.1 c.a,(c.t b o.1 (a b B)).trans o.2⟩
 lt:=λo i U=>Jq
 M:=λo=>Jq}
def aH (h0 h:Y) (l:List Ct):Prop:=AA h0 h/\(∀(i:Nat) a,l[i]?=I a->a.holds h/\∀x,a.C x->h0.a<=x)/\
 ∀(i j:Nat) (a b),i≠j->l[i]?=I a->l[j]?=I b->∀x,a.C x->¬b.C x
def aH.nil (h:Y):aH h h []:=⟨AA.refl h,λi a e=>Jq,λi j a b _ e=>Jq⟩
section
variable{h0 h:Y} {l:List Ct}
variable {b N k n x i j t2 n':Nat} {xs ys xs':AH} {v:Aa} {a a':Ct} {J:Y} {τ:Bb} {t:Ai}
def aH.e (s:aH h0 h l):AA h0 h:=s.1
def aH.dD (s:aH h0 h l) (i:Nat) {b e:Nat} {xs:AH} (U:l[i]?=I (aO b e xs)):aQ h b e xs:=(s.2.1 i _ U).1
def aH.q (s:aH h0 h l) (i j:Nat) {b e:Nat} {xs:AH} {v:Aa} (U:l[i]?=I (aO b e xs)) (a:xs[j]?=I v):aC h b j v:=(s.dD i U).cell a
def aH.sl (s:aH h0 h l) (i:Nat) {N e k n:Nat} {v:Aa} {xs:AH} (U:l[i]?=I (aS N e k v n xs)):AS h N e k v n xs:=(s.2.1 i _ U).1
def aH.a7 (s:aH h0 h l) (i:Nat) {x:HB} (U:l[i]?=I (aB b x)):h.t.get b=I x:=(s.2.1 i _ U).1.2
def aH.ge (s:aH h0 h l) (i:Nat) (U:l[i]?=I a):∀x,a.C x->h0.a<=x:=(s.2.1 i _ U).2
def aH.C (s:aH h0 h l) (x:AA h J):aH h0 J l:=
 ⟨s.1.trans x,λi a U=>⟨a.a (x.O λ_=>False) (λ_ _ h=>h) (s.2.1 i a U).1,(s.2.1 i a U).2⟩,s.2.2⟩
def aH.ah (s:aH h0 h l) (i:Nat) (U:l[i]?=I a) (c:B0 a.C h J) (t:a'.holds J) (u:∀x,a'.C x->a.C x\/h.a<=x):aH h0 J (l.set i a'):=by
 let⟨v,g,n⟩:=s;have y:=(cG.1 U).1;refine⟨v.then c (g i a U).2,λj b d=>?_,λj k b o w d m x f p=>?_⟩
 .rw[Iu] at d
  split at d
  .rename_i e
   cases d;refine⟨t,λx f=>?_⟩;rcases u x f with h|h
   .exact(g i a U).2 x h
   .exact Ao v.a h
  .rename_i e
   exact⟨b.a c (λx f=>λt=>n i j a b e U d x t f) (g j b d).1,(g j b d).2⟩
 .rw[Iu] at d m
  split at d<;>split at m
  .rename_i q r;exact w (q.symm.trans r)
  .rename_i q r
   cases d;rcases u x f with h|h
   .exact n i k a o r U m x h p
   .have:=o.lt (g k o m).1 x p;omega
  .rename_i q r
   cases m;rcases u x p with h|h
   .exact n j i b a (λh=>q h.symm) d U x f h
   .have:=b.lt (g j b d).1 x f;omega
  .exact n j k b o w d m x f p
def aH.add (s:aH h0 h l) (x:AA h J) (m:a.holds J) (d:∀i,a.C i->h.a<=i):aH h0 J (a::l):=by
 have k:=s.C x;refine⟨k.1,λi b U=>?_,λi j b e n U f y c g=>?_⟩
 .cases i with
  |zero=>cases U;exact⟨m,λy c=>Ao s.1.a (d y c)⟩
  |succ i=>exact k.2.1 i b Jq
 .cases i with
  |zero=>
   cases U;cases j with
   |zero=>exact n B
   |succ j=>
    have:=e.lt (s.2.1 j e Jq).1 y g;have:=d y c;omega
  |succ i=>
   cases j with
   |zero=>
    cases f;have:=b.lt (s.2.1 i b Jq).1 y c;have:=d y g;omega
   |succ j=>exact s.2.2 i j b e (G) Jq Jq y c g
def aH.aZ (s:aH h0 h l) (i:Nat) (U:l[i]?=I a) (c:B0 a.C h.ad J) (b:a'.holds J) (d:∀x,a'.C x->a.C x\/h.a<=x):aH h0 (h.M J) (l.set i a'):=
 s.ah _ U c.M (a'.M b) d
def aH.bz (s:aH h0 h l) (x:AA h.ad J):aH h0 (h.M J) l:=s.C x.M
def aH.cf (s:aH h0 h l) (x:AA h.ad J) (b:a.holds J) (c:∀i,a.C i->h.a<=i):aH h0 (h.M J) (a::l):=s.add x.M (a.M b) c
def aH.st {τ:Bb} {t:Ai} (a:Gv τ t=Ag) (s:aH h0 h l) {i b e:Nat} {xs:AH} (U:l[i]?=I (aO b e xs)) {j:Nat} (c:j<LB xs) {v:Aa} (d:one v=Ag):
 ∃J,BA τ t h b j v=I J/\aH h0 J (l.set i (aO b e (xs.set j v))):=by
 let⟨J,a1,f,g⟩:=aQ.st a (s.dD _ U) c d;exact⟨J,a1,s.ah _ U g.O f λx k=>.inl k⟩
def aH.sT (s:aH h0 h l) (t:Ai) (i j:Nat) (v:Aa) {b e:Nat} {xs:AH} (U:l[i]?=I (aO b e xs)) (c:j<LB xs) (d:one v=Ag) (a:Gv Ax t=Ag:=by rfl):=aH.st a s U c d
def aH.stM {τ:Bb} {t:Ai} (a:Gv τ t=Ag) (s:aH h0 h l) {i b e:Nat} {xs:AH} (U:l[i]?=I (aO b e xs)) {j:Nat} (c:j<LB xs) {v:Aa} (d:one v=Ag):
 ∃J,BA τ t h.ad b j v=I J/\aH h0 (h.M J) (l.set i (aO b e (xs.set j v))):=by
 let⟨J,a1,f,g⟩:=aQ.st (h:=h.ad) a (s.dD _ U) c d;exact⟨J,a1,s.aZ _ U g.O f λx k=>.inl k⟩
def aH.cC {τ:Bb} {t:Ai} (c:Gv τ t=Ag) (s:aH h0 h l) {i b e:Nat} {xs:AH} (U:l[i]?=I (aO b e xs)) {j:Nat} (d:j<LB xs) {v:Aa} (f:one v=Ag):
 ∃J,BA τ t h.ad b j v=I J/\aH h0 (h.M J) (l.set i (aO b e (xs.set j v)))/\Er b h (h.M J):=by
 let⟨J,a1,g,a⟩:=aQ.st (h:=h.ad) c (s.dD _ U) d f;exact⟨J,a1,s.aZ _ U a.O g (λx k=>.inl k),a.M⟩
def aH.ba {τ:Bb} {st t2 e k:Nat} (b:G1 τ st t2 e k=Ag) (s:aH h0 h l) {i N n:Nat} {v:Aa} {xs ys:AH} (U:l[i]?=I (aS N e k v n xs)) (c:LB ys=k) (d:ys.all one=Ag) (f:N<=h.a) (hb:n+1<=1000000000) {n':Nat} {xs':AH} (g:n'=n+1) (j:xs'=xs++ys):
 ∃a J,Bx τ .append [st,t2] [v,.slice (I ⟨h.a,0,Z⟩) 1 1] (BN h e ys)=I (a,J)/\aH h0 J (l.set i (aS N e k a n' xs')):=by
 subst g j;let⟨a,J,t1,t2,t3,t4⟩:=Go.Ev.Tz b (s.sl _ U) c d f hb;exact⟨a,J,t1,s.ah _ U t3 t2 t4⟩
def aH.bA (s:aH h0 h l) (t e k i:Nat) (ys:AH) (n':Nat) (xs':AH) {N n:Nat} {v:Aa} {xs:AH} (U:l[i]?=I (aS N e k v n xs)) (f:N<=h.a) (b:n+1<=1000000000) (g:n'=n+1) (j:xs'=xs++ys) (c:LB ys=k:=by rfl) (d:ys.all one=Ag:=by rfl) (a:G1 Ax t t e k=Ag:=by kernel_rfl):=s.ba a U c d f b g j
def aH.perm (s:aH h0 h l) {l':List Ct} (p:l.Perm l'):aH h0 h l':=by
 let⟨m,n,o⟩:=s;have q:∀a∈l,a.holds h/\∀x,a.C x->h0.a<=x:=λa r=>by
  obtain⟨i,U⟩:=Iz r;exact n i a U
 have t:l.Pairwise λa b=>∀x,a.C x->¬b.C x:=by
  rw[F8];intro i j U c v;exact o i j _ _ (G) (Ab U) (Ab c)
 have d:=(p.pairwise_iff (λ{a b} u x e f=>u x f e)).1 t;rw[F8] at d;refine⟨m,λi a U=>q a (p.symm.subset (AZ U)),λi j a b w U c=>?_⟩;obtain⟨g,rfl⟩:=cG.1 U;obtain⟨k,rfl⟩:=cG.1 c;rcases A8 i j with h|h
 .exact d i j g k h
 .exact λx e f=>d j i k g (G) x f e
def aH.drop (s:aH h0 h l) (n:Nat):aH h0 h (l.drop n):=
 ⟨s.1,λi a U=>s.2.1 (n+i) a Jq,λi j a b d U c=>s.2.2 (n+i) (n+j) a b (G) Jq Jq⟩
def Oc (D:Bo):List Ct:=D.map λd=>aB d (.aq Ah)
def aH.aq {D:Bo} (s:aH h0 h (l++Oc D)):D.Nodup/\(∀d∈D,h.t.get d=I (.aq Ah))/\(∀d∈D,h0.a<=d)/\∀J,B0 (·∈D) h J->aH h0 J l:=by
 let⟨r,p,m⟩:=s;have k:∀(i:Nat) d,D[i]?=I d->(l++Oc D)[LB l+i]?=I (aB d (.aq Ah)):=λi d f=>by
  rw[Bq (G),Ds];unfold Oc;rw[AX,f];rfl
 have n:∀d∈D,h.t.get d=I (.aq Ah)/\h0.a<=d:=λd f=>by
  obtain⟨i,U⟩:=Iz f;have:=p _ _ (k i d U);exact⟨this.1.2,this.2 d B⟩
 refine⟨?_,λd f=>(n d f).1,λd f=>(n d f).2,λJ c=>⟨r.then c λi U=>(n i U).2,λi a U=>?_,λi j a b u U g=>?_⟩⟩
 .rw[List.nodup_iff_pairwise_ne,F8]
  intro i j U g z e;exact m _ _ _ _ (G) (k i _ (Ab U)) (k j _ (Ab g)) D[i] B (e)
 .have o:=(cG.1 U).1
  have q:(l++Oc D)[i]?=I a:=Jq
  have:=p i a q;refine⟨a.a c (λx v w=>?_) this.1,this.2⟩;let⟨j,g⟩:=Iz w;exact m i _ a _ (G) q (k j x g) x v B
 .have o:=(cG.1 U).1
  have y:=(cG.1 g).1;exact m i j a b u Jq Jq
def Ro {s:WS} (h:s.C N=Ag) (c:x<N):s.hasB x=false:=by
 cases s with
 |no=>rfl
 |one b=>have:=Ac (h);exact MK.2 λe=>by have:=Af e;omega
 |rest lo=>have:=Ac (h);exact MK.2 λe=>by have:=Ac e;omega
 |pair b lo=>
  have a:(Ar N b&&Ar N lo)=true:=h;rw[An] at a;have d:=Ac a.1;have f:=Ac a.2;show(Am x b||Ar lo x)=Ah;rw[Iy];exact⟨MK.2 λe=>Jq,MK.2 λe=>Jq⟩
def B0.hasB {W:Nat->Prop} {b0:Nat} (c:B0 W h.ad J) (a:∀i,W i->i=b0) (b:x<h.a) (d:x≠b0):J.lo.hasB x=false:=by
 rcases A8 b0 h.a with hb|hb
 .rcases c.g h.a b0 (by rw[BF];exact Ae _) hb (λi U=>.inl (a i U)) (by rw[DZ];exact .inl B) with e|e|⟨lo,f,e⟩
  .exact Ro e b
  .rw[e];exact MK.2 λe=>d (Af e)
  .rw[e]
   show(Am x b0||Ar lo x)=Ah;rw[Iy];exact⟨MK.2 λe=>d (Af e),MK.2 λe=>Jq⟩
 .exact Ro (c.lo h.a (by rw[BF];exact Ae _) (λi U=>Jq) Jq) b
def B0.cQ {h J:Y} {N e k n x:Nat} {v:Aa} {xs:AH} (c:B0 (BY v) h.ad J) (o:AS h N e k v n xs) (a:x<h.a) (d:¬BY v x):J.lo.hasB x=false:=by
 obtain⟨_,⟨rfl,_⟩|⟨b,f,sp,rfl,_⟩⟩:=o
 .exact c.hasB (b0:=x+1) (λi U=>U.elim) a (G)
 .exact c.hasB (λi U=>U) a d
def aH.bo {τ:Bb} {st t2 e k:Nat} (d:G1 τ st t2 e k=Ag) (s:aH h0 h l) {i N n:Nat} {v:Aa} {xs ys:AH} (U:l[i]?=I (aS N e k v n xs)) (c:LB ys=k) (f:ys.all one=Ag) (g:N<=h.a) (hb:n+1<=1000000000) {n':Nat} {xs':AH} (j:n'=n+1) (m:xs'=xs++ys):
 ∃a,BN h.ad e ys=a/\∃b J,Bx τ .append [st,t2] [v,.slice (I ⟨h.a,0,Z⟩) 1 1] (h.M a).ad=I (b,J)/\aH h0 ((h.M a).M J) (l.set i (aS N e k b n' xs'))/\∀x,x<h.a->¬Go.Ev.BY v x->J.lo.hasB x=false:=by
 subst j m;let⟨a,o,x,b,J,t1,t2,t3,t4⟩:=Go.Ev.Aef d (s.sl _ U) c f g hb;exact⟨a,o,b,J,t1,(s.C x).aZ _ U t3 t2 t4,λy c p=>t3.cQ ((s.C x).sl _ U) (AC c x.a) p⟩
def aH.bO (s:aH h0 h l) (t e k i:Nat) (ys:AH) (n':Nat) (xs':AH) {N n:Nat} {v:Aa} {xs:AH} (U:l[i]?=I (aS N e k v n xs)) (f:N<=h.a) (b:n+1<=1000000000) (g:n'=n+1) (j:xs'=xs++ys) (c:LB ys=k:=by rfl) (d:ys.all one=Ag:=by rfl) (a:G1 Ax t t e k=Ag:=by kernel_rfl):=s.bo a U c d f b g j
def aH.box (τ:Bb) (t:Ai) (v:Aa) (s:aH h0 h l):∃g,K7 τ t v h=I (AG h.a 0,g)/\aH h0 g (aO h.a t (AJ v)::l):=
 ⟨_,B,s.add (AA.row _ _ _) (aQ.row _ _ _) λi U=>A2 U.symm⟩
def JB:∀(vs pre xs:AH),LB vs=LB xs->I2 (pre++xs) (LB pre) vs=pre++vs
 |[],pre,xs,h=>by cases xs with|nil=>rfl|cons _ _=>cases h
 |v::vs,pre,xs,h=>by
  cases xs with
  |nil=>cases h
  |cons x xs=>
   rw[I2];have a:(pre++x::xs).set (LB pre) v=(pre++[v])++xs:=by simp
   rw[a,show LB pre+1=(pre++[v]).length by simp,JB vs (pre++[v]) xs Jq];simp
def aH.var {z:Aa} (g:CP τ t=I z) (s:aH h0 h l) (b:(match τ.b.get t with|some i=>Am (AJ v).length i.size|none=>Ah)=Ag) (j:(AJ v).length=(AJ z).length) (k:(AJ v).all one=Ag):
 ∃c,(∀A,D9 τ A h (.alloc t)=I (AG h.a 0,c))/\∃d,BA τ t c h.a 0 v=I d/\aH h0 d (aO h.a t (AJ v)::l):=by
 refine⟨BN h t (AJ z),λA=>by show(match CP τ t with|I z=>K7 τ t z h|Z=>Z)=_;rw[g];rfl,?_⟩
 have e:=s.add (a:=aO h.a t (AJ z)) (AA.row h t (AJ z)) (aQ.row _ _ _) λi U=>A2 U.symm;obtain⟨J,m,f,n⟩:=(e.dD 0 B).bb (i:=0) (G) k;refine⟨J,?_,?_⟩
 .unfold BA
  split at b
  .rename_i i U
   simp only[U,b,D1,m]
  .cases b
 .have:=JB (AJ v) [] (AJ z) j
  simp only[IW,fA] at this;rw[this] at f;exact e.ah 0 B n.O f λx o=>.inl o
def aH.nl (s:aH h0 h l) (N e k:Nat):aH h0 h (aS N e k sN 0 []::l):=s.add (AA.refl _) (AS.nil _ _ _ _) λi U=>U.elim
def aH.nw (s:aH h0 h l) (x:HB):aH h0 (h.new x) (aB h.a x::l):=s.add (AA.new _ x) ⟨by rw[Ck];omega,by rw[CK,Bi B]⟩ (λi U=>A2 U.symm)
def aH.n2 (s:aH h0 h l) (x y:HB):aH h0 ((h.new x).new y) (aB (A3 h.a) y::aB h.a x::l):=(s.nw x).add (AA.new _ y) ⟨by rw[Ck,Ck];omega,by rw[CK,Ck,Bi B]⟩ (λi U=>by rw[Ck];exact A2 U.symm)
def aH.pu (s:aH h0 h l) (i:Nat) {b:Nat} {x:HB} (y:HB) (U:l[i]?=I (aB b x)):aH h0 (h.put b y) (l.set i (aB b y)):=s.ah i U (Er.put h b y).O ⟨by rw[Cc];exact(s.2.1 i _ U).1.1,by rw[BQ,Bi B]⟩ (λx q=>.inl q)
def aH.va (s:aH h0 h l) (t:Ai) (z v:AH) (g:CP Ax t=I (.agg ⟨z⟩):=by kernel_rfl) (b:(match Ax.b.get t with|some i=>Am (AJ (.agg ⟨v⟩)).length i.size|none=>Ah)=Ag:=by rfl) (j:(AJ (.agg ⟨v⟩)).length=(AJ (.agg ⟨z⟩)).length:=by rfl) (k:(AJ (.agg ⟨v⟩)).all one=Ag:=by rfl):=s.var g b j k
def AS.lit {N e k n:Nat} {v:Aa} {xs:AH} (o:AS h N e k v n xs) (a:0<n):∃b c,v=.slice (I ⟨b,0,Z⟩) n c:=by
 obtain⟨_,⟨_,h⟩|⟨b,c,sp,h,_⟩⟩:=o
 .omega
 .exact⟨b,c,h⟩
end
section
variable {h J h0 h1 H:Y} {v fv nv pv cv ev lv u v':Aa} {xs args vs ys:AH} {n b N i k e r j x m c q d a p t2 st sb mo ck lp rm b0 sz off:Nat} {t:Ai} {f:Au} {fn:BC} {s:Bd} {bs:Bl} {ws:Bo} {W:Nat->Prop} {Q:Aa->Y->Prop} {A:Option BD} {z df day:Int} {ss:BZ} {τ:Bb}
variable{S:A9} {L:Nat} {l:List Ct} {M b1 w:Nat} {ps:List DQ} [aF S L]
def Zd [a:aF S L] (b:Ax.fn.get f=I fn) (c:Nf.contains f=Ah)
 (H:∀n,d<=n->MT Ah Ax (B8 Ax S L n) L fn args h Q):Bk S L (d+1) f args h Q:=by
 intro n i;obtain⟨m,rfl⟩:∃m,n=m+1:=⟨n-1,G⟩;let⟨h1,e,g⟩:=a.plain f c;exact vw b g h1 e (H m G)
abbrev Sp:=Nat×Nat×Nat
def Hw (x:Sp):AH:=[.int .i64 x.1,.int .i64 x.2.1,.int .i64 x.2.2]
def J4 (l:List Sp):AH:=l.flatMap Hw
def CW (l:List Bool):AH:=l.map CU
def ki (l:Bo):AH:=l.map λx:Nat=>AL .u64 x
def zH (ps:List Sp) {p:Sp} (U:ps[i]?=I p):((J4 ps).drop (i*3)).take 3=Hw p:=by
 induction ps generalizing i with
 |nil=>cases U
 |cons q ps a=>
  cases i with
  |zero=>cases U;rfl
  |
   succ i=>
   have:=a (U);rw[show(i+1)*3=i*3+3 by omega];exact this
def XZ (a:List Sp) (x:Sp):J4 (a++[x])=J4 a++Hw x:=by simp[J4]
def ZH (all:List Sp) (j:Nat):Nat:=(all.getD j (0,0,0)).2.2
def BP (l:BZ) (q:Nat) (a:List Bool) (all:List Sp):Prop:=
 a.count Ag=LB all/\a.count Ah=q+1/\a[0]?=I Ag/\a[1]?=I Ah/\(∀(j:Nat) x,all[j]?=I x->Lq l x.1 x.2.1 x.2.2/\x.2.2<=256)/\
  ∀c z,1<=c->(a.take z).count Ag<=c->c<(a.take (z+1)).count Ag->∃p,(a.take z).count Ah=p+1/\p<LB all/\ZH all p+1=ZH all c
def BP.start (l:BZ):BP l 0 [Ag,Ah] [(0,LB l,0)]:=by
 refine⟨B,B,B,B,λj x a=>?_,λc z f b d=>?_⟩
 .cases j with
  |zero=>simp at a;subst a;exact⟨⟨Al _,Ae _,λi _ _=>⟨Al _,by simp⟩⟩,Al 256⟩
  |succ j=>simp at a
 .have:=XB [Ag,Ah] Ag (z+1)
  have e:[Ag,Ah].count Ag=1:=B;omega
def IM {c:Type} (a b:List c) {z:Nat} (d:z<=LB a):(a++b).take z=a.take z:=UR d
def BP.child {l:BZ} {B:List Bool} {all:List Sp} (p:BP l q B all) {x y:Sp} (g:all[q]?=I x) (r:Lq l y.1 y.2.1 y.2.2) (s:y.2.2=x.2.2+1) (t:y.2.2<=256):BP l q (B++[Ag]) (all++[y]):=by
 let⟨i,m,u,n,v,w⟩:=p;have A:=(cG.1 g).1;have E:2<=LB B:=by
  have:=(cG.1 n).1;omega
 have e:∀j,j<LB all->ZH (all++[y]) j=ZH all j:=λj a=>by
  unfold ZH;rw[Ak,Ak,AB a]
 have C:ZH (all++[y]) (LB all)=y.2.2:=by
  unfold ZH;simp
 refine⟨Jq,Jq,Jq,Jq,λj z a=>?_,λc z F b d=>?_⟩
 .rcases A8 j (LB all) with h|h
  .rw[AB h] at a;exact v j z a
  .rw[Bq h] at a
   cases o:j-LB all with
   |zero=>rw[o] at a;simp at a;subst a;exact⟨r,t⟩
   |succ k=>rw[o] at a;simp at a
 .rcases FD z (LB B) with h|h|h
  .rw[IM _ _ G] at b d
   let⟨p,f1,f2,f3⟩:=w c z F b d;refine⟨p,Jq,Jq,?_⟩;rw[e p f2,e c (by have:=XB B Ag (z+1);omega)];exact f3
  .subst h
   have f:(B++[Ag]).take (LB B)=B:=Jq
   have D:(B++[Ag]).take (LB B+1)=B++[Ag]:=Bj wl;rw[f] at b⊢;rw[D] at d;simp[List.count_singleton_self] at b d;obtain rfl:c=LB all:=G;exact⟨q,m,Jq,by rw[e q A,C,(by unfold ZH;rw[Ak,g];rfl:ZH all q=x.2.2),s]⟩
  .have f:(B++[Ag]).take z=B++[Ag]:=Bj (by simp;omega)
   rw[f] at b;rw[(Bj Jq)] at d;omega
def BP.close {l:BZ} {o:List Bool} {all:List Sp} (p:BP l q o all):BP l (q+1) (o++[Ah]) all:=by
 let⟨f,g,i,e,j,k⟩:=p;have n:2<=LB o:=by
  have:=(cG.1 e).1;omega
 refine⟨Jq,Jq,Jq,Jq,j,λc z r b a=>?_⟩;rcases FD z (LB o) with h|h|h
 .rw[IM _ _ G] at b a
  rw[IM _ _ G];exact k c z r b a
 .subst h
  have d:(o++[Ah]).take (LB o)=o:=by simp
  have m:(o++[Ah]).take (LB o+1)=o++[Ah]:=Bj wl;rw[d] at b;rw[m] at a;simp at a;omega
 .have d:(o++[Ah]).take z=o++[Ah]:=Bj (by simp;omega)
  rw[d] at b;rw[(Bj Jq)] at a;omega
def Akk (h:x<2^k) (a:x≠0):Nat.log2 x<k:=(Nat.log2_lt a).2 h
def Abi (h:x<32768):bE x<=15:=by
 have b:∀y k,y<2^k->bl y<=k:=λy k a=>by
  unfold bl;split
  .omega
  .have:=Akk a ‹_›;omega
 unfold bE;rw[Bm G];unfold fj;rw[Bm G];unfold fk;split
 .have:=b (x/2^8) 7 G;omega
 .have:=b x 8 G;omega
def Ps {l:Bo} (h:∀x∈l,x<32768):∀k,Hz l k<32768
 |0=>by show 0<32768;decide
 |
  k+1=>by
  have b:=Ps h k;have c:l.getD k 0<32768:=by
   rcases A8 k (LB l) with a|a
   .rw[Ak,Ab a];exact h _ (Bu _)
   .rw[Ak,CD a];decide
  show W4 _ _<_;have e:JP .u64 (Hz l k) (l.getD k 0)=IntKind.wrap .u64 ((BitVec.ofInt 64 (Hz l k)|||BitVec.ofInt 64 (l.getD k 0)).toNat):=B;have d:(BitVec.ofInt 64 ((Hz l k))|||BitVec.ofInt 64 ((l.getD k 0))).toNat=Hz l k|||l.getD k 0:=by
   rw[BitVec.toNat_or,BitVec.toNat_ofInt,BitVec.toNat_ofInt];congr 1<;>omega
  have f:Hz l k|||l.getD k 0<2^15:=Zz b c;unfold W4;rw[e,d,G8];omega
section
variable{h J:Y} {D:Bo}
def aC.aq {o:Nat} (c:aC h b o v) (x:B0 (·∈D) h J) (a:∀d∈D,h.t.get d=I (.aq Ah)):aC J b o v:=
 c.O x λhb=>by
  let⟨_,f,n,e,lo,U,y,h1,_⟩:=c;rw[a b hb] at h1;cases h1
def Rd.aq (r:Rd h v k n xs) (x:B0 (·∈D) h J) (b:∀d∈D,h.t.get d=I (.aq Ah)):Rd J v k n xs:=
 r.O x λi U hb=>by
  obtain⟨_,A,c,rfl,_,_,f⟩:=r;cases A with
  |none=>exact U
  |some a=>
   let⟨_,g,n,e,lo,j,y,h1,_⟩:=f a B;rw[←U,b i hb] at h1;cases h1
def Du.aq {l:List Bool} (v:Du h b l) (x:B0 (·∈D) h J) (a:∀d∈D,h.t.get d=I (.aq Ah)):Du J b l:=by
 let⟨h1,c,⟨e,ws,f,g,i⟩,j,k,m⟩:=v;exact⟨h1.aq x a,c,⟨e,ws,f.aq x a,g.aq x a,i⟩,j,k.aq x a,m.aq x a⟩
def BX.aq (p:BX h b n w ws) (x:B0 (·∈D) h J) (a:∀d∈D,h.t.get d=I (.aq Ah)):BX J b n w ws:=by
 let⟨c,e,f,g,⟨i,j,k⟩,l⟩:=p;exact⟨c.aq x a,e.aq x a,f,g,⟨i,j.aq x a,k.aq x a⟩,l⟩
def DE.aq {t:En} (T:DE h b t) (x:B0 (·∈D) h J) (a:∀d∈D,h.t.get d=I (.aq Ah)):DE J b t:=by
 let⟨c,⟨e,a0,b0⟩,⟨f,a1,b1⟩,⟨g,i,j⟩,⟨k,l,m⟩,n,o,p⟩:=T;exact⟨c,⟨e,a0.aq x a,b0.aq x a⟩,⟨f,a1.aq x a,b1.aq x a⟩,⟨g,i.aq x a,j.aq x a⟩,⟨k,l.aq x a,m.aq x a⟩,n,o.aq x a,p.aq x a⟩
end
def oC (d g:Nat) (v:Aa) (a b e:Nat):Ct:={
 C:=λi=>i=d\/i=g
 holds:=λh=>aC h d 0 (.int .i64 a)/\aC h d 1 (.int .i64 b)/\aC h d 2 (.int .i64 e)/\aC h g 0 v
 a:=λc f o=>⟨o.1.O c (f _ (.inl B)),o.2.1.O c (f _ (.inl B)),o.2.2.1.O c (f _ (.inl B)),o.2.2.2.O c (f _ (.inr B))⟩
 lt:=λo i U=>by rcases U with rfl|rfl;exact o.1.1;exact o.2.2.2.1
 M:=λo=>⟨o.1.M,o.2.1.M,o.2.2.1.M,o.2.2.2.M⟩}
def aC.rev {o:Nat} (hb:b<h.a) (c:B0 W h J) (a:¬W b) (x:aC J b o v):aC h b o v:=by
 let⟨_,y⟩:=x;rw[c.t b hb a] at y;exact⟨hb,y⟩
def VN (h:Y) (N b:Nat) (l:List Bool):Prop:=Du h b l/\ID h N b
def VN.fr {l:List Bool} (v:VN h N b l) (c:B0 W h J) (a:∀i,W i->i<N):VN J N b l:=by
 have hb:¬W b:=λd=>by have:=a b d;have:=v.2.1;omega
 exact⟨v.1.fr v.2 c a,v.2.1,λu x=>v.2.2.1 u (x.rev v.1.c0.1 c hb),λu x=>v.2.2.2 u (x.rev v.1.c0.1 c hb)⟩
def VN.C {l:List Bool} (v:VN h N b l) (x:AA h J):VN J N b l:=v.fr (x.O λ_=>False) λ_ h=>h.elim
def aQ.cR (o:aQ h b e xs) (a:LB xs=n):Rd h (sL b n n) 1 n xs:=
 AS.rd ⟨G,.inr ⟨b,n,[],B,Ae _,Ae _,Jq,Jq⟩⟩
def ID.mono (g:ID h N b) (a:M<=N):ID h M b:=
 ⟨Ao a g.1,λv c i U=>Ao a (g.2.1 v c i U),λv c i U=>Ao a (g.2.2 v c i U)⟩
def Fl.mono (g:Fl h N b) (a:M<=N):Fl h M b:=
 ⟨Ao a g.1,λv c i U=>Ao a (g.2 v c i U)⟩
def vu (h:Y) (N b:Nat):Prop:=N<=b/\(∀p,aC h b 0 (AG p 0)->ID h N p)/\(∀p,aC h b 1 (AG p 0)->ID h N p)/\(∀v,aC h b 2 v->∀i,BY v i->N<=i)/\(∀p,aC h b 3 (AG p 0)->Fl h N p)/\∀v,aC h b 4 v->∀i,BY v i->N<=i
def Ge (h:Y) (N b:Nat) (t:En):Prop:=DE h b t/\vu h N b
def Ge.mono {t:En} (T:Ge h N b t) (a:M<=N):Ge h M b t:=by
 let⟨T,d,e,f,g,j,k⟩:=T;exact⟨T,Ao a d,λp c=>(e p c).mono a,λp c=>(f p c).mono a,λv c i U=>Ao a (g v c i U),λp c=>(j p c).mono a,λv c i U=>Ao a (k v c i U)⟩
def Ge.of {t:En} (T:Ge h N b t) (l:DE J b t) (c:B0 W h J) (d:∀i o v,aC h i o v->N<=i->¬W i):Ge J N b t:=by
 let⟨⟨A,⟨C,a0,b0⟩,⟨D,a1,b1⟩,⟨E,F,H⟩,⟨K,m,e⟩,L,M,O⟩,f,n,r,s,w,z⟩:=T;have hb:=d b _ _ a0 f;have j:∀{q:Nat},Du h q t.bits\/Du h q t.is->ID h N q->ID J N q:=λ{q} V g=>by
  have a:∃v,aC h q 0 v:=by
   rcases V with V|V<;>exact⟨_,V.c0⟩
  obtain⟨v,a⟩:=a;have k:=d q _ _ a g.1;exact⟨g.1,λu x=>g.2.1 u (x.rev a.1 c k),λu x=>g.2.2 u (x.rev a.1 c k)⟩
 refine⟨l,f,λp x=>?_,λp x=>?_,λv x=>s v (x.rev a0.1 c hb),λp x=>?_,λv x=>z v (x.rev a0.1 c hb)⟩
 .have x:=x.rev a0.1 c hb
  have:=x.inj a0;cases this;exact j (.inl b0) (n _ x)
 .have x:=x.rev a0.1 c hb
  have:=x.inj a1;cases this;exact j (.inr b1) (r _ x)
 .have x:=x.rev a0.1 c hb
  have:=x.inj m;cases this;have g:=w _ x;exact⟨g.1,λu y=>g.2 u (y.rev e.1.1 c (d _ _ _ e.1 g.1))⟩
def Ge.fr {t:En} (T:Ge h N b t) (c:B0 W h J) (a:∀i,W i->i<N):Ge J N b t:=by
 refine T.of ?_ c λi o v _ C l=>Jq
 let⟨⟨m,⟨n,B,b0⟩,⟨p,a1,E⟩,⟨e,f,q⟩,⟨r,g,s⟩,j,k,u⟩,D,w,x,y,z,A⟩:=T;have hb:¬W b:=λd=>by have:=a b d;omega
 exact⟨m,⟨n,B.O c hb,b0.fr (w _ B) c a⟩,⟨p,a1.O c hb,E.fr (x _ a1) c a⟩,⟨e,f.O c hb,q.O c λi U d=>Jq⟩,⟨r,g.O c hb,s.fr (z _ g) c a⟩,j,k.O c hb,u.O c λi U d=>Jq⟩
def Ge.C {t:En} (T:Ge h N b t) (x:AA h J):Ge J N b t:=T.fr (x.O λ_=>False) λ_ h=>h.elim
def Ge.aq {D:Bo} {t:En} (T:Ge h N b t) (x:B0 (·∈D) h J) (a:∀d∈D,h.t.get d=I (.aq Ah)):Ge J N b t:=
 T.of (T.1.aq x a) x λi o v c _ f=>by
  let⟨_,g,n,e,lo,U,y,h1,_⟩:=c;rw[a i f] at h1;cases h1
abbrev BL (N:Nat) (dv h lv a b v:Aa) (i j k c d b1:Nat) (n:Nat) (e:Bo) (f:List Bool) (g:Bl) (all:List Sp) (bits:List Bool) (l:Bo):List Ct:=
 [aS N 194 1 dv (LB e) (ki e),aS N 4 1 h (LB f) (CW f),aS N 5 1 lv (LB g) (Ay g),aO i 301 [a],aS N 300 3 a (LB all) (J4 all),aO j 51 [b],aS N 4 1 b (LB bits) (CW bits),
  aO k 133 [AG c 0],aO c 297 [.pointer Z,.pointer Z,lv,.pointer Z,.slice (I ⟨d,0,Z⟩) n n],aO d 3 (Bn l),aO b1 40 [v]]
def PB (l:BZ) (i:Nat) (a:Bo) (c:List Bool) (d:Bl) (all:List Sp) (b:Bo):Prop:=
 LB all=LB d+1/\i<=LB all/\LB all<=524287/\LB c=i/\LB a<=i/\(∀x∈a,x<20000)/\LB b=LB l/\∀x∈b,x<LB all
def Aiq {b:Aa} {all:List Sp} (o:AS h N 300 3 b (LB all) (J4 all)) {x:Sp} (U:all[i]?=I x):∃a c,b=.slice (I a) (LB all) c/\BK h a.block (a.off+i*3) (Hw x):=by
 let⟨a,c,e,_,q⟩:=o.rd.el (cG.1 U).1;rw[zH all U] at q;exact⟨a,c,e,q⟩
def ly [ah:aF S L] {l:BZ} (r:Rd h v 1 (LB l) (AR l)):
 iB S L 5 75 [v] h λw J=>((∃e:Int,1<=e/\w=.tuple #[.pointer Z,Vi e])\/∃b t,w=.tuple #[AG b 0,Vi 0]/\DE J b t/\LB t.M=LB l/\vu J h.a b):=
 Zd (fn:=f75) Kq B λd dj=>by
  have hL:=ah.a;obtain⟨hr,R,V,rfl,b3,b4,hA⟩:=r;have rr:Rd h (.slice R (LB l) V) 1 (LB l) (AR l):=⟨hr,R,V,B,b3,b4,hA⟩;obtain⟨g1,y1,s1⟩:=(aH.nil h).box Ax 40 (.slice R (LB l) V);refine⟨Dc B,_,_,y1,_,ld B (s1.q 0 _ B B),_,ABk (rr.C s1.e) d G,?_⟩;rintro _ g1 ⟨rfl,⟨rfl,a7⟩|rfl|rfl⟩
  case inr.inl=>exact⟨s1.e,.inl ⟨1,by decide,B⟩⟩
  case inr.inr=>exact⟨s1.e,.inl ⟨2,by decide,B⟩⟩
  have hn:=a7.1;obtain⟨g2,y2,x2,o2,n2⟩:=MA (τ:=Ax) (t:=50) (z:=Vi 0) Kq Kq B (LB l) G .i64 .i64 g1;have e2:AE (LB l) (Vi 0)=Bn (AE (LB l) 0):=by simp[Bn]
  rw[e2] at o2;have s2:=s1.add (a:=aO g1.a 3 (Bn (AE (LB l) 0))) x2 o2 λi U=>A2 U.symm;obtain⟨g3,y3,s3⟩:=s2.box Ax 297 (.agg #[.pointer Z,.pointer Z,sN,.pointer Z,sL g1.a (LB l) (LB l)]);obtain⟨g4,y4,aa,b7,s4⟩:=s3.var (τ:=Ax) (t:=133) (z:=.pointer Z) Kq (v:=AG g2.a 0) B B B;have s5:=s4.add (a:=aS h.a 4 1 (sL aa.a 2 2) 2 (CW [Ag,Ah])) (AA.row aa 4 [.bool Ag,.bool Ah]) ⟨B,.inr ⟨aa.a,2,[],B,s4.e.a,Ae _,B,aQ.row _ _ _⟩⟩ λi U=>A2 U.symm;obtain⟨g6,y6,ai,b8,s6⟩:=s5.var (τ:=Ax) (t:=51) (z:=sN) Kq (v:=sL aa.a 2 2) B B B;refine⟨_,ld B (s1.q 0 _ B B),_,_,y2,_,_,y3,_,_,y4 _,_,b7,_,_,(B:Bs Ax 51 2 [(0,.bool Ag),(1,.bool Ah)] aa=I (sL aa.a 2 2,BN aa 4 [.bool Ag,.bool Ah])),_,_,y6 _,_,b8,_,ld B (s6.q 5 _ B B),?_⟩;have s7:=s6.add (a:=aS h.a 300 3 (sL ai.a 1 1) 1 (J4 [(0,LB l,0)])) (AA.row ai 300 (Hw (0,LB l,0))) ⟨B,.inr ⟨ai.a,1,[],B,s6.e.a,Ae _,B,aQ.row _ _ _⟩⟩ λi U=>A2 U.symm;obtain⟨g8,y8,ca,cc,s8⟩:=s7.var (τ:=Ax) (t:=301) (z:=sN) Kq (v:=sL ai.a 1 1) B B B;refine⟨_,_,i3 301 300 3 (.agg #[Vi 0,Vi (LB l),Vi 0]) ai,_,_,y8 _,_,cc,?_⟩;have s9:aH h ca (BL h.a (sN) (sN) (sN) (sL ai.a 1 1) (sL aa.a 2 2) (.slice R (LB l) V) (BN ai 300 (Hw (0,LB l,0))).a (BN aa 4 [.bool Ag,.bool Ah]).a g3.a g2.a g1.a h.a (LB l)
   [] [] [] [(0,LB l,0)] [Ag,Ah] (AE (LB l) 0)):=
   ((s8.nl h.a 5 1).nl h.a 4 1).nl h.a 194 1
  generalize(BN ai 300 (Hw (0,LB l,0))).a=b9 at s9⊢;generalize(BN aa 4 [.bool Ag,.bool Ah]).a=b6 at s9⊢;generalize g3.a=b5 at s9⊢;generalize g2.a=W at s9⊢;generalize g1.a=bn at s9⊢;refine⟨λμ A D C=>∃(i:Nat) (dv iv lv av sv:Aa) (o:Bo) (M:List Bool) (F:Bl) (all:List Sp) (bits:List Bool) (O:Bo),
   A=[(1,AG h.a 0),(5,AG b5 0),(6,AG b6 0),(7,iv),(8,dv),(9,AG b9 0),(10,Vi i)]/\μ=524288-i/\aH h C (BL h.a dv iv lv av sv (.slice R (LB l) V) b9 b6 b5 W bn h.a (LB l) o M F all bits O++Oc D)/\BP l i bits all/\PB l i o M F all O,
   ⟨_,_,Sq,?_,0,_,_,_,_,_,[],[],[],_,_,_,B,B,s9,BP.start l,B,Al _,wl,B,Ae _,(λx q=>by cases q),by simp,λx q=>?_⟩,?_⟩
  .omega
  .rw[CH q];exact Nat.one_pos
  rintro μ A D C ⟨i,dv,iv,lv,av,sv,o,M,F,all,bits,O,rfl,rfl,s,bp,pb⟩ dk;obtain⟨p1,p2,p3,p4,p5,p6,p7,p8⟩:=pb;obtain⟨a8,ac,rfl⟩:=(s.sl 4 B).lit G;refine⟨_,ld B (s.q 3 _ B B),Bz (λe=>?_) (λe=>?_)⟩
  .have cd:i<LB all:=G
   obtain⟨⟨a,b,g⟩,q⟩:∃x,all[i]?=I x:=⟨_,Ab cd⟩;have ap:Lq l a b g/\g<=256:=bp.2.2.2.2.1 i _ q;obtain⟨a1,c1,e9,q1⟩:=Aiq (s.sl 4 B) q;cases e9;obtain⟨dl,ce,dm,cf,ay⟩:=s.va 300 [Vi 0,Vi 0,Vi 0] (Hw (a,b,g));refine⟨_,ld B (s.q 3 _ B B),G,_,EQ (k:=3) Kq (show BK C a8 (0+(i:Int).toNat*3) (Hw (a,b,g)) from q1) B,_,_,ce _,_,cf,_,EQ (k:=3) Kq (ay.dD 0 B).cells B,_,ld B (ay.q 11 _ B B),_,AGb (rr.C ay.e) d G,?_⟩;rintro _ Q ⟨cg,bx,bl,dn,dp,rfl,w1,w2,w3,w4,w5⟩;have ch:=ay.add (a:=oC bx bl (.slice R (LB l) V) a b g) cg ⟨w1,w2,w3,w4⟩ (λi U=>by rcases U with rfl|rfl<;>assumption);refine⟨XI (τ:=Ax) (f:=256) (fn:=f256) Kq B,T3 λab _ ci=>?_⟩
   have ck:=ch.n2 (.aq Ah) (ab .ready Z)
   let az:Nat->Y->Prop:=λk H=>∃(lv av sv:Aa) (F:Bl) (K:List Sp) (bits:List Bool),
    aH h H (([aB (A3 Q.a) (ab .ready Z),aB Q.a (.aq Ah),oC bx bl (.slice R (LB l) V) a b g,aO C.a 300 (Hw (a,b,g))]++BL h.a dv iv lv av sv (.slice R (LB l) V) b9 b6 b5 W bn h.a (LB l) o M F K bits O)++Oc D)/\
    BP l i bits K/\K[i]?=I (a,b,g)/\LB K=LB F+1/\LB all<=LB K/\LB K<=524287+k
   have hJ:∀k H,az k H->XE H bx bl (.slice R (LB l) V) l a b g:=λk H ⟨_,_,_,_,_,_,s,_⟩=>by
    obtain⟨w1,w2,w3,w4⟩:=(s.2.1 2 _ B).1;exact⟨w1,w2,w3,w4,rr.C s.e⟩
   have hy:∀E k aq,az E aq->a<=E->E<k->k<=b->g<(gS l E).length->Lq l E k (g+1)->ZP S L 1 (.yield (A3 Q.a)) [.agg #[Vi E,Vi k,Vi ((g:Int)+1)]] aq λu J=>u=.bool Ag/\az k J:=by
    intro E k aq hj h1 H X h4 cm n hn;obtain⟨m,rfl⟩:∃m,n=m+1:=⟨n-1,G⟩;obtain⟨lv,av,sv,F,K,bits,s,al,a0,q2,q3,q4⟩:=hj;have bh:=Oi bits;have bi:=al.1;have bj:=al.2.1;have a2:E<LB l:=by have:=ap.1.2.1;omega
    rw[(G:(g:Int)+1=((g+1:Nat):Int))];obtain⟨cn,y2,e9,_,qr⟩:=rr.at_ G;obtain⟨dq,cp,cq,cr,ar⟩:=s.va 300 [Vi 0,Vi 0,Vi 0] (Hw (E,k,g+1));refine ci m [(1,AG h.a 0),(5,AG b5 0),(6,AG b6 0),(9,AG b9 0),(11,AG C.a 0)] _ aq _ (Sq) (s.a7 0 B) ?_;have ad:=ar.pu 1 (ab .busy Z) B;obtain⟨aj,cs,t18,au⟩:=ad.bA 51 4 1 11 [.bool Ag] ((bits++[Ag]).length) (CW (bits++[Ag])) B ad.e.a (by have:=ap.1.2.1;omega) wl (by simp[CW]);obtain⟨ak,t19,N⟩:=au.sT 51 10 0 aj B (Ac B) (D5 (au.sl 11 B));refine⟨_,_,cp _,_,cr,ar.a7 1 B,_,ld B (ad.q 10 _ B B),_,_,i3 51 4 1 (.bool Ag) _,_,_,t18,_,t19,?_⟩;obtain⟨gx,e1,an,a3,t20,ae,hB⟩:=N.bO 98 5 1 7 (Ay [Cv l[E] g]) ((F++[Cv l[E] g]).length) (Ay (F++[Cv l[E] g])) B N.e.a (by have:=ap.1.2.1;omega) wl (Ee _ _);obtain⟨a9,t21,af⟩:=ae.stM (τ:=Ax) (t:=98) B (i:=13) B (j:=2) (v:=an) (Ac B) (D5 (ae.sl 7 B));have c5:=N.q 12 0 B B;have cb:=N.q 13 2 B B;have c1:=N.q 15 0 B B;cases e9;have ba:=λi u hu=>(qr i u hu).C N.e;rw[Js a2,←J9] at h4;subst e1;refine⟨[.x 14 0],Kq,_,ld B c5,_,ld B c5,_,ld B cb,_,ld B c1,_,ld B (N.q 0 0 B B:aC ak aq.a 0 (Vi E)),G,_,Rd.ld ba (t:=9) B (j:=((E:Int)).toNat*1) (i:=E) (by show E*1=E;omega) (Dl a2),_,ld B (N.q 4 2 B B:aC ak C.a 2 (Vi g)),G,
     _,_,i3 98 5 1 (.int .u8 ((Cv l[E] g).toNat:Int)) _,_,_,t20,hB b5 (N.dD 12 B).1 (N.2.2 12 7 _ _ xc B B b5 B),_,t21,?_⟩
    obtain⟨a4,ct,t22,a5⟩:=af.bA 301 300 3 9 (Hw (E,k,g+1)) ((K++[(E,k,g+1)]).length) (J4 (K++[(E,k,g+1)])) B af.e.a G wl (XZ _ _);obtain⟨cu,t23,bb⟩:=a5.sT 301 8 0 a4 B (Ac B) (D5 (a5.sl 9 B));have cv:=bb.pu 1 (ab .ready Z) B;have cw:i<LB K:=(cG.1 a0).1;exact⟨_,ld B (af.q 8 _ B B),_,EQ (k:=3) Kq (af.dD 0 B).cells B,_,_,i3 301 300 3 (.agg ⟨Hw (E,k,g+1)⟩) _,_,_,t22,_,t23,.busy,Z,bb.a7 1 B,B,_,a4,aj,F++[Cv l[E] g],K++[(E,k,g+1)],bits++[Ag],cv.drop 1,al.child a0 cm B (by
     have:=(a7.2.1 E a2).2;rw[Js a2,←J9] at this;show g+1<=256;omega),by rw[AB cw];exact a0,by simp;omega,by simp;omega,by simp;omega⟩
   refine cl (ADl (dy:=1) a7 ap.1 az hJ (λk hk=>⟨lv,_,sv,F,all,bits,ck,bp,q,p1,Ae _,G⟩) hy) ?_;rintro u bk ⟨k,hk,ao,bm,bo,am,K,ag,bc,al,a0,q2,q3,q4⟩;refine⟨.ready,Z,bc.a7 0 B,(by intro h;cases h),?_⟩;have ar:=bc.pu 0 (ab .exhausted Z) B;have ad:aH h (bk.put (A3 Q.a) (ab .exhausted Z)) ((aO C.a 300 (Hw (a,b,g))::BL h.a dv iv ao bm bo (.slice R (LB l) V) b9 b6 b5 W bn h.a (LB l) o M am K ag O)++Oc (Q.a::D)):=
    ((ar.drop 1).perm (l':=(oC bx bl (.slice R (LB l) V) a b g::aO C.a 300 (Hw (a,b,g))::BL h.a dv iv ao bm bo (.slice R (LB l) V) b9 b6 b5 W bn h.a (LB l) o M am K ag O)++Oc (Q.a::D)) List.perm_middle.symm).drop 1
   obtain⟨cx,cy,rfl⟩:=(ad.sl 5 B).lit G;refine⟨_,ld B (ad.q 4 _ B B),Bz (λe2=>?_) (λe2=>?_)⟩
   .obtain⟨n1,n2,n3,n4⟩:=ad.aq
    exact JM _ n1 n2 λJ _ hc=>⟨(n4 J hc).e,.inl ⟨2,by decide,B⟩⟩
   have bh:=Oi ag;have bi:=al.1;have bj:=al.2.1;obtain⟨aj,cs,t18,au⟩:=ad.bA 51 4 1 7 [.bool Ah] ((ag++[Ah]).length) (CW (ag++[Ah])) B ad.e.a G wl (by simp[CW]);obtain⟨ak,t19,N⟩:=au.sT 51 6 0 aj B (Ac B) (D5 (au.sl 7 B));have bd:=al.close;have a6:aC ak C.a 0 (Vi a):=N.q 0 0 B B;have c1:=N.q 11 0 B B;have bq:∀hb:Bool,∃v' J,Bx Ax .append [51,51] [iv,sL ak.a 1 1] (BN ak 4 [.bool hb])=I (v',J)/\aH h J ((aO C.a 300 (Hw (a,b,g))::BL h.a dv v' ao (sL cx (LB K) cy) aj (.slice R (LB l) V) b9 b6 b5 W bn h.a (LB l) o (M++[hb]) am K (ag++[Ah]) O)++Oc (Q.a::D)):=λhb=>by
    exact N.bA 51 4 1 2 [.bool hb] ((M++[hb]).length) (CW (M++[hb])) B N.e.a G wl (by simp[CW])
   have br:∀hb:Bool,PB l (i+1) o (M++[hb]) am K O:=λhb=>⟨G,G,G,by simp;omega,G,p6,p7,λx q=>by have:=p8 x q;omega⟩;refine⟨_,ld B (ad.q 6 _ B B),_,_,i3 51 4 1 (.bool Ah) _,_,_,t18,_,t19,[],Kq,_,ld B a6,_,ld B (N.q 0 1 B B:aC ak C.a 1 (Vi b)),Bz (λe3=>?_) (λe3=>?_)⟩;rotate_left
   .obtain⟨an,a3,t20,ae⟩:=bq Ah
    exact⟨_,_,i3 51 4 1 (.bool Ah) _,_,_,t20,Pq,_,_,Sq,G,i+1,dv,an,ao,_,aj,o,M++[Ah],am,K,ag++[Ah],O,B,B,ae.drop 1,bd,br Ah⟩
   have cz:a<LB l:=by have:=ap.1.2.1;omega
   obtain⟨cn,y2,e9,_,qr⟩:=rr.at_ G;cases e9;have ba:=λi u hu=>(qr i u hu).C N.e;obtain⟨an,a3,t20,ae⟩:=bq (decide ((l[a].size:Int)=(g:Int)));refine⟨_,ld B c1,_,ld B a6,G,_,Rd.ld ba (t:=9) B (j:=((a:Int)).toNat*1) (i:=a) (by show a*1=a;omega) (Dl cz),_,ld B (N.q 0 2 B B:aC ak C.a 2 (Vi g)),
    _,_,i3 51 4 1 (.bool (decide ((l[a].size:Int)=(g:Int)))) _,_,_,t20,Ad (λe4=>?_) (λe4=>?_)⟩
   rotate_left
   .exact⟨Pq,_,_,Sq,G,i+1,dv,an,ao,_,aj,o,M++[_],am,K,ag++[Ah],O,B,B,ae.drop 1,bd,br _⟩
   obtain⟨a9,t21,af⟩:=ae.stM (τ:=Ax) (t:=3) B (i:=10) B (j:=a) (v:=Vi i) (by rw[HO];omega) B;have i1:0+((a:Int)).toNat*t3.size=a:=by show 0+a*1=a;omega
   have c5:=ae.q 8 0 B B;have cb:=ae.q 9 4 B B;have a6:aC a3 C.a 0 (Vi a):=ae.q 0 0 B B;rw[show(Bn O).set a (Vi i)=Bn (O.set a i) by simp[Bn,Cp]] at af;have c0:aC (a3.M a9) C.a 0 (Vi a):=af.q 0 0 B B;obtain⟨a4,ct,t22,a5⟩:=af.bA 298 194 1 1 [.int .u64 a] ((o++[a]).length) (ki (o++[a])) B af.e.a G wl (by simp[ki]);refine⟨[],Kq,_,ld B c5,_,ld B cb,_,ld B a6,G,a9,(by rw[i1];exact t21),_,ld B c0,_,.inl Pq,_,_,i3 298 194 1 (.int .u64 a) _,_,_,t22,Pq,?_⟩;refine⟨_,_,Sq,G,i+1,a4,an,ao,_,aj,o++[a],M++[_],am,K,ag++[Ah],O.set a i,B,B,a5.drop 1,bd,G,G,G,by simp;omega,by simp;omega,λx q=>?_,by simp;omega,λx q=>?_⟩
   .rcases dF.1 q with q|q
    .exact p6 x q
    .rw[bQ.1 q];omega
   .rcases BT q with q|rfl
    .have:=p8 x q;omega
    .omega
  .obtain rfl:i=LB all:=G
   have bh:=Oi bits;have bi:=bp.1;have bj:=bp.2.1;have be:=(s.dD 8 B).1;have c5:=s.q 7 0 B B;have c6:=s.q 5 0 B B;refine⟨[],Kq,_,ld B c5,_,ld B c6,_,rQ (h:=C.ad) (l:=bits) (s.sl 6 B).rd G d G,?_⟩;rintro o1 h1 ⟨x1,⟨hb,_⟩|⟨_,q0,dr,rfl,c2,bs⟩⟩
   .omega
   have c3:=s.bz x1;obtain⟨H,t2,aw,u2⟩:=c3.cC (τ:=Ax) (t:=295) B (i:=8) B (j:=0) (v:=AG q0 0) (Ac B) B;rw[BF] at bs;have bt:=(show VN (C.M h1) C.a q0 bits from⟨c2.M,bs.M⟩).fr u2.O (λi U=>by rw[U];exact be);have c5:=aw.q 7 0 B B;refine⟨x1.C,_,t2,[],Kq,_,ld B c5,_,rQ (h:=((C.M h1).M H).ad) (l:=M) (aw.sl 1 B).rd G d G,?_⟩;rintro o3 X ⟨x3,⟨hb,_⟩|⟨_,q1,ds,rfl,c4,bu⟩⟩
   .omega
   have c7:=aw.bz x3;have bv:=bt.C x3.M;obtain⟨h4,t4,ax,u4⟩:=c7.cC (τ:=Ax) (t:=295) B (i:=8) B (j:=1) (v:=AG q1 0) (Ac B) B;rw[BF] at bu;have bw:=(aw.dD 8 B).1;have c8:=(show VN (((C.M h1).M H).M X) ((C.M h1).M H).a q1 M from⟨c4.M,bu.M⟩).fr u4.O (λi U=>by rw[U];exact bw);have c9:=bv.fr u4.O (λi U=>by rw[U];exact be);refine⟨x3.C,_,t4,?_⟩;clear bt bv u2 u4;have c5:=ax.q 7 0 B B;refine⟨[],Kq,_,ld B c5,_,np (h:=((((C.M h1).M H).M X).M h4).ad) (l:=o) (ax.sl 0 B).rd (λx q=>by have:=p6 x q;omega) G d G,?_⟩;rintro o5 h5 ⟨x5,⟨hb,_⟩|⟨_,q2,dt,rfl,bz,bf⟩⟩
   .omega
   have da:=ax.bz x5;obtain⟨h6,t6,P,u6⟩:=da.cC (τ:=Ax) (t:=134) B (i:=8) B (j:=3) (v:=AG q2 0) (Ac B) B;rw[BF] at bf;have db:=(ax.dD 8 B).1;have dc:=bz.M.fr (bf.M (h:=((((C.M h1).M H).M X).M h4))) u6.O (λi U=>by rw[U];exact db);have b0:=((c9.C x5.M).fr u6.O (λi U=>by rw[U];exact be));have b1:=((c8.C x5.M).fr u6.O (λi U=>by rw[U];exact bw));have dd:=b0.1;have de:=b1.1;have df:=Abi (Ps (l:=o) (λx q=>by have:=p6 x q;omega) (LB o));have T:DE ((((((C.M h1).M H).M X).M h4).M h5).M h6) W ⟨bits,M,F,LB o,bE (Hz o (LB o)),H2 o (bE (Hz o (LB o))) (LB o),O⟩:=by
    refine⟨⟨?_,?_,bp.2.2.1,bp.2.2.2.1,df,?_,?_,ZH all,λc z h1 H X=>?_,λx q=>?_⟩,⟨q0,P.q 8 _ B B,dd⟩,⟨q1,P.q 8 _ B B,de⟩,⟨lv,P.q 8 _ B B,(P.sl 2 B).rd⟩,⟨q2,P.q 8 _ B B,dc⟩,
     _,P.q 8 4 B B,?_⟩
    .show (LB bits)=2*(LB F+1)+1;omega
    .show bits.count Ag=LB F+1;omega
    .show (LB F)+1<=524287;omega
    .show (LB O)<=20000;omega
    .obtain⟨p,f1,f2,f3⟩:=bp.2.2.2.2.2 c z h1 H X
     show(bits.take z).count Ah-1<LB F+1/\ZH all ((bits.take z).count Ah-1)+1=ZH all c;rw[f1,show p+1-1=p by omega];exact⟨G,f3⟩
    .have b2:=p8 x q
     refine⟨by show x<LB F+1;omega,?_⟩;have:=(bp.2.2.2.2.1 x _ (Ab b2)).2;unfold ZH;rw[Ak,Ab b2];exact this
    .have:=(P.dD 9 B).cR (n:=LB l) (by rw[HO];exact p7)
     rw[←p7] at this⊢;exact this
   have dg:Ge ((((((C.M h1).M H).M X).M h4).M h5).M h6) h.a W ⟨bits,M,F,LB o,bE (Hz o (LB o)),H2 o (bE (Hz o (LB o))) (LB o),O⟩:=by
    refine⟨T,P.ge 8 B W B,λp x=>?_,λp x=>?_,λv x=>?_,λp x=>?_,λv x=>?_⟩
    .have e:=x.inj (P.q 8 0 B (v:=AG q0 0) B)
     cases e;exact b0.2.mono s.e.a
    .have e:=x.inj (P.q 8 1 B (v:=AG q1 0) B)
     cases e;exact b1.2.mono aw.e.a
    .have e:=x.inj (P.q 8 2 B (v:=lv) B)
     subst e;exact P.ge 2 B
    .have e:=x.inj (P.q 8 3 B (v:=AG q2 0) B)
     cases e;have bg:=bf.M (h:=((((C.M h1).M H).M X).M h4));have dh:¬q2=W:=λe=>by have:=bg.1;rw[e] at this;omega
     have di:Fl ((((((C.M h1).M H).M X).M h4).M h5).M h6) ((((C.M h1).M H).M X).M h4).a q2:=⟨bg.1,λv y=>bg.2 v (y.rev (BX.M (h:=((((C.M h1).M H).M X).M h4)) bz).1.1 u6.O dh)⟩;exact di.mono ax.e.a
    .have e:=x.inj (P.q 8 4 B (v:=sL bn (LB l) (LB l)) B)
     subst e;exact P.ge 9 B
   obtain⟨n1,n2,n3,n4⟩:=aH.aq (l:=[aS h.a 194 1 dv (LB o) (ki o),aS h.a 4 1 iv (LB M) (CW M),aS h.a 5 1 lv (LB F) (Ay F),aO b9 301 [sL a8 (LB all) ac],aS h.a 300 3 (sL a8 (LB all) ac) (LB all) (J4 all),aO b6 51 [sv],aS h.a 4 1 sv (LB bits) (CW bits),aO b5 133 [AG W 0],aO W 297 [AG q0 0,AG q1 0,lv,AG q2 0,sL bn (LB l) (LB l)],aO bn 3 (Bn O),aO h.a 40 [.slice R (LB l) V]]) (D:=D) P;refine⟨x5.C,_,t6,_,ld B (P.q 7 0 B B),?_⟩;exact JM _ n1 n2 λJ _ hc=>⟨(n4 J hc).e,.inr ⟨W,_,B,T.aq hc n2,p7,(dg.aq hc n2).2⟩⟩
def T6 (h:Y) (n:Nat) (xs:AH):Prop:=LB xs=4/\∀x∈xs,∃m cs,m<=n/\Rd h x 1 m (Ay cs)
def ABl (r:Rd h v 1 n (Ay bs)) (hn:n<=100000000):
 iB S L 1 193 [v] h λw J=>∃(xs:AH) (j:Bool),w=.tuple #[.agg ⟨xs⟩,.bool j]/\T6 J n xs:=
 Cn f193 λd aj hL=>by
  obtain⟨h1,F,x1,y,n1⟩:=vN (z:=.agg ⟨AE 4 (.slice Z 0 0)⟩) Kq h;have y:aQ h1 h.a 333 (AE 4 (.slice Z 0 0)):=y;refine⟨_,_,F _,λK A c=>∃(k m:Nat) (v:Aa) (cs:Bl) (xs:AH),A=[(0,v),(2,AG h.a 0),(6,Vi k)]/\k<=4/\K=4-k/\m<=n/\Rd h v 1 m (Ay cs)/\T6 h n xs/\aQ c h.a 333 xs/\AA h c,
   ⟨_,_,Sq,?_,0,n,_,bs,_,B,Al _,B,Ae _,r,⟨by simp,λx b=>⟨0,[],Al _,?_⟩⟩,y,x1⟩,?_⟩
  .omega
  .rw[CH b];exact(AS.nil h 0 5 1).rd
  rintro K A c ⟨k,m,v,cs,xs,rfl,hk,rfl,hm,r,⟨p,C⟩,o,g⟩ ak;have ae:xs.all one=true:=by
   rw[Jf];intro x b;obtain⟨_,_,_,a⟩:=C x b;exact a.one
  have M:∀H,AA h H->aQ H h.a 333 xs->∃a,Bw Ax 333 H h.a 0=I (.agg ⟨xs⟩)/\BA Ax 333 H h.a 0 (.agg ⟨xs⟩)=I a/\Bw Ax 333 a h.a 0=I (.agg ⟨xs⟩)/\
   ∀j:Bool,AA h a/\∃(xs':AH) (af:Bool),C4 #[.agg ⟨xs⟩,.bool j]=.tuple #[.agg ⟨xs'⟩,.bool af]/\T6 a n xs':=λH g o=>by
   obtain⟨a,s,N,s3⟩:=o.bD Kq (i:=0) p G ae;have ag:I2 xs 0 xs=xs:=by
    have:=JB xs [] xs B;simpa using this
   rw[ag] at N;have O:=g.ah s3 Jq;exact⟨a,EQ Kq o.cells p,s,EQ Kq N.cells p,λj=>⟨O,xs,j,B,p,λx b=>by
    obtain⟨m,cs,h1,a⟩:=C x b;exact⟨m,cs,h1,a.C O⟩⟩⟩
  obtain⟨a,P,s,Q,R⟩:=M c g o;have D:=r;obtain⟨hr,A0,T,rfl,al,am,hA⟩:=r;have an:LB cs=m:=by rw[A7] at hr;omega
  apply Bz<;>intro e;rotate_left
  .exact⟨_,P,_,s,_,Q,R _⟩
  apply Bz<;>intro e1
  .exact⟨_,P,_,s,_,Q,R Ah⟩
  obtain⟨a1,F,e9,_,u⟩:=(D.C g).at_ G;cases e9;have hb:=λk=>Pd (cs.getD k 0);obtain⟨z1,l1⟩:=LY (z:=8) (n:=8) B G (hb 1);obtain⟨z2,l2⟩:=LY (z:=16) (n:=16) B G (hb 2);obtain⟨z3,l3⟩:=LY (z:=24) (n:=24) B G (hb 3);obtain⟨t1,m1⟩:=Oj (by have:=hb 0;omega:(cs.getD 0 0).toNat<4294967296) l1;obtain⟨t2,m2⟩:=Oj m1 l2;obtain⟨t3,m3⟩:=Oj m2 l3;obtain⟨q,V⟩:∃q,q=(cs.getD 0 0).toNat|||(cs.getD 1 0).toNat*2^8|||(cs.getD 2 0).toNat*2^16|||(cs.getD 3 0).toNat*2^24:=⟨_,B⟩;have f:JP .i64 (JP .i64 (JP .i64 ((cs.getD 0 0).toNat:Int) (Es .i64 ((cs.getD 1 0).toNat:Int) 8)) (Es .i64 ((cs.getD 2 0).toNat:Int) 16)) (Es .i64 ((cs.getD 3 0).toNat:Int) 24)=(q:Int):=by
   rw[z1,t1,z2,t2,z3,t3,V]
  rw[←V] at m3;refine⟨[],Kq,G,_,Rd.ld u B (i:=0) (by rfl) (CY G),_,.inl ⟨⟨G,G2 _⟩,B⟩,
   G,_,Rd.ld u B (i:=1) (by rfl) (CY G),_,.inl ⟨⟨G,G2 _⟩,B⟩,G,
   G,_,Rd.ld u B (i:=2) (by rfl) (CY G),_,.inl ⟨⟨G,G2 _⟩,B⟩,G,
   G,_,Rd.ld u B (i:=3) (by rfl) (CY G),_,.inl ⟨⟨G,G2 _⟩,B⟩,G,?_⟩
  have W:AA c (nb (nb (nb (nb c)))):=AT (AT (AT (AT (AA.refl c))));have X:=g.trans W;have oX:=o.C W;obtain⟨h3,Y,k1,ah,ai⟩:=M _ X oX;refine⟨Pq,Bz (λe2=>?_) (λe2=>?_)⟩
  .exact⟨_,Y,_,k1,_,ah,ai Ah⟩
  rw[f] at e2;obtain⟨E,f1,f2,_⟩:=D.slice Kq (lo:=I (Vi 4)) (U:=I (Vi (4+q:Nat))) (l:=4) B B G G;obtain⟨w2,f3,f4,_⟩:=D.slice (τ:=Ax) (t:=98) Kq (lo:=I (Vi (4+q:Nat))) (U:=Z) (l:=4+q) (m:=m) B B G G;rw[BJ,BJ,EA,Ez] at f2 f4;have aa:∀H,CN H (C7 Ax 98 (.slice (I a1) m T) (I (Vi 4)) (I (Vi (4+q:Nat))) Z)=I (E,H):=λH=>by rw[f1];rfl
  have ab:∀H,CN H (C7 Ax 98 (.slice (I a1) m T) (I (Vi (4+q:Nat))) Z Z)=I (w2,H):=λH=>by rw[f3];rfl
  obtain⟨h5,u5,u6,u7⟩:=aQ.st (h:=(nb (nb (nb (nb c)))).ad) (τ:=Ax) (t:=98) B (i:=k) (v:=E) oX G f2.one;rw[(G:((4+q:Nat):Int)=(4:Int)+q),←f] at aa ab;refine⟨[],Kq,⟨by rw[f];omega,by rw[f];omega⟩,_,_,aa _,⟨by rw[f];omega,by rw[f];omega⟩,_,_,ab _,G,h5,(by rw[(by show 0+k*1=k;omega:0+((k:Int)).toNat*t98.size=k)];exact u5),Pq,_,_,Sq,G,k+1,m-(4+q),w2,_,xs.set k E,B,G,B,G,f4,⟨by simp;exact p,λx b=>?_⟩,u6.M,X.ah u7.M (Ae _)⟩;rcases BT b with b|rfl
  .exact C x b
  .exact⟨_,_,G,f2⟩
def aH.dk {e:Ai} {z:Aa} (f:G1 τ t t e 1=Ag) (j:CP τ e=I z) (q:one z=Ag) {a:List Ct} (s:aH h0 h a) (l m:Nat) (b:l<=m) (k:m<=16777216) (c d:Cq):
 ∃v g,Dk τ t (.int c (l:Int)) (.int d (m:Int)) h=I (v,g)/\aH h0 g (aS h0.a e 1 v l (AE l z)::a):=by
 let⟨g,a1,n,o,p⟩:=Vs f j q l m b k c d h;refine⟨_,g,a1,s.add n ⟨Jq,.inr ⟨h.a,m,AE (m-l) z,B,s.e.a,b,by simp;omega,?_⟩⟩ λi U=>A2 U.symm⟩;rw[Qi,show l+(m-l)=m by omega];exact o
def aH.cU {e:Ai} {z:Aa} (j:G1 τ t t e 1=Ag) (k:CP τ e=I z) (q:one z=Ag) {a:List Ct} (s:aH h0 h a) (l m:Nat) (b:l<=m) (n:m<=16777216) (c d:Cq):
 ∃v g,Dk τ t (.int c (l:Int)) (.int d (m:Int)) h.ad=I (v,g)/\aH h0 (h.M g) (aS h0.a e 1 v l (AE l z)::a):=by
 let⟨g,a1,o,f,p⟩:=Vs j k q l m b n c d h.ad;refine⟨_,g,a1,s.cf o ⟨Jq,.inr ⟨h.a,m,AE (m-l) z,?_,s.e.a,b,by simp;omega,?_⟩⟩ λi U=>A2 U.symm⟩
 .rfl
 rw[Qi,show l+(m-l)=m by omega];exact f
def gK (b a:Bo):Prop:=LB b=LB a/\a[0]?=I 0/\∀j,0<j->j<LB a->b.getD j 0<j/\a.getD j 0=a.getD (b.getD j 0) 0+1
def gK.add {b a:Bo} (f:gK b a) (U:i<LB a):gK (b++[i]) (a++[a.getD i 0+1]):=by
 let⟨f1,f2,f3⟩:=f;have old:∀(l:Bo) x j,j<LB l->(l++[x]).getD j 0=l.getD j 0:=λl x j c=>by
  rw[Ak,Ak,AB c]
 have d:∀(l:Bo) x,(l++[x]).getD (LB l) 0=x:=λl x=>by
  simp
 refine⟨Jq,Jq,λj c e=>?_⟩;simp[Br] at e;rcases A8 j (LB a) with h|h
 .let⟨g,k⟩:=f3 j c h
  rw[old b i j G,old a _ j h,old a _ (b.getD j 0) G];exact⟨g,k⟩
 .obtain rfl:j=LB a:=G
  rw[d a];rw[(f1▸d b i:(b++[i]).getD a.length 0=i),old a _ i U];exact⟨U,B⟩
def gK.le {b a:Bo} (f:gK b a):∀j,j<LB a->a.getD j 0<=j:=by
 intro j
 induction j using Nat.strongRecOn with
 |_ j c=>
  intro d;rcases KQ j with rfl|h
  .rw[Ak,f.2.1];exact Ae _
  .let⟨e,g⟩:=f.2.2 j h d
   have:=c _ e G;omega
def AS.bW (o:AS h N e k (sL b n c) n xs) (U:xs[i]?=I u):aC h b i u:=by
 let⟨a,d,e,_,q⟩:=o.cell U;cases e;exact q
def Z5 {l:List Bool} (h:l.getD i Ah=Ag):i<LB l:=by
 rcases A8 i (LB l) with a|a
 .exact a
 .rw[Ak,CD a] at h;cases h
def SL (l:BZ) (i:Nat) (s:Bd):(AR l).set i (Sg s)=AR (l.set i s):=by simp[AR]
def Yb (l:Bl) (i:Nat) (s:UInt8):(Ay l).set i (.int .u8 (dE s:Int))=Ay (l.set i s):=by simp[Ay]
def ADg {O w3:Nat} {P y:List Bool} {H:Nat} {lb:Bl} {ab:Bo} (Q:Du h b0 P) (W:Du h b1 y) (r:Rd h lv 1 H (Ay lb)) (X:BX h O m w3 ab) (al:H<=100000000):
 iB S L 3 195 [AG b0 0,AG b1 0,lv,AG O 0] h λw J=>∃(v:Aa) (R:Bool),w=.tuple #[v,.bool R]/\(R=Ag->∃l:BZ,Rd J v 1 (LB l) (AR l)):=
 Cn f195 λd am hL=>by
  have r0:=r;obtain⟨hr,A0,c0,rfl,an,ao,hA⟩:=r;have ap:LB lb=H:=by rw[A7] at hr;omega
  have aq:=Q.len;have ar:=W.len;have K:AA h h/\∃(v:Aa) (R:Bool),C4 #[sN,.bool Ah]=.tuple #[v,.bool R]/\(R=Ag->∃l:BZ,Rd h v 1 (LB l) (AR l)):=⟨AA.refl h,_,Ah,B,λh=>by cases h⟩;refine GZ (jh W.c0 d G) ?_;apply Bz<;>intro e1
  .exact K
  refine GZ (jh Q.c0 d G) ?_;refine⟨Pq,Pq,Ad (λe2=>?_) (λe2=>?_)⟩
  .exact K
  refine⟨Pq,Ad (λe3=>?_) (λe3=>?_)⟩
  .exact K
  refine GZ (ZW W Ag (LB y) G d G) ?_;refine GZ (K3 X.1 d G) ?_;apply Ad<;>intro e4
  .exact K
  refine GZ (K3 X.1 d G) ?_;apply Ad<;>intro e5
  .exact K
  refine GZ (ji Q d G) ?_;refine⟨_,_,B,Ad (λe6=>?_) (λe6=>?_)⟩
  .exact K
  refine GZ (ji Q d G) ?_;apply Ad<;>intro e7
  .exact K
  have e3:(H:Int)=LB y-1:=by simpa using e3
  have e5:=KK e5;obtain⟨D,g1,y1,s1⟩:=(aH.nil h).cU (τ:=Ax) (t:=50) (z:=Vi 0) Kq Kq B 1 (LB y) G G .i64 .i64;obtain⟨C,g2,y2,s2⟩:=s1.cU (τ:=Ax) (t:=50) (z:=Vi 0) Kq Kq B 1 (LB y) G G .i64 .i64;refine⟨[],Kq,_,_,y1,_,_,y2,GZ (K3 (X.C s2.e).1 d G) ?_⟩;obtain⟨g3,y3,x3,o3,au⟩:=Vs (τ:=Ax) (t:=40) (z:=.string ⟨#[]⟩) Kq Kq B m m (Ae _) G .i64 .i64 ((h.M g1).M g2);rw[show AE m (Sg ⟨#[]⟩)=AR (AE m ⟨#[]⟩) by simp[AR]] at o3;have s3:=s2.add (a:=aO ((h.M g1).M g2).a 9 (AR (AE m ⟨#[]⟩))) x3 o3 λi U=>A2 U.symm;refine⟨_,_,y3,?_⟩;generalize((h.M g1).M g2).a=bl at s3 y3⊢;refine⟨λM A hh=>∃(i f k:Nat) (D C:Aa) (c b:Bo) (E:BZ),A=[(0,AG b0 0),(1,AG b1 0),(2,.slice A0 H c0),(3,AG O 0),(11,D),(12,C),(13,Vi f),(14,Vi k),(15,sL bl m m),(69,Vi (LB y)),(70,Vi i)]/\
   i<=LB y/\M=LB y-i/\f<=LB P+2+i/\k<=i/\gK c b/\LB b<=f/\LB E=m/\aH h hh [aO bl 9 (AR E),aS h.a 3 1 C (LB b) (Bn b),aS h.a 3 1 D (LB c) (Bn c)],
   ⟨_,_,Sq,?_,0,2,0,D,C,[0],[0],_,B,Al _,B,G,Ae _,⟨B,B,λj h1 h2=>by simp at h2;omega⟩,by simp,by simp,s3⟩,?_⟩
  .omega
  rintro M A hh ⟨i,f,k,D,C,c,b,E,rfl,U,rfl,ad,hk,u,ae,aa,s⟩ av;apply Bz<;>intro f1;rotate_left
  .refine⟨s.e,_,Ag,B,λ_=>⟨E,?_⟩⟩
   have:=(s.dD 0 B).cR (CM E);rw[aa] at this⊢;exact this
  have ag:=u.1;have ah:0<LB b:=(cG.1 u.2.1).1;obtain⟨Z,cp,rfl⟩:=(s.sl 2 B).lit G;apply Bz<;>intro f2
  .exact⟨s.e,_,Ah,B,λh=>by cases h⟩
  refine⟨λM A o=>∃(f:Nat) (D C:Aa) (c b:Bo),A=[(0,AG b0 0),(1,AG b1 0),(2,.slice A0 H c0),(3,AG O 0),(11,D),(12,C),(13,Vi f),(14,Vi k),(15,sL bl m m),(16,Vi i),(69,Vi (LB y)),(70,Vi i)]/\
   M=LB P-f/\f<=LB P+2+i/\gK c b/\i<LB b/\LB b<=f/\aH h o [aO bl 9 (AR E),aS h.a 3 1 C (LB b) (Bn b),aS h.a 3 1 D (LB c) (Bn c)],
   ⟨_,_,Sq,?_,f,_,C,c,b,B,B,ad,u,G,ae,s⟩,?_⟩
  .omega
  clear s u ae ag ah f2 ad;rintro M A o ⟨f,D,C,c,b,rfl,rfl,ad,u,N,ae,s⟩ aw;have ag:=u.1;obtain⟨Z,cp,rfl⟩:=(s.sl 2 B).lit G;obtain⟨F,cd,rfl⟩:=(s.sl 1 B).lit G;have ax:=u.le i N;refine GZ (ji (Q.C s.e) d G) ?_;apply Ad<;>intro f3
  .have f3:f<LB P:=by
    rw[An] at f3;exact Z5 f3.2
   obtain⟨gx,T,v5,h5,t5,s5,hB⟩:=s.bO 50 3 1 2 [Vi i] ((c++[i]).length) (Bn (c++[i])) B s.e.a G wl (by simp[Bn]);subst T;obtain⟨gy,T,v6,V,t6,s6,_⟩:=s5.bO 50 3 1 1 [Vi (b.getD i 0+1:Nat)] ((b++[b.getD i 0+1]).length) (Bn (b++[b.getD i 0+1])) B s5.e.a G wl (by simp[Bn]);subst T;have ai:=(s5.sl 1 B).bW (GH N);have l5:Bw Ax 3 ((o.M (BN o.ad 3 [Vi i])).M h5).ad F (0+((i:Int)).toNat*t3.size)=I (Vi (b.getD i 0:Nat)):=by
    rw[show 0+((i:Int)).toNat*t3.size=i by show 0+i*1=i;omega];exact ld B ai
   have aj:=i3 50 3 1 (Vi (((b.getD i 0:Nat):Int)+1)) ((o.M (BN o.ad 3 [Vi i])).M h5).ad;rw[(G:((b.getD i 0+1:Nat):Int)=((b.getD i 0:Nat):Int)+1)] at t6 s6;refine⟨[.x 8 3],Kq,_,_,i3 50 3 1 (Vi i) _,_,_,t5,G,_,l5,hB F (by have:=(s.sl 1 B).aw F B;exact this) (s.2.2 1 2 _ _ xc B B F B),
    Pq,_,_,aj,_,_,t6,Pq,?_⟩
   refine⟨_,_,Sq,G,f+1,v5,v6,_,_,B,B,G,u.add N,by simp;omega,by simp;omega,s6⟩
  refine⟨Pq,GZ (ji (W.C s.e) (i:=i) d G) ?_⟩;refine⟨_,_,B,Ad (λf4=>?_) (λf4=>?_)⟩
  .exact⟨Pq,_,_,Sq,G,i+1,f+1,k,_,_,c,b,E,B,G,B,G,G,u,G,aa,s⟩
  refine GZ (ZZ (X.C s.e) (i:=k) d G) ?_;obtain⟨q,hq,ay,az⟩:∃q:Int,(if(0:Int)<=(k:Int)/\(k:Int)<m then E1 ab w3 (k:Int).toNat else 0)=q/\0<=q/\q<18446744073709551616:=by
   refine⟨_,B,?_,?_⟩<;>(have:=FM ab w3 (k:Int).toNat;split<;>omega)
  rw[hq];have lD:∀x,x<LB b->Bw Ax 3 o F (0+((x:Int)).toNat*t3.size)=I (Vi (b.getD x 0:Nat)):=λx Y=>by
   rw[show 0+((x:Int)).toNat*t3.size=x by show 0+x*1=x;omega];exact ld B ((s.sl 1 B).bW (GH Y))
  refine⟨Pq,_,.inl Pq,Bz (λf5=>?_) (λf5=>?_)⟩
  .exact⟨s.e,_,Ah,B,λh=>by cases h⟩
  refine⟨G,_,lD i N,Bz (λf6=>?_) (λf6=>?_)⟩
  .exact⟨s.e,_,Ah,B,λh=>by cases h⟩
  obtain⟨g,ak⟩:∃g,g=b.getD i 0:=⟨_,B⟩;obtain⟨g7,y7,x7,o7,n7⟩:=Vs (τ:=Ax) (t:=98) (e:=5) (z:=.int .u8 0) Kq Kq B g g (Ae _) G .i64 .i64 o;rw[show AE g (AL .u8 0)=Ay (AE g 0) by simp[Ay]] at o7;have s7:=s.add (a:=aO o.a 5 (Ay (AE g 0))) x7 o7 λi U=>A2 U.symm;refine⟨G,_,lD i N,_,_,(by rw[←ak];exact y7:Dk Ax 98 (Vi (b.getD i 0:Nat)) (Vi (b.getD i 0:Nat)) o=I (sL o.a g g,g7)),λM A V=>∃(x:Nat) (bs:Bl),A=[(0,AG b0 0),(1,AG b1 0),(2,.slice A0 H c0),(3,AG O 0),(11,sL Z (LB c) cp),(12,sL F (LB b) cd),(13,Vi (f+1:Nat)),(14,Vi (k+1:Nat)),(15,sL bl m m),(17,.int .u64 q),(19,sL o.a g g),(20,Vi x),(69,Vi (LB y)),(70,Vi i)]/\
   M=x/\x<LB b/\b.getD x 0<=g/\LB bs=g/\aH h V [aO o.a 5 (Ay bs),aO bl 9 (AR E),aS h.a 3 1 (sL F (LB b) cd) (LB b) (Bn b),aS h.a 3 1 (sL Z (LB c) cp) (LB c) (Bn c)],
   ⟨_,_,Sq,?_,i,_,B,B,N,G,by simp,s7⟩,?_⟩
  .omega
  rintro x A V ⟨_,bs,rfl,rfl,Y,a0,af,t⟩ a2;have lx:Bw Ax 3 V.ad F (0+((x:Int)).toNat*t3.size)=I (Vi (b.getD x 0:Nat)):=by
   rw[show 0+((x:Int)).toNat*t3.size=x by show 0+x*1=x;omega];exact ld B ((t.sl 2 B).bW (GH Y))
  apply Bz<;>intro f7
  .apply Bz<;>intro f8
   .obtain⟨a1,y1,T,_,q1⟩:=(r0.C t.e).at_ G
    cases T;obtain⟨m1,m2⟩:=u.2.2 x G Y;obtain⟨h7,u7,t7⟩:=t.stM (τ:=Ax) (t:=5) B (i:=0) B (j:=b.getD x 0-1) (v:=.int .u8 ((lb.getD (x-1) 0).toNat:Int)) (by rw[A7];omega) B;rw[Yb] at t7;have lp:Bw Ax 3 (V.M h7) Z (0+((x:Int)).toNat*t3.size)=I (Vi (c.getD x 0:Nat)):=by
     rw[show 0+((x:Int)).toNat*t3.size=x by show 0+x*1=x;omega];exact ld B ((t7.sl 3 B).bW (GH G))
    exact⟨[],Kq,G,_,lx,Pq,Pq,G,_,Rd.ld q1 B (i:=x-1) (by show((x:Int)-1).toNat*1=_;omega) (CY G),G,h7,(by rw[(by show 0+_*1=_;omega:0+(((b.getD x 0:Nat):Int)-1).toNat*t5.size=b.getD x 0-1)];exact u7),G,_,lp,_,_,Sq,m1,c.getD x 0,_,B,B,G,G,by simp;exact af,t7⟩
   .obtain⟨h8,u8,p⟩:=t.sT 9 1 (bH q) (.string ⟨⟨bs⟩⟩) B (by rw[CM];omega) B
    rw[SL] at p;have i8:0+bH q*t9.size=bH q:=by show 0+bH q*1=_;omega
    exact⟨_,FB (τ:=Ax) (s:=98) (d:=9) Kq ((t.dD 0 B).cR (n:=g) (by rw[A7];exact af)),G,h8,(by rw[i8];exact u8),Pq,_,_,Sq,G,i+1,f+1,k+1,_,_,c,b,_,B,G,B,G,G,u,G,by simp;exact aa,p.drop 1⟩
  .obtain⟨h8,u8,p⟩:=t.sT 9 1 (bH q) (.string ⟨⟨bs⟩⟩) B (by rw[CM];omega) B
   rw[SL] at p;exact⟨_,FB (τ:=Ax) (s:=98) (d:=9) Kq ((t.dD 0 B).cR (n:=g) (by rw[A7];exact af)),G,h8,(by rw[(by show 0+bH q*1=_;omega:0+q.toNat*t9.size=q.toNat)];exact u8),Pq,_,_,Sq,G,i+1,f+1,k+1,_,_,c,b,_,B,G,B,G,G,u,G,by simp;exact aa,p.drop 1⟩
def ACo (r:Rd h v 1 n (Ay bs)) (hn:n<=100000000):
 iB S L 6 106 [v] h λw J=>(w=.tuple #[.pointer Z,Vi 5]\/∃b t,w=.tuple #[AG b 0,Vi 0]/\Ge J h.a b t):=
 Cn f106 λd ai _=>by
  refine⟨_,ABl r hn d G,?_⟩;rintro _ U ⟨x1,xs,ok,rfl,f,i⟩;have F:(AJ (.agg ⟨xs⟩)).all one=true:=by
   rw[Jf];intro x f;obtain⟨_,_,_,h2⟩:=i x f;exact h2.one
  obtain⟨g2,H,ab,j,k⟩:=((aH.nil h).C x1).var (τ:=Ax) (t:=333) (z:=.agg ⟨AE 4 (.slice Z 0 0)⟩) Kq (by show Am (LB xs) 4=Ag;rw[f];rfl) Jq F;have u:AA U ab:=by
   obtain⟨K,z2,ad,ae,t2⟩:=(aH.nil U).var (τ:=Ax) (t:=333) (z:=.agg ⟨AE 4 (.slice Z 0 0)⟩) Kq (by show Am (LB xs) 4=Ag;rw[f];rfl) (by show LB xs=_;rw[f];rfl) F;have M:=H [];rw[z2 []] at M;cases M;rw[ae] at j;cases j;exact t2.e
  refine⟨_,_,H _,_,j,_,_,B,Ad (λe=>?_) (λe=>?_)⟩
  .exact⟨k.e,.inl B⟩
  match xs,f,i,k,j with
  |[a0,a1,a2,a3],_,i,k,j=>
  have N:=k.dD 0 B;obtain⟨m0,c0,l0,r0⟩:=i a0 wl;obtain⟨m1,c1,l1,r1⟩:=i a1 wl;obtain⟨m2,O,l2,r2⟩:=i a2 wl;obtain⟨m3,c3,l3,r3⟩:=i a3 wl;refine⟨G,_,ld B (N.cell B),_,su (r0.C u) G d G,?_⟩;intro w3 h3 ⟨m,p3⟩;obtain⟨q3,e3,rfl,f3⟩:∃(q:Aa) (e:Int),w3=.tuple #[q,Vi e]/\(e=0->∃p l,q=AG p 0/\Du h3 p l):=Gq;have P:=N.C m;refine⟨G,_,ld B (P.cell B),_,su (r2.C (u.trans m)) G d G,?_⟩;intro w4 h4 ⟨o,p4⟩;obtain⟨q4,e4,rfl,f4⟩:∃(q:Aa) (e:Int),w4=.tuple #[q,Vi e]/\(e=0->∃p l,q=AG p 0/\Du h4 p l):=Gq;have Q:=P.C o;refine⟨G,_,ld B (Q.cell B),_,sw (r3.C ((u.trans m).trans o)) G d G,?_⟩;intro w5 h5 ⟨s,p5⟩;obtain⟨q5,e5,rfl,f5⟩:∃(q:Aa) (e:Int),w5=.tuple #[q,Vi e]/\(e=0->∃p n wd ws,q=AG p 0/\BX h5 p n wd ws):=Gq;have y:=((k.e.trans m).trans o).trans s;refine Ad (λk1=>?_) (λk1=>?_)
  .exact⟨y,.inl B⟩
  refine Ad (λK=>?_) (λK=>?_)
  .exact⟨y,.inl B⟩
  refine Ad (λk3=>?_) (λk3=>?_)
  .exact⟨y,.inl B⟩
  obtain⟨p6,b6,rfl,v6⟩:=f3 Jq;obtain⟨p7,b7,rfl,v7⟩:=f4 Jq;obtain⟨p8,n8,aj,ak,rfl,v8⟩:=f5 Jq;refine⟨G,_,ld B ((Q.C s).cell B),_,ADg ((v6.C o).C s) (v7.C s) (r1.C (((u.trans m).trans o).trans s)) v8 G d G,?_⟩;rintro _ h9 ⟨x9,v9,al,rfl,f9⟩;have A:=y.trans x9;refine⟨_,_,B,Ad (λk4=>?_) (λk4=>?_)⟩
  .exact⟨A,.inl B⟩
  obtain⟨l9,r9⟩:=f9 Jq;refine⟨_,ly r9 d G,?_⟩;rintro _ c ⟨R,⟨e,he,rfl⟩|⟨b,t,rfl,T,_,af⟩⟩
  .refine⟨[],Kq,Ad (λV=>?_) (λV=>?_)⟩
   .exact⟨A.trans R,.inl B⟩
   .have:e=0:=by simpa using V
    omega
  .have ag:=A.trans R
   refine⟨[],Kq,_,mR (h:=c.ad) T d G,?_⟩;rintro W g ⟨C,D,am,ah⟩;have E:=ag.trans C.M;have X:Rd (c.M g) W 1 (LB D) (Ay D):=(ah.rd).M;have Y:=r.C (AT E);have c1:Ea Ax 98 9 W (c.M g).ad=I (.string ⟨⟨D⟩⟩,(c.M g).ad):=FB Kq X;have O:Ea Ax 98 9 v (nb (c.M g)).ad=I (.string ⟨⟨bs⟩⟩,(nb (c.M g)).ad):=FB Kq Y;obtain⟨_,A1,an,rfl,_⟩:=X;obtain⟨_,ao,ad,rfl,_⟩:=Y;refine⟨C.C,_,c1,_,O,_,B,Ad (λk6=>?_) (λk6=>?_)⟩
   .exact⟨AT (AT E),.inl B⟩
   .exact⟨AT (AT E),.inr ⟨b,t,B,((show Ge c h9.a b t from⟨T,af⟩).mono A.a|>.C C.M).C (AT (AT (AA.refl _)))⟩⟩
def PV:Bl->Int->Nat->Nat->Option (Int×Nat)
 |[],_,_,_=>Z
 |c::l,v,a,i=>
  if(a=63/\1<dE c)\/(0<a/\dE c=0) then Z else
  let v:=JP .u64 v (Es .u64 (D8 .u8 (dE c) 127) a)
  if dE c<128 then I (v,i+1) else PV l v (a+7) (i+1)
def Amo (a b:Int):0<=JP .u64 a b/\JP .u64 a b<18446744073709551616:=by
 let⟨y,h1,c⟩:=NR a b;omega
def JF:∀(l:Bl) (v:Int) (a i:Nat) (w:Int) (j:Nat),PV l v a i=I (w,j)->(0<=w/\w<18446744073709551616)/\i<j/\j<=i+LB l
 |[],v,a,i,w,j,h=>Jq
 |c::l,v,a,i,w,j,h=>by
  rw[PV] at h;split at h
  .cases h
  .simp only[] at h
   split at h
   .cases h;exact⟨Amo _ _,G,Jq⟩
   .let⟨h1,b,d⟩:=JF l _ _ _ w j h
    exact⟨h1,G,Jq⟩
def Akz {a:Bl} (r:Rd h v 1 n (Ay bs)) (b:Rd h v 1 m (Ay a)):bs=a:=by
 have e:=r.src;have d:=b.src;obtain⟨_,A,c,rfl,_⟩:=r;let⟨_,i,j,g,_⟩:=b;cases g;rw[e] at d;have f:=EM bs;rw[I.inj d,EM] at f;exact(I.inj f).symm
open Classical in
def IK (h:Y) (v:Aa):Option Bl:=if e:∃(bs:Bl) (n:Nat),Rd h v 1 n (Ay bs)/\n<=4611686018427387904 then I (iW e) else Z
def QB (_:Be) (args:AH) (h:Y):Jl:=match args with
 |[v,.int .i64 i]=>(match IK h v with
  |I bs=>(match(if 0<=i then PV (bs.drop i.toNat) 0 0 i.toNat else Z) with
   |I (w,j)=>I (.tuple #[.int .u64 w,.int .i64 j,.bool Ag],h)
   |Z=>I (.tuple #[.int .u64 0,.int .i64 0,.bool Ah],h))
  |Z=>Z)
 |_=>Z
def Ph (_:Be) (args:AH) (h:Y):Jl:=match args with
 |[v,.int .i64 i]=>(match IK h v with
  |I bs=>(match(if 0<=i then PV (bs.drop i.toNat) 0 0 i.toNat else Z) with
   |I (w,j)=>if w<=(LB bs)-j then I (.tuple #[.string ⟨⟨(bs.drop j).take w.toNat⟩⟩,.int .i64 (j+w),.bool Ag],h) else I (.tuple #[.string ⟨#[]⟩,.int .i64 0,.bool Ah],h)
   |Z=>I (.tuple #[.string ⟨#[]⟩,.int .i64 0,.bool Ah],h))
  |Z=>Z)
 |_=>Z
class dG (S:A9) (L:Nat):Prop extends aF S L where
 uint:S.a 101=I QB
 text:S.a 102=I Ph
def Lm {g:Be->AH->Y->Jl} (a:S.a f=I g) (b:∀c,g c args h=I (v,J)) (d:Q v J):Bk S L 1 f args h Q:=by
 intro n e;obtain⟨m,rfl⟩:∃m,n=m+1:=⟨n-1,G⟩;exact⟨v,J,d,YV a (b _)⟩
def Rf (r:Rd h v 1 n (Ay bs)) (a:n<=4611686018427387904):IK h v=I bs:=by
 have e:∃(bs:Bl) (n:Nat),Rd h v 1 n (Ay bs)/\n<=4611686018427387904:=⟨bs,n,r,a⟩;unfold IK;rw[dif_pos e];let⟨_,b,_⟩:=il e;exact Cs I (Akz b r)
def RC (e:IK h v=I bs):∃n,Rd h v 1 n (Ay bs)/\n<=4611686018427387904:=by
 unfold IK at e;split at e
 .rename_i x
  cases e;exact il x
 .cases e
def kj [b:dG S L] (r:Rd h v 1 n (Ay bs)) (c:n<=4611686018427387904) {i:Int}:
 Bk S L 1 101 [v,Vi i] h λw J=>J=h/\∃(x:Int) (j:Nat) (d:Bool),w=.tuple #[.int .u64 x,Vi j,.bool d]/\0<=x/\x<18446744073709551616/\j<=n:=by
 have hb:=Rf r c;have g:LB bs=n:=by have:=r.1;rw[A7] at this;omega
 cases a:(if 0<=i then PV (bs.drop i.toNat) 0 0 i.toNat else Z) with
 |none=>exact Lm b.uint (v:=.tuple #[.int .u64 0,Vi 0,.bool Ah]) (λe=>by simp only[QB,hb,a]) ⟨B,0,0,Ah,B,G,G,G⟩
 |some p=>
  let⟨x,j⟩:=p;refine Lm b.uint (λe=>by simp only[QB,hb,a]) ⟨B,x,j,Ag,B,?_⟩;split at a
  .let⟨h1,k,f⟩:=JF _ _ _ _ _ _ a
   rw[AV] at f;refine⟨h1.1,h1.2,?_⟩;omega
  .cases a
def tw [b:dG S L] (r:Rd h v 1 n (Ay bs)) (g:n<=4611686018427387904) {i:Int}:
 Bk S L 1 102 [v,Vi i] h λw J=>J=h/\∃(s:Bd) (j:Nat) (c:Bool),w=.tuple #[Sg s,Vi j,.bool c]/\aL s<=n/\j<=n:=by
 have hb:=Rf r g;have l:LB bs=n:=by have:=r.1;rw[A7] at this;omega
 have d:∃(s:Bd) (j:Nat) (c:Bool),C4 #[Sg ⟨#[]⟩,Vi 0,.bool Ah]=.tuple #[Sg s,Vi j,.bool c]/\aL s<=n/\j<=n:=⟨_,0,Ah,B,Al _,G⟩;cases a:(if 0<=i then PV (bs.drop i.toNat) 0 0 i.toNat else Z) with
 |none=>exact Lm b.text (λe=>by simp only[Ph,hb,a]) ⟨B,d⟩
 |
  some p=>
  obtain⟨x,j⟩:=p;split at a
  .obtain⟨o,m,k⟩:=JF _ _ _ _ _ _ a
   by_cases f:x<=(LB bs)-j
   .refine Lm b.text (v:=.tuple #[Sg ⟨⟨(bs.drop j).take x.toNat⟩⟩,Vi (j+x),.bool Ag]) (λe=>by simp only[Ph,hb,a,Bi f,Bi ‹0<=i›]) ⟨B,⟨⟨(bs.drop j).take x.toNat⟩⟩,(j+bH x),Ag,?_,?_,G⟩
    .rw[show(((j+bH x:Nat)))=j+x by omega]
    .show((bs.drop j).take x.toNat).length<=n;simp;omega
   .exact Lm b.text (λe=>by simp only[Ph,hb,a,Bm f,Bi ‹0<=i›]) ⟨B,d⟩
  .cases a
def Ni {a:Type} {P:a->Prop} {c:Bool} {x y:a} (b:P x) (d:P y):P (bif c then x else y):=Jq
def TU (a b c d:Nat):1<=(ZN a b c d).2:=
 Ni (P:=λx:Nat×Nat=>1<=x.2) (Ae 1) (Ni (P:=λx:Nat×Nat=>1<=x.2) (Ni (P:=λx:Nat×Nat=>1<=x.2) (by show 1<=2;decide) (Ae 1))
  (Ni (P:=λx:Nat×Nat=>1<=x.2) (Ni (P:=λx:Nat×Nat=>1<=x.2) (by show 1<=3;decide) (Ae 1)) (Ni (P:=λx:Nat×Nat=>1<=x.2) (Ni (P:=λx:Nat×Nat=>1<=x.2) (by show 1<=4;decide) (Ae 1)) (Ae 1))))
def NE (b:h.t.get r=I (.str s p)):(p<aL s/\∃w z,(1<=w/\w=(FF (s.data.toList.drop p)).2/\z=(FF (s.data.toList.drop p)).1)/\FT (AG r 0) Ag h=I [(.tuple #[.bool Ag,Vi p,.int .i32 z],h.put r (.str s (p+w)))])\/
 (aL s<=p/\FT (AG r 0) Ag h=I [(.tuple #[.bool Ah],h)]):=by
 rcases A8 p s.size with a|a
 .refine .inl ⟨a,(FF (s.data.toList.drop p)).2,(FF (s.data.toList.drop p)).1,⟨TU _ _ _ _,B,B⟩,?_⟩
  show(match h.t.get r,Ag with|I (.str s c),Ag=>_|some (.ay Z _ _ _),Ah=>_|some (.ay (I m) d seen e),Ah=>_|_,_=>_)=_
  rw[b];simp only[show AD p s.size=Ag by rw[AK];exact a];rfl
 .refine .inr ⟨a,?_⟩
  show(match h.t.get r,Ag with|I (.str s c),Ag=>_|I (.ay Z _ _ _),Ah=>_|I (.ay (I m) d seen e),Ah=>_|_,_=>_)=_
  rw[b];simp only[show AD p s.size=Ah by rw[MK,ne_eq,AK];omega,I0]
def oU (S:A9) (L d:Nat) (c:Aa) (h:Y):Prop:=∃g first cap,c=.func (.func g) first cap/\∀z J,AA h J->Bk S L d g (aI first++[.int .i32 z]++aI cap) J λv a=>a=J/\∃b,v=.bool b
def AAy (y:aL s<=100000000) (o:oU S L e fv h) {t:Bool}:
 iB S L (e+1) 383 [Sg s,fv,.bool t] h λw J=>∃z:Int,w=Vi z:=
 Cn f383 λd C D=>by
  obtain⟨g,first,cap,rfl,q⟩:=o
  have c:=(aH.nil h).add (a:=aB h.a (.str s 0)) (AA.new h (.str s 0)) ⟨by rw[Ck];omega,by rw[CK,Bi B]⟩ λi U=>A2 U.symm;have r:Gh Ax 9 (Sg s) h=I (AG h.a 0,h.new (.str s 0)):=B;refine⟨_,_,r,λm A f=>∃p:Nat,A=[(1,.func (.func g) first cap),(2,.bool t),(10,AG h.a 0)]/\m=aL s-p/\aH h f [aB h.a (.str s p)],
   ⟨_,_,Sq,?_,0,B,B,c⟩,?_⟩
  .omega
  rintro m A f ⟨p,rfl,rfl,c⟩ E;rcases NE (c.a7 0 B) with⟨u,w,z,F,j⟩|⟨u,j⟩
  .refine⟨_,_,j,?_⟩
   have l:=c.pu 0 (.str s (p+w)) B;refine⟨_,q z _ l.e d G,?_⟩;rintro _ H ⟨rfl,b,rfl⟩;refine⟨_,B,Ad (λk=>?_) (λk=>?_)⟩
   .exact⟨l.e,_,B⟩
   .exact⟨_,_,Sq,G,p+w,B,B,l⟩
  .exact⟨_,_,j,c.e,_,B⟩
def ACl (b:aL s<=100000000) (c:oU S L e fv h):
 iB S L (e+2) 347 [Sg s,fv] h λw J=>∃z:Int,w=Vi z:=
 Cn f347 λd g _=>by
  refine cl (AAy b c) ?_;rintro _ a ⟨f,z,rfl⟩;exact⟨f,z,B⟩
def kH (c:aL s<=100000000) (f:oU S L e fv h):
 iB S L (e+3) 279 [Sg s,fv] h λw J=>∃b:Bool,w=.bool b:=
 Cn f279 λd i _=>by
  refine cl (ACl c f) ?_;rintro _ a ⟨g,z,rfl⟩;exact⟨g,_,B⟩
def AAt:iB S L 5 269 [Sg s] h λw J=>∃b:Bool,w=.bool b/\(b=Ag->aL s<=16):=
 Cn f269 λd g _=>by
  apply Ad<;>intro i
  .apply Bz<;>intro j
   .refine cl (kH G ⟨343,#[],#[],B,λz J _=>(ADt).mono λv k c=>⟨c.2,_,c.1⟩⟩) ?_
    rintro _ a ⟨f,b,rfl⟩;exact⟨_,_,B,f,_,B,λ_=>G⟩
   .exact⟨AA.refl h,Ah,B,λh=>Jq⟩
  .exact⟨AA.refl h,Ah,B,λh=>Jq⟩
def Lx {b:Type} {l:List b} {a:b} (h:l[i]?=I a):l.set i a=l:=by
 apply List.ext_getElem?;intro j;rw[Iu];split
 .rename_i e;subst e
  rw[Bi (cG.1 h).1,h]
 .rfl
def aH.a5 (c:Gv τ t=Ag) (s:aH h0 h l) (U:l[i]?=I (aO b e xs)) (d:j<LB xs) (k:one v=Ag):
 ∃J,BA τ t h b j v=I J/\aH h0 J (l.set i (aO b e (xs.set j v)))/\Er b h J:=by
 let⟨J,a1,f,a⟩:=aQ.st c (s.dD _ U) d k;exact⟨J,a1,s.ah _ U a.O f (λx g=>.inl g),a⟩
def sB [dG S L] (s:aH h0 h l) (u:i≠k) (c1:aC h b1 0 v) (H:b1≠b) (r:Rd h v 1 n (Ay bs)) (K:n<=100000000) {j:Int} {e:Bool} (U:l[i]?=I (aO b 3 [Vi j])) (f:l[k]?=I (aO c 4 [.bool e])) {most:Nat} (M:most<=100000000):
 Bk S L 2 185 [Vi most,AG b1 0,AG b 0,AG c 0] h λw J=>∃(x:Nat) (a:Int) (g:Bool),w=Vi x/\x<=most/\(a=j\/0<=a/\a<=n)/\aH h0 J ((l.set i (aO b 3 [Vi a])).set k (aO c 4 [.bool g])):=
 Cn f185 λd N _=>by
  have V:=(s.dD _ U).cell (i:=0) B;have z:=(s.dD _ f).cell (i:=0) B;refine⟨_,ld B c1,_,ld B V,_,kj r G d G,?_⟩;rintro _ h ⟨rfl,x,q,O,rfl,P,Q,R⟩;obtain⟨x,rfl⟩:∃y:Nat,x=y:=⟨bH x,G⟩;obtain⟨A,m,C⟩:=s.st (τ:=Ax) (t:=4) B f (v:=.bool Ah) (by show 0<1;decide) B;have o:∃(x:Nat) (a:Int) (g:Bool),Vi 0=Vi x/\x<=most/\(a=j\/0<=a/\a<=n)/\aH h0 A ((l.set i (aO b 3 [Vi a])).set k (aO c 4 [.bool g])):=
   ⟨0,j,Ah,B,Al _,.inl B,by rw[Lx U];exact C⟩
  obtain⟨T,p,t2⟩:=s.st (τ:=Ax) (t:=3) B U (v:=Vi q) (by show 0<1;decide) B;refine⟨_,ld B z,_,_,B,Ad (λD=>?_) (λD=>?_)⟩
  .exact⟨_,m,o⟩
  refine⟨_,_,B,Ad (λE=>?_) (λE=>?_)⟩
  .exact⟨_,m,o⟩
  refine⟨_,.inl Pq,Bz (λF=>?_) (λF=>?_)⟩
  .exact⟨_,m,o⟩
  refine⟨_,p,_,.inl Pq,x,q,e,B,G,.inr G,?_⟩;rw[Lx (by rw[fT u];exact f)];exact t2
def aH.O {z:Aa} (b:CP τ t=I z) (s:aH h0 h l):∃a,(∀A,D9 τ A h (.alloc t)=I (AG h.a 0,a))/\aH h0 a (aO h.a t (AJ z)::l):=
 ⟨BN h t (AJ z),λA=>by show(match CP τ t with|I z=>K7 τ t z h|Z=>Z)=_;rw[b];rfl,s.add (AA.row h t (AJ z)) (aQ.row _ _ _) λi U=>A2 U.symm⟩
def oN:DQ:=⟨⟨#[]⟩,.slice Z 0 0,[]⟩
def H3 (ps:List DQ):AH:=ps.flatMap Fj
def OS (ps:List DQ):(H3 ps).length=LB ps*2:=by
 induction ps with
 |nil=>rfl
 |cons p ps a=>simp[H3] at a⊢;rw[a];simp[Fj];omega
def Aay (m:Nat):Dy [Sg ⟨#[]⟩,sN] m=H3 (AE m oN):=by
 induction m with
 |zero=>rfl
 |succ m a=>rw[Dy,a];rfl
def XM (ps:List DQ) {p:DQ} (U:ps[i]?=I p) (s:Bd):(H3 ps).set (i*2) (Sg s)=H3 (ps.set i {p with c:=s}):=by
 induction ps generalizing i with
 |nil=>cases U
 |cons q ps a=>
  cases i with
  |zero=>cases U;rfl
  |
   succ i=>
   have:=a (U);rw[show(i+1)*2=i*2+1+1 by omega];show Fj q++(H3 ps).set (i*2) (Sg s)=Fj q++H3 (ps.set i {p with c:=s});rw[this]
def Yh (ps:List DQ) {p:DQ} (U:ps[i]?=I p) (v:Aa) (b:Bl):(H3 ps).set (i*2+1) v=H3 (ps.set i {p with b:=v,a:=b}):=by
 induction ps generalizing i with
 |nil=>cases U
 |cons q ps a=>
  cases i with
  |zero=>cases U;rfl
  |
   succ i=>
   have:=a (U);rw[show(i+1)*2+1=i*2+1+1+1 by omega];show Fj q++(H3 ps).set (i*2+1) v=Fj q++H3 (ps.set i {p with b:=v,a:=b});rw[this]
def TE (h:Y) (M:Nat) (ps:List DQ):Prop:=∀p∈ps,aL p.c<=100000000/\LB p.a<=16777216/\Rd h p.b 1 (LB p.a) (Ay p.a)/\∀i,BY p.b i->M<=i
def TE.O (p:TE h M ps) (c:B0 W h J) (b:∀i,W i->i<M):TE J M ps:=λq d=>by
 let⟨h1,e,f,a⟩:=p q d;exact⟨h1,e,f.O c λi U g=>Jq,a⟩
def TE.set (p:TE h M ps) (i:Nat) {q:DQ} (b:aL q.c<=100000000/\LB q.a<=16777216/\Rd h q.b 1 (LB q.a) (Ay q.a)/\∀i,BY q.b i->M<=i):TE h M (ps.set i q):=λx a=>by
 rcases BT a with a|rfl
 .exact p x a
 .exact b
def Jp (u:BA τ t h b j v=I J) (a:x=j):BA τ t h b x v=I J:=Jq
def Dz (u:Bw τ t h b j=I v) (a:x=j):Bw τ t h b x=I v:=Jq
def aQ.dB (o:aQ h b e xs) (a:LB xs=n*k):Rd h (sL b n n) k n xs:=
 AS.rd ⟨a,.inr ⟨b,n,[],B,Ae _,Ae _,Jq,Jq⟩⟩
def AGc [dG S L] (r:Rd h v 1 n (Ay bs)) (hn:n<=100000000):
 iB S L 3 100 [v] h λw J=>∃(o:Aa) (c:Bool),w=.tuple #[o,.bool c]/\(c=Ag->∃ps,LB ps<=64/\EC J o ps):=
 Cn f100 λd a2 hL=>by
  obtain⟨hr,N,O,rfl,ai,aj,hA⟩:=r;have rr:Rd h (.slice N n O) 1 n (Ay bs):=⟨hr,N,O,B,ai,aj,hA⟩;obtain⟨g1,y1,s1⟩:=(aH.nil h).box Ax 98 (.slice N n O);obtain⟨g2,y2,W⟩:=s1.O (z:=Vi 0) Kq;obtain⟨g3,y3,C⟩:=W.O (z:=.bool Ah) Kq;obtain⟨g4,y4,D⟩:=C.sT 3 1 _ (Vi 4) B (by show 0<1;decide) B;obtain⟨g5,y5,f⟩:=D.sT 4 0 _ (.bool Ag) B (by show 0<1;decide) B;refine⟨_,_,y1,_,_,y2 _,_,_,y3 _,_,y4,_,y5,?_⟩;generalize ab:g1.a=g at f;generalize ad:g2.a=P at f;have aa:h.a≠g:=λe=>f.2.2 2 1 _ _ (by decide) B B h.a B e;subst ab ad;refine cl (sB f (i:=1) (k:=0) xc (f.q 2 _ B B) aa (rr.C f.e) hn B B (most:=64) G) ?_;rintro _ h6 ⟨m,Q,ak,rfl,hm,al,s6⟩;have al:0<=Q/\Q<=n+4:=G;obtain⟨g7,y7,x7,o7,_⟩:=YH (τ:=Ax) (t:=127) (e:=184) (k:=2) (z:=.agg #[Sg ⟨#[]⟩,sN]) Kq Kq m m (Ae _) G .i64 .i64 h6;have o7:aQ g7 h6.a 184 (H3 (AE m oN)):=by rw[←Aay];exact o7
  have s7:=s6.add (a:=aO h6.a 184 (H3 (AE m oN))) x7 o7 λi U=>A2 U.symm;obtain⟨g8,y8,x8,o8,n8⟩:=MA (τ:=Ax) (t:=50) (e:=3) (z:=Vi 0) Kq Kq B m G .i64 .i64 g7;rw[show AE m (Vi 0)=Bn (AE m 0) by simp[Bn]] at o8;have R:=s7.add (a:=aO g7.a 3 (Bn (AE m 0))) x8 o8 λi U=>A2 U.symm;refine⟨_,_,y7,_,_,y8,?_⟩;have am:=R.2.1 0 _ B;generalize an:g7.a=X at R;generalize ao:h6.a=T at R;generalize ab:g1.a=g at R;generalize ad:g2.a=P at R;obtain⟨Q,rfl⟩:∃y:Nat,Q=y:=⟨bH Q,G⟩;refine⟨λμ A E=>∃(i j:Nat) (c:Bool) (ps:List DQ) (sz:Bo),A=[(1,AG h.a 0),(4,AG g 0),(5,AG P 0),(6,.func (.func 185) #[] #[AG h.a 0,AG g 0,AG P 0]),(7,sL T m m),(8,sL X m m),(9,Vi i)]/\
   i<=m/\μ=m-i/\j<=n+4/\LB ps=m/\LB sz=m/\(∀x∈sz,x<=16777216)/\(∀p∈ps,aL p.c<=100000000/\p.b=sN/\p.a=[])/\aH h E [aO X 3 (Bn sz),aO T 184 (H3 ps),aO P 4 [.bool c],aO g 3 [Vi j],aO h.a 98 [.slice N n O]],
   ⟨_,_,Sq,?_,0,Q,ak,_,_,B,Al _,B,G,by simp,by simp,?_,?_,R⟩,?_⟩
  .omega
  .intro x hx;rw[CH hx];omega
  .intro p u;rw[CH u];exact⟨Al _,B,B⟩
  clear am an ao ab ad s7 s6 f D C W s1 aa;rintro μ A E ⟨i,j,c,ps,sz,rfl,U,rfl,ae,K,ap,ag,M,s⟩ aq;have aa:h.a≠g:=λe=>s.2.2 4 3 _ _ xc B B h.a B e;have c1:=s.q 4 0 B B;have Y:=s.q 3 0 B B;have c5:=s.q 2 0 B B;apply Bz<;>intro e1;refine⟨_,ld B c5,Ad (λe2=>?_) (λe2=>?_)⟩
  .refine⟨_,ld B c1,_,ld B Y,_,tw (rr.C s.e) G d G,?_⟩
   rintro _ E ⟨rfl,nm,q,is,rfl,a3,hq⟩;refine⟨_,_,B,Ad (λe3=>?_) (λe3=>?_)⟩
   .exact⟨s.e,_,Ah,B,λh=>by cases h⟩
   have af:ps[i]?=I ps[i]:=Ab G;obtain⟨F,u2,W⟩:=s.sT 9 1 (i*2) (.string nm) B (by rw[OS];omega) B;rw[XM ps af] at W;obtain⟨h3,u3,C⟩:=W.sT 3 3 0 (Vi q) B (Ac B) B;refine⟨G,_,Jp u2 (by show 0+i*2+0=i*2;omega),_,u3,_,sB C (i:=3) (k:=2) xc (C.q 4 0 B B) aa (rr.C C.e) hn B B (most:=16777216) G d G,?_⟩;rintro _ h4 ⟨x,j4,ar,rfl,hx,a4,D⟩;obtain⟨j4,rfl⟩:∃y:Nat,j4=y:=⟨bH j4,G⟩;obtain⟨h5,u5,f⟩:=D.sT 3 0 i (Vi x) B (by rw[HO];omega) B;rw[show(Bn sz).set i (Vi x)=Bn (sz.set i x) by simp[Bn,Cp]] at f;refine⟨G,_,Jp u5 (by show 0+i*1=i;omega),Pq,_,_,Sq,G,i+1,j4,ar,_,_,B,G,B,G,by simp;exact K,by simp;exact ap,?_,?_,f⟩
   .intro y hy
    rcases BT hy with hy|rfl
    .exact ag y hy
    .exact hx
   .intro p u
    rcases BT u with u|rfl
    .exact M p u
    .exact⟨by show aL nm<=_;omega,(M _ (Bu _)).2⟩
  all_goals
   refine⟨λμ A F=>∃(i j:Nat) (c:Bool) (ps:List DQ),A=[(1,AG h.a 0),(4,AG g 0),(5,AG P 0),(7,sL T m m),(51,sL X m m),(52,Vi m),(53,Vi i)]/\
    i<=m/\μ=m-i/\j<=n+4/\LB ps=m/\E.a<=F.a/\TE F E.a ps/\aH h F [aO X 3 (Bn sz),aO T 184 (H3 ps),aO P 4 [.bool c],aO g 3 [Vi j],aO h.a 98 [.slice N n O]],
    ⟨_,_,Sq,G,0,j,c,ps,B,Al _,B,ae,K,Ae _,λp u=>?_,s⟩,?_⟩
   .obtain⟨f1,V,f3⟩:=M p u
    rw[V,f3];exact⟨f1,Al _,(AS.nil E 0 5 1).rd,λi U=>U.elim⟩
   have au:=(s.dD 3 B).1;have av:=(s.dD 1 B).1;clear M c1 Y c5 K s ae;rintro μ A F ⟨i,j,c,ps,rfl,U,rfl,ae,K,a5,M,s⟩ aq;have c1:=s.q 4 0 B B;have Y:=s.q 3 0 B B;have c5:=s.q 2 0 B B;apply Bz<;>intro e1;rotate_left
   .have Da:∀b:Bool,AA h F/\∃(o:Aa) (c:Bool),C4 #[sL T m m,.bool b]=.tuple #[o,.bool c]/\(c=Ag->∃ps,LB ps<=64/\EC F o ps):=λb=>by
     refine⟨s.e,_,b,B,λ_=>⟨ps,G,?_,λp u=>?_⟩⟩
     .have:=(s.dD 1 B).dB (n:=m) (k:=2) (by rw[OS,K])
      rw[←K] at this⊢;exact this
     .obtain⟨f1,V,f3,_⟩:=M p u
      exact⟨f1,V,f3⟩
    refine⟨[],Kq,_,ld B c5,Ad (λe2=>?_) (λe2=>?_)⟩
    .exact⟨_,ld B Y,_,ld B c1,Da _⟩
    .exact Da Ah
   have aw:sz.getD i 0<=16777216:=by
    rw[Ak,Ab G];exact ag _ (Bu _)
   obtain⟨q,hq⟩:∃q,q=sz.getD i 0:=⟨_,B⟩;have l1:Bw Ax 3 F X (0+((i:Int)).toNat*t3.size)=I (Vi q):=by
    rw[hq];exact Dz (ld B (s.q 0 _ B (GH G))) (by show 0+i*1=i;omega)
   rw[←hq] at aw;refine⟨G,_,l1,_,ld B c5,_,_,B,Ad (λe2=>?_) (λe2=>?_)⟩
   .exact⟨s.e,_,Ah,B,λh=>by cases h⟩
   refine⟨_,ld B c1,_,ld B Y,Pq,Bz (λe3=>?_) (λe3=>?_)⟩
   .exact⟨s.e,_,Ah,B,λh=>by cases h⟩
   obtain⟨w1,f1,V,_⟩:=rr.slice (τ:=Ax) (t:=98) Kq (lo:=I (Vi (j:Nat))) (U:=I (Vi (j+q:Nat))) (l:=j) (m:=j+q) B B G G;rw[BJ,BJ,EA,Ez,show j+q-j=q by omega] at V;have ax:∀H,CN H (C7 Ax 98 (.slice N n O) (I (Vi (j:Nat))) (I (Vi ((j:Int)+(q:Int)))) Z)=I (w1,H):=λH=>by
    rw[show(j:Int)+(q:Int)=((j+q:Nat):Int) by omega,f1];rfl
   refine⟨_,ld B c1,_,ld B Y,_,ld B Y,Pq,_,_,ax _,_,sG (V.C s.e) G d G,?_⟩;rintro w3 h3 ⟨x3,r3⟩;have C:=s.C x3;have a6:=x3.a;have ay:TE h3 E.a ps:=M.O (x3.O λ_=>False) λ_ h=>h.elim;have af:ps[i]?=I ps[i]:=Ab G;obtain⟨h4,u4,D,v4⟩:=C.a5 (τ:=Ax) (t:=98) B (i:=1) B (j:=i*2+1) (v:=w3) (by rw[OS];omega) r3.rd.one;rw[Yh ps af w3 ((bs.drop j).take q)] at D;obtain⟨h5,u5,f,v5⟩:=D.a5 (τ:=Ax) (t:=3) B (i:=3) B (j:=0) (v:=Vi (j+q:Nat)) (Ac B) B;have az:((bs.drop j).take q).length=q:=by have:=V.1;rw[A7] at this;omega
   have ah:TE h4 E.a ps:=ay.O v4.O λi U=>by rw[U];exact av
   have r4:Rd h4 w3 1 q (Ay ((bs.drop j).take q)):=r3.rd.O v4.O λi U hb=>by have:=r3.ai i U;have hb:i=T:=hb;omega
   have a0:=(ah.set i (q:={ps[i] with b:=w3,a:=(bs.drop j).take q}) ⟨(ah _ (Bu _)).1,by show((bs.drop j).take q).length<=_;omega,by show Rd h4 w3 1 ((bs.drop j).take q).length _;rw[az];exact r4,λi U=>by have:=r3.ai i U;omega⟩).O v5.O λi U=>by rw[U];exact au
   have ej:((j:Int)+(q:Int))=((j+q:Nat):Int):=G;have a1:BA Ax 3 h4 g 0 (Vi ((j:Int)+(q:Int)))=I h5:=by rw[ej];exact u5
   have a7:=v4.a;have a8:=v5.a;exact⟨G,_,Jp u4 (by show 0+i*2+1=i*2+1;omega),_,ld B (D.q 3 0 B B),Pq,_,a1,Pq,_,_,Sq,G,i+1,j+q,c,_,B,G,B,G,by simp;exact K,G,a0,f⟩
def K8 (τ:Bb) (kt:Ai) (K:Aa->Prop):Prop:=∀k,K k->Do τ 5 kt k=Ag/\∀k',K k'->∃b,IZ τ Op.maxDepth kt k k'=I b/\(b=Ag->Cy k' k=Ag)
def Gy (h:Y) (r:Nat) (K V:Aa->Prop):Prop:=r<h.a/\∃es b,h.t.get r=I (.map es b)/\(∀e∈es,K e.key/\V e.val)/\Fc b 0 es=Ag
def aM (r:Nat) (K V:Aa->Prop):Ct:={
 C:=λi=>i=r
 holds:=λh=>Gy h r K V
 a:=λc a o=>⟨AC o.1 c.a,c.t r o.1 (a r B)▸o.2⟩
 lt:=λo i U=>U▸o.1
 M:=λo=>by unfold Gy;exact o}
section
variable{τ:Bb} {h:Y} {r:Nat} {K V:Aa->Prop} {t kt et:Ai} {l:List Ct}
def Yx (a:K8 τ kt K) {k:Aa} (c:K k):∀(es:List Ap) (i:Nat),(∀e∈es,K e.key/\V e.val)->
 CE τ kt k es i=I Z\/∃j e,CE τ kt k es i=I (I (i+j,e))/\es[j]?=I e/\Cy e.key k=Ag
 |[],i,_=>.inl B
 |e::es,i,d=>by
  let⟨b,h1,f⟩:=(a k c).2 e.key (d e Av).1;rw[CE,h1];cases b with
  |true=>exact .inr ⟨0,e,B,B,f B⟩
  |false=>
   rcases Yx a c es (i+1) (λe h=>d e (Az _ h)) with h|⟨j,g,n,m,l⟩
   .exact .inl h
   .exact .inr ⟨j+1,g,Jq,Jq,l⟩
def SX {f:Ap->Ap} {x:Ap}:∀(es:List Ap) (j:Nat),x∈Cu es j f->x∈es\/∃e,es[j]?=I e/\x=f e
 |[],_,h=>Jq
 |e::es,0,h=>by
  rcases bZ.1 h with h|h
  .exact .inr ⟨e,B,h⟩
  .exact .inl (Az _ h)
 |e::es,j+1,h=>by
  rcases bZ.1 h with h|h
  .exact .inl Jq
  .rcases SX es j h with h|⟨a,c,b⟩
   .exact .inl (Az _ h)
   .exact .inr ⟨a,Jq,b⟩
def Afz {c:Aa->Prop} (o:τ.ds.get t=I (.map kt et)) (f:K8 τ kt K) (p:∀k,c k->K k) {z:Aa} (q:CP τ et=I z) (m:Gy h r c V) {k:Aa} (g:K k) (i:Bool):
 ∃v b,BW τ t (.map (I r)) k i h=I (if i then .tuple #[v,.bool b] else v)/\(b=Ag->V v/\∃k',c k'/\Cy k' k=Ag)/\(b=Ah->v=z):=by
 let⟨_,es,ck,h1,a,_⟩:=m;unfold BW;rw[o];simp only[(f k g).1,h1];rcases Yx f g es 0 (λe l=>⟨p _ (a e l).1,(a e l).2⟩) with d|⟨j,e,d,n,s⟩
 .simp only[d,q]
  exact⟨z,Ah,B,(λh=>Jq),λ_=>B⟩
 .simp only[d]
  exact⟨e.val,Ag,B,λ_=>⟨(a e (AZ n)).2,_,(a e (AZ n)).1,s⟩,λh=>Jq⟩
def QH (c:τ.ds.get t=I (.map kt et)) (d:K8 τ kt K) {z:Aa} (f:CP τ et=I z) (m:Gy h r K V) {k:Aa} (g:K k) (a:Bool):
 ∃v b,BW τ t (.map (I r)) k a h=I (if a then .tuple #[v,.bool b] else v)/\(b=Ag->V v)/\(b=Ah->v=z):=
 (Afz c d (λ_ h=>h) f m g a).imp λ_ h=>h.imp λ_ q=>⟨q.1,λe=>(q.2.1 e).1,q.2.2⟩
def nW (o:τ.ds.get t=I (.map kt et)) (g:K8 τ kt K) (m:Gy h r K V) {k:Aa} (b:K k) (i:V v):∃J,BH τ t (.map (I r)) k v h=I J/\Gy J r K V/\Er r h J:=by
 let⟨l,es,ck,h1,c,n⟩:=m;unfold BH;rw[o];simp[(g k b).1,h1];rcases Yx g b es 0 c with d|⟨j,e,d,q,p⟩
 .simp only[d]
  refine⟨_,B,⟨Jq,_,_,by rw[BQ,Bi B],λx a=>?_,Kd _ _ es ck 0 n (Al _)⟩,Er.put _ _ _⟩;rcases dF.1 a with a|a
  .exact c x a
  .rw[bQ.1 a];exact⟨b,i⟩
 .simp only[d,p]
  refine⟨_,B,⟨Jq,_,_,by rw[BQ,Bi B],λx a=>?_,Kc (f:=λe=>{e with key:=k,val:=v}) (λ_=>B) es _ ck 0 n⟩,Er.put _ _ _⟩
  rcases SX _ _ a with a|⟨s,_,rfl⟩
  .exact c x a
  .exact⟨b,i⟩
def SG (f:Ap->Ap):∀(es:List Ap) (j:Nat),(Cu es j f).length=LB es
 |[],_=>rfl
 |_::_,0=>rfl
 |e::es,j+1=>by rw[Cu,AO,AO,SG f es j]
def Zj {k:Aa} {es:List Ap} (a:BH τ t (.map (I r)) k v h=I J) (f:h.t.get r=I (.map es ck)):∃b g,J.t.get r=I (.map b g)/\LB b<=LB es+1:=by
 unfold BH at a;split at a
 .rename_i l _ j
  cases j;cases c:Do τ 5 _ k with
  |false=>rw[c] at a;cases a
  |true=>
   rw[c] at a;simp[f] at a;split at a
   .rename_i i e _
    cases d:Cy e.key k with
    |false=>rw[d] at a;cases a
    |true=>rw[d] at a;cases a;exact⟨_,_,by rw[BQ,Bi B],by rw[SG];omega⟩
   .cases a;exact⟨_,_,by rw[BQ,Bi B],Jq⟩
   .cases a
 .cases a
def sO (h:Y) (r:Nat) (K V:Aa->Prop) (n:Nat):Prop:=Gy h r K V/\∃es a,h.t.get r=I (.map es a)/\LB es<=n
def PW (r:Nat) (K V:Aa->Prop) (n:Nat):Ct:={
 C:=λi=>i=r
 holds:=λh=>sO h r K V n
 a:=λc a o=>⟨(aM r K V).a c a o.1,c.t r o.1.1 (a r B)▸o.2⟩
 lt:=λo i U=>U▸o.1.1
 M:=λo=>⟨(aM r K V).M o.1,by rw[DF];exact o.2⟩}
def aH.cz (s:aH h0 h l) (i:Nat) (U:l[i]?=I (PW r K V n)):Gy h r K V:=(s.2.1 i _ U).1.1
def Gy.new (h:Y) (K V:Aa->Prop):Gy (h.new (.map [] 0)) h.a K V:=⟨by rw[Ck];omega,[],0,by rw[CK,Bi B],(λe a=>Jq),B⟩
def aH.mk (s:aH h0 h l) (K V:Aa->Prop):aH h0 (h.new (.map [] 0)) (aM h.a K V::l):=s.add (AA.new _ _) (Gy.new h K V) λi U=>A2 U.symm
def aH.mw (s:aH h0 h l) (i:Nat) (U:l[i]?=I (aM r K V)):Gy h r K V:=(s.2.1 i _ U).1
def aH.up (s:aH h0 h l) (U:l[i]?=I (aM r K V)) (a:τ.ds.get t=I (.map kt et)) (b:K8 τ kt K) {k:Aa} (c:K k) (d:V v):∃J,BH τ t (.map (I r)) k v h=I J/\aH h0 J l:=by
 let⟨J,a1,e,f⟩:=nW a b (s.mw _ U) c d;have:=s.ah _ U f.O e λx g=>.inl g;rw[Lx U] at this;exact⟨J,a1,this⟩
end
def Fh (v:Aa):Prop:=∃s,v=.string s
def MV:K8 Ax 9 Fh:=by
 rintro _ ⟨s,rfl⟩;refine⟨B,?_⟩;rintro _ ⟨a,rfl⟩;refine⟨Gp (aI s.data) (aI a.data),B,λh=>?_⟩;obtain rfl:=CJ.1 h;exact h
def KU (ps:List DQ):Nat:=(ps.map λp=>LB p.a).sum
def SH (a:k<LB ps):KU (ps.take (k+1))=KU (ps.take k)+ps[k].a.length:=by
 unfold KU;rw[A5 a,BS,PC];simp
def T8 (ps:List DQ) (k:Nat):KU (ps.take k)<=KU ps:=by
 have e:KU ps=KU (ps.take k)+KU (ps.drop k):=by
  unfold KU;rw[←PC,←BS,FO]
 omega
def X1 (h:∀p∈ps,LB p.a<=16777216):KU ps<=LB ps*16777216:=by
 induction ps with
 |nil=>exact Ae _
 |cons p ps a=>
  have:=a λq b=>h q (Az _ b);have c:=h p Av;simp[KU] at this⊢;omega
def isTrue (v:Aa):Prop:=v=.bool Ag
def ACn (p:EC h v ps) (hn:LB ps<=64):
 iB S L 6 178 [v] h λw J=>∃z:Int,w=Vi z/\(z=0->KU ps<=16777216/\∀p∈ps,aL p.c<=16):=
 Cn f178 λd ai hL=>by
  obtain⟨r,y⟩:=p;have Q:=r;obtain⟨hr,C,D,rfl,aj,ak,hA⟩:=r;have hb:=X1 (λp a=>(y p a).2.1);refine⟨λn A f=>∃k:Nat,A=[(0,.slice C (LB ps) D),(3,Vi (KU (ps.take k))),(4,.map (I h.a)),(5,Vi 0),(11,.slice C (LB ps) D),(12,Vi (LB ps)),(13,Vi k)]/\k<=LB ps/\n=LB ps-k/\aH h f [aM h.a Fh isTrue],
   ⟨_,_,Sq,?_,0,B,Al _,B,(aH.nil h).mk Fh isTrue⟩,?_⟩
  .omega
  rintro n A f ⟨k,rfl,hk,rfl,s⟩ ab;have ad:=T8 ps k;apply Bz<;>intro e
  .have l:k<LB ps:=G
   have m:=Ab l;have E:=SH l;obtain⟨q,t⟩:∃q,q=ps[k]:=⟨_,B⟩;rw[←t] at m E;obtain⟨m1,F,x⟩:=y q Jq;obtain⟨g,dv,j⟩:=q;have E:KU (ps.take (k+1))=KU (ps.take k)+LB j:=E;obtain⟨a1,y1,K,_,o⟩:=(Q.C s.e).el l;cases K;rw[Vo ps m] at o;obtain⟨h1,t2,t3,t4,h2,Y,U,P⟩:=U9 f ⟨g,dv,j⟩ x.one;have ae:Rd h dv 1 (LB j) (Ay j):=x;obtain⟨_,af,c3,rfl,_⟩:=ae;refine⟨G,_,EQ Kq (show BK f a1.block (a1.off+(k:Int).toNat*2) (Fj ⟨g,.slice af (LB j) c3,j⟩) by rw[show(k:Int).toNat=k from B];exact o) B,_,_,t2,_,Y,_,ld B (P.cell B),Pq,Pq,_,_,Sq,G,k+1,B,G,B,s.C U⟩
  obtain rfl:k=LB ps:=G;rw[CS] at ad⊢;refine Ad (λe1=>?_) (λe1=>?_)
  .exact⟨s.e,2,B,λh=>by cases h⟩
  apply Bz<;>intro e2
  .exact⟨s.e,2,B,λh=>by cases h⟩
  refine⟨λn A f=>∃(k:Nat) (z:Int),A=[(4,.map (I h.a)),(5,Vi z),(30,.slice C (LB ps) D),(31,Vi (LB ps)),(32,Vi k)]/\k<=LB ps/\n=LB ps-k/\(∀p∈ps.take k,aL p.c<=16)/\aH h f [aM h.a Fh isTrue],
   ⟨_,_,Sq,?_,0,0,B,Al _,B,(λp a=>by simp at a),s⟩,?_⟩
  .omega
  rintro n A f ⟨k,z,rfl,hk,rfl,M,s⟩ ab;apply Bz<;>intro e;rotate_left
  .obtain rfl:k=LB ps:=G
   rw[CS] at M;exact⟨s.e,z,B,λ_=>⟨G,M⟩⟩
  have l:k<LB ps:=G;have m:=Ab l;obtain⟨q,t⟩:∃q,q=ps[k]:=⟨_,B⟩;rw[←t] at m;obtain⟨m1,F,x⟩:=y q (AZ m);obtain⟨g,dv,j⟩:=q;obtain⟨a1,y1,K,_,o⟩:=(Q.C s.e).el l;cases K;rw[Vo ps m] at o;obtain⟨h1,t2,t3,t4,h2,Y,U,P⟩:=U9 f ⟨g,dv,j⟩ x.one;refine⟨G,_,EQ Kq (show BK f a1.block (a1.off+(k:Int).toNat*2) (Fj ⟨g,dv,j⟩) by rw[show(k:Int).toNat=k from B];exact o) B,_,_,t2,_,Y,_,ld B (P.cell B),_,AAt d G,?_⟩;rintro _ R ⟨T,b,rfl,ag⟩;have N:=(s.C U).C T;refine⟨_,_,B,Ad (λV=>?_) (λV=>?_)⟩
  .exact⟨N.e,1,B,λh=>by cases h⟩
  have O:=(P.cell (i:=0) B).C T;obtain⟨u,b4,l1,l2,l3⟩:=QH (et:=4) Kq MV Kq (N.mw 0 B) ⟨g,B⟩ Ah;obtain⟨c,rfl⟩:∃c,u=.bool c:=by
   cases b4 with
   |true=>exact⟨Ag,l2 B⟩
   |false=>exact⟨Ah,l3 B⟩
  have ah:∀H,CN H (BW Ax 160 (.map (I h.a)) (.string g) Ah R)=I (.bool c,H):=λH=>by rw[l1];rfl
  obtain⟨h5,u5,W⟩:=N.up (et:=4) (i:=0) B Kq MV ⟨g,B⟩ B;have X:Nb (BH Ax 160 (.map (I h.a)) (.string g) (.bool Ag) R)=I (.tuple #[],h5):=by rw[u5];rfl
  have Z:∀p∈ps.take (k+1),aL p.c<=16:=λp a=>by
   rw[A5 l] at a;rcases dF.1 a with a|a
   .exact M p a
   .rw[bQ.1 a,←t];exact ag Jq
  refine⟨_,ld B O,_,_,ah _,Ad (λe4=>?_) (λe4=>?_)⟩<;>exact⟨_,ld B O,_,_,X,Pq,_,_,Sq,G,k+1,_,B,G,B,Z,W⟩
def Ahi (o:aQ h b 5 xs) (m:LB xs=n) (d:Nat) (f:n<=d):
 ∃e,Ea Ax 98 98 (sL b n d) h=I (sL b n d,e)/\Rd e (sL b n d) 1 n xs/\Er b h e:=by
 let⟨hb,c,x,g,j⟩:=o;refine⟨h.put b (.cells c (LB xs) 5 1 0 x),?_,⟨G,_,_,B,f,(λh=>Jq),?_⟩,Er.put _ _ _⟩
 .show(match Ax.ds.get 5,h.t.get b with|I (.int .u8),I (.cells c k el 0 0 x)=>I (sL b n d,h.put b (.cells c k el 1 0 x))|_,_=>Z)=_
  rw[g];rfl
 rintro a l;cases l;refine⟨Jq,c,_,_,_,_,_,by rw[BQ,Bi B],λi u U=>?_⟩;rw[Ba];exact j i u U
def rR (p:EC h v ps) (hn:LB ps<=64) (qq:G3 h):
 iB S L 7 89 [v] h λw J=>∃(o:Aa) (z:Int),w=.tuple #[o,Vi z]/\(z=0->∃bs:Bl,LB bs<=20000000/\AS J h.a 5 1 o (LB bs) (Ay bs)):=
 Cn f89 λd ai hL=>by
  have p0:=p;obtain⟨r,pp⟩:=p;have r0:=r;obtain⟨hr,M,N,rfl,aj,ak,hA⟩:=r;refine cl (ACn p0 hn) ?_;rintro _ Z ⟨O,z,rfl,hz⟩;apply Ad<;>intro e
  .exact⟨O,_,z,B,λb=>by subst b;cases e⟩
  obtain⟨F,ad⟩:=hz (by simpa using e);have x2:=AA.row Z 5 (Ay [72,78,75,49]);obtain⟨H,e2,r2,f⟩:=Ahi (aQ.row Z 5 (Ay [72,78,75,49])) (n:=4) B 4 (Ae _);have aa:AA h H:=(O.trans x2).then f.O (λi U=>by have:=O.a;omega)
  refine⟨_,_,lH 72 78 75 49 Z,_,_,e2,_,.inl Pq,_,R5 (x:=LB ps) r2 G G d G,?_⟩;rintro o3 h3 ⟨x3,m,hm,cs,P⟩;have ae:=aa.trans x3;refine⟨λC A b=>∃(k:Nat) (Y:Aa) (bs:Bl),A=[(0,.slice M (LB ps) N),(5,Y),(21,.slice M (LB ps) N),(22,Vi (LB ps)),(23,Vi k)]/\k<=LB ps/\C=LB ps-k/\AA h b/\LB bs<=64+k*200/\AS b h.a 5 1 Y (LB bs) (Ay bs),
   ⟨_,_,Sq,?_,0,_,[72,78,75,49]++cs,B,Al _,B,ae,?_,?_⟩,?_⟩
  .omega
  .have:=P.len;rw[A7] at this;omega
  .have Z:=P.len
   rw[A7] at Z;rw[←Z];exact P.mono aa.a
  rintro C A b ⟨k,Y,bs,rfl,hk,rfl,g,ab,o⟩ af;apply Bz<;>intro e
  .have t:k<LB ps:=G
   have c:ps[k]?=I ps[k]:=Ab t;obtain⟨q,Q⟩:∃q,q=ps[k]:=⟨_,B⟩;rw[←Q] at c;obtain⟨m1,D,j⟩:=pp q (AZ c);have m4:=ad q (AZ c);obtain⟨u,dv,a⟩:=q;have D:LB a<=16777216:=D;have m4:aL u<=16:=m4;obtain⟨a1,y1,R,_,E⟩:=(r0.C g).el t;cases R;rw[Vo ps c] at E;obtain⟨h4,t2,t3,t4,h5,t5,s,t7⟩:=U9 b ⟨u,dv,a⟩ j.one;have ag:Rd h dv 1 (LB a) (Ay a):=j;obtain⟨_,ah,c3,rfl,_⟩:=ag;refine⟨G,_,EQ (k:=2) Kq (show BK b a1.block (a1.off+(k:Int).toNat*2) (Fj ⟨u,.slice ah (LB a) c3,a⟩) by rw[show(k:Int).toNat=k from B];exact E) B,_,_,t2,_,t5,_,ld B (t7.cell (i:=0) B),_,sM (o.C s).rd G G d G,?_⟩;rintro o6 h6 ⟨l,m6,al,am,y⟩;have K:=y.len;rw[A7] at K;refine⟨_,ld B ((t7.C l).cell (i:=1) B),_,.inl Pq,_,R5 (x:=LB a) y.rd G G d G,?_⟩;rintro o7 h7 ⟨x7,m7,an,ao,T⟩;have l7:=T.len;rw[A7] at l7;rw[l7] at T;have g7:=((g.trans s).trans l).trans x7;refine⟨Pq,?_⟩;exact⟨_,_,Sq,G,k+1,_,_,B,G,B,g7,G,T.mono (Ao (Ao g.a s.a) l.a)⟩
  obtain rfl:k=LB ps:=G;refine⟨λC A H=>∃(k:Nat) (Y:Aa) (bs:Bl),A=[(5,Y),(38,.slice M (LB ps) N),(39,Vi (LB ps)),(40,Vi k)]/\k<=LB ps/\C=LB ps-k/\AA h H/\LB bs<=64+64*200+KU (ps.take k)/\AS H h.a 5 1 Y (LB bs) (Ay bs),
   ⟨_,_,Sq,?_,0,_,bs,B,Al _,B,g,G,o⟩,?_⟩
  .omega
  clear o ab g;rintro C A b ⟨k,Y,bs,rfl,hk,rfl,g,ab,o⟩ af;have ap:=T8 ps k;apply Bz<;>intro e
  .have t:k<LB ps:=G
   have F:=SH t;have aq:=T8 ps (k+1);have c:ps[k]?=I ps[k]:=Ab t;obtain⟨q,Q⟩:∃q,q=ps[k]:=⟨_,B⟩;rw[←Q] at c F;obtain⟨m1,D,j⟩:=pp q (AZ c);obtain⟨u,dv,a⟩:=q;have D:LB a<=16777216:=D;have j:Rd h dv 1 (LB a) (Ay a):=j;have F:KU (ps.take (k+1))=KU (ps.take k)+LB a:=F;obtain⟨a1,y1,R,_,E⟩:=(r0.C g).el t;cases R;rw[Vo ps c] at E;obtain⟨h4,t2,t3,t4,h5,t5,s,t7⟩:=U9 b ⟨u,dv,a⟩ j.one;have m5:=j.C (g.trans s);have V:=(g.trans s).a;obtain⟨v6,h6,W,f,X,u4⟩:=UN (τ:=Ax) (st:=98) (t2:=98) (e:=5) (k:=1) Kq (o.C s) m5.bu m5.src (by simp[Ay]) (Fa a) V G;rw[←Ee,←Aj] at f;refine⟨G,_,EQ (k:=2) Kq (show BK b a1.block (a1.off+(k:Int).toNat*2) (Fj ⟨u,dv,a⟩) by rw[show(k:Int).toNat=k from B];exact E) B,_,_,t2,_,t5,_,ld B (t7.cell (i:=1) B),_,_,W,Pq,?_⟩;exact⟨_,_,Sq,G,k+1,_,_,B,G,B,(g.trans s).then X (λi U=>(o.C s).ai i U),by rw[Aj];omega,f⟩
  obtain rfl:k=LB ps:=G;refine cl (tg (qq.C g) o.rd G) ?_;rintro o6 h6 ⟨l,cs,y⟩;have K:=y.len;rw[A7] at K;have V:=(g.trans l).a;obtain⟨v7,h7,W,f,X,u4⟩:=UN Kq (o.C l) y.rd.bu y.rd.src (by rw[A7];omega) (Fa cs) V G;rw[←Ee,K,←Aj] at f;exact⟨_,_,W,(g.trans l).then X (λi U=>o.ai i U),v7,0,B,λ_=>⟨bs++cs,Jq,f⟩⟩
def wU [dG S L] (r:Rd h v 1 n (Ay bs)) (hn:n<=100000000) (u:G3 h):
 iB S L 8 50 [v] h λw J=>∃(o:Aa) (z:Int),w=.tuple #[o,Vi z]/\(z=0->∃ps,LB ps<=64/\EC J o ps):=
 Cn f50 λd aa _=>by
  have c:=r;obtain⟨hr,f,g,rfl,ab,ad,hA⟩:=r;have b:∀{H:Y} z,z≠0->AA h H->AA h H/\∃(o:Aa) (y:Int),C4 #[sN,Vi z]=.tuple #[o,Vi y]/\(y=0->∃ps,LB ps<=64/\EC H o ps):=λz j x=>⟨x,_,z,B,λh=>Cf h j⟩;apply Bz<;>intro e
  .exact b 5 xc (AA.refl h)
  obtain⟨A,f1,l,_⟩:=c.slice Kq (lo:=Z) (U:=I (Vi 4)) (m:=4) B B G G;rw[BJ,BJ,EA,Ez] at l;have N:∀H,CN H (C7 Ax 98 (.slice f n g) Z (I (Vi 4)) Z)=I (A,H):=λH=>by
   have:C7 Ax 98 (.slice f n g) Z (I (Vi 4)) Z=I A:=f1;rw[this];rfl
  have c1:=FB (τ:=Ax) (s:=98) (d:=9) Kq l;obtain⟨_,A1,k1,rfl,_⟩:=l;refine⟨_,_,N _,_,c1,_,B,Ad (λO=>?_) (λO=>?_)⟩
  .exact b 5 xc (AA.refl h)
  have Q:n-4=((n-4:Nat):Int):=G;refine⟨Pq,?_⟩;rw[Q];obtain⟨R,f3,t,_⟩:=c.slice Kq (lo:=I (Vi (n-4:Nat))) (U:=Z) B B G G;obtain⟨T,f5,a,_⟩:=c.slice Kq (lo:=Z) (U:=I (Vi (n-4:Nat))) B B G G;rw[BJ,BJ,EA,Ez] at t a;have V:∀H,CN H (C7 Ax 98 (.slice f n g) (I (Vi (n-4:Nat))) Z Z)=I (R,H):=λH=>by rw[f3];rfl
  have C:∀H,CN H (C7 Ax 98 (.slice f n g) Z (I (Vi (n-4:Nat))) Z)=I (T,H):=λH=>by rw[f5];rfl
  refine⟨[],Kq,_,_,V _,_,_,C _,_,tg (h:=h.ad) u a G d G,?_⟩;rintro o4 k ⟨D,cs,W⟩;have E:=D.M;refine⟨D.C,_,i6 (h:=(h.M k).ad) (show Rd (h.M k) _ _ _ _ from t.C E) (show Rd (h.M k) _ _ _ _ from W.rd.M) d G,?_⟩;rintro _ _ ⟨rfl,rfl⟩;have p:=AT E;refine⟨B,_,_,B,Ad (λX=>?_) (λX=>?_)⟩
  .exact b 11 Jq p
  refine⟨_,_,C _,_,AGc (a.C p) G d G,?_⟩;rintro _ h6 ⟨x6,o6,ok,rfl,hp⟩;have q:=p.trans x6;refine⟨_,_,B,Ad (λF=>?_) (λF=>?_)⟩
  .exact b 5 Jq q
  let⟨ps,K,P⟩:=hp Jq
  refine cl (rR P K (u.C q)) ?_;rintro _ h7 ⟨M,o7,z,rfl,j⟩;have i:=q.trans M;apply Ad<;>intro e4
  .exact b 5 Jq i
  let⟨ae,l7,r7⟩:=j Jq;refine cl (i6 r7.rd (c.C i)) ?_;rintro _ h7 ⟨rfl,rfl⟩;refine⟨_,_,B,Ad (λe5=>?_) (λe5=>?_)⟩
  .exact b 5 Jq i
  .exact⟨i,o6,0,B,λ_=>⟨ps,K,P.C M⟩⟩
def flatK {b:Type} {f:b->AH} (c:∀a,(f a).length=k) (l:List b) {a:b} (U:l[i]?=I a):((l.flatMap f).drop (i*k)).take k=f a:=by
 induction l generalizing i with
 |nil=>cases U
 |cons x l d=>
  cases i with
  |zero=>
   cases U;rw[Qg,dQ,Dg];rw[UR Jq,Bj Jq]
  |succ i=>
   rw[Dg,show(i+1)*k=(f x).length+i*k by rw[c,Dw,Nat.one_mul,UK],List.drop_append,List.drop_of_length_le G,Ds,IW];exact d Jq
def HV {b:Type} {f:b->AH} (c:∀a,(f a).length=k) (l:List b):(l.flatMap f).length=LB l*k:=by
 induction l with
 |nil=>simp
 |cons a l d=>rw[Dg,Aj,d,c,AO,Dw];omega
abbrev JT:=Bd×Int
def Mm (p:JT):AH:=[.string p.1,.int .i64 p.2]
def Gt (h:Y) (v:Aa) (ps:List JT):Prop:=Rd h v 2 (LB ps) (ps.flatMap Mm)
def AGf:Bk S L 1 280 [.int .i32 z] h λw J=>J=h/\∃b,w=.bool b:=
 Cn f280 λd c _=>by
  repeat' first
   |exact⟨rfl,_,rfl⟩
   |apply Ad<;>intro _
def zn:iB S L 5 192 [Sg s] h λw J=>∃b:Bool,w=.bool b/\(b=Ag->aL s<=16):=
 Cn f192 λd f _=>by
  refine⟨_,B,Ad (λc=>?_) (λc=>?_)⟩
  .apply Bz<;>intro g
   .refine cl (kH G ⟨280,#[],#[],B,λz J _=>AGf⟩) ?_
    rintro _ a ⟨e,b,rfl⟩;exact⟨_,_,B,e,_,B,λ_=>G⟩
   .exact⟨AA.refl h,Ah,B,λh=>Jq⟩
  .exact⟨AA.refl h,Ah,B,λh=>Jq⟩
def oD (S:A9) (L d:Nat) (c:Aa) (h:Y) (P:AH->Prop):Prop:=∃g first cap,c=.func (.func g) first cap/\∀xs J,P xs->AA h J->iB S L d g (aI first++[.agg ⟨xs⟩]++aI cap) J λv a=>∃b,v=.bool b
def ABg (r:Rd h v 2 n xs) (C:n<=100000000) {P:AH->Prop} (l:oD S L e fv h P) (m:∀i,i<n->P ((xs.drop (i*2)).take 2)):
 iB S L (e+1) 277 [v,fv] h λw J=>∃z:Int,w=Vi z/\-1<=z/\z<n:=
 Cn f277 λd D E=>by
  obtain⟨g,first,cap,rfl,o⟩:=l
  have p:=r;obtain⟨F,q,s,rfl,H,K,M⟩:=r;refine⟨λc A a=>∃k:Nat,A=[(0,.slice q n s),(1,.func (.func g) first cap),(7,Vi n),(8,Vi k)]/\k<=n/\c=n-k/\AA h a,
   ⟨_,_,Sq,?_,0,B,Al _,B,AA.refl _⟩,?_⟩
  .omega
  rintro c A a ⟨k,rfl,N,rfl,x⟩ O;apply Bz<;>intro Q
  .obtain⟨a1,R,t,_,u⟩:=(p.C x).el (show k<n by omega)
   cases t;have y:((xs.drop (k*2)).take 2).length=2:=Gq;refine⟨Pq,_,EQ Kq (u) y,_,o _ a (m k G) x d G,?_⟩;rintro _ T ⟨f,b,rfl⟩;apply Ad<;>intro V
   .exact⟨x.trans f,k,B,G,G⟩
   .exact⟨Pq,_,_,Sq,G,k+1,B,G,B,x.trans f⟩
  .exact⟨x,-1,B,G,G⟩
def AAs {a:Bd} {k:Int} (c:aC h b 0 (Sg s)):iB S L 1 278 [.agg #[Sg a,Vi k],AG b 0] h λw J=>∃b,w=.bool b:=
 Cn f278 λd j _=>by
  let⟨h1,b1,e,g,l⟩:=H1 Ax 88 (.agg #[Sg a,Vi k]) h;have i:=g;exact⟨_,_,b1,_,ld B (i.cell B),_,ld B (c.C e),_,B,e,_,B⟩
def ABy {ps:List JT} (p:Gt h v ps) (e:LB ps<=100000000):iB S L 3 191 [v,Sg s] h λw J=>∃(z:Int) (b:Bool),w=.tuple #[Vi z,.bool b]:=
 Cn f191 λd l _=>by
  let⟨h1,b1,c,g,m⟩:=H1 Ax 9 (Sg s) h;have c1:aC h1 h.a 0 (Sg s):=g.cell B;refine⟨_,_,b1,_,ABg (p.C c) e (P:=λxs=>∃q:JT,xs=Mm q) ⟨278,#[],#[AG h.a 0],B,λxs J j x=>by obtain⟨q,rfl⟩:=j;exact AAs (c1.C x)⟩ (λi U=>⟨ps[i],flatK (f:=Mm) (λ_=>B) ps (Ab U)⟩) d G,?_⟩;rintro _ n ⟨k,z,rfl,_,_⟩;intro y o;exact⟨c.trans k,y,_,B⟩
def zT (a b:Bd) (x y:Int):IZ Ax Op.maxDepth 88 (.agg #[Sg a,Vi x]) (.agg #[Sg b,Vi y])=I (Gp (aI a.data) (aI b.data)&&x==y):=by
 have e:IZ Ax Op.maxDepth 88 (.agg #[Sg a,Vi x]) (.agg #[Sg b,Vi y])=(match I (Gp (aI a.data) (aI b.data)) with|I Ag=>(match I (x==y) with|I Ag=>I Ag|I Ah=>I Ah|Z=>Z)|I Ah=>I Ah|Z=>Z):=B
 rw[e];cases Gp (aI a.data) (aI b.data)<;>cases(x==y)<;>rfl
def nP {ps:List JT} (p:Gt h v ps) (V:LB ps<=100000000):iB S L 6 103 [v] h λw J=>∃z:Int,w=Vi z/\(z=0->1<=LB ps/\LB ps<=64/\∀q∈ps,q.1.size<=16/\0<=q.2/\q.2<=2):=
 Cn f103 λd aa hL=>by
  have l:=p;obtain⟨hr,A0,E,rfl,ab,ad,hA⟩:=p;have a:∀{H:Y},AA h H->AA h H/\∃z:Int,Vi 5=Vi z/\(z=0->1<=LB ps/\LB ps<=64/\∀q∈ps,q.1.size<=16/\0<=q.2/\q.2<=2):=λx=>⟨x,5,B,λh=>by cases h⟩;apply Bz<;>intro e1
  .exact a (AA.refl h)
  apply Bz<;>intro e2
  .exact a (AA.refl h)
  obtain⟨a1,y1,m,_,n⟩:=Rd.el l (i:=0) G;cases m;rw[flatK (f:=Mm) (λ_=>B) ps (Ab G)] at n;refine⟨Pq,_,EQ Kq Jq B,?_⟩;have W:∀ox oy,Jo Ax .neq 88 ox oy (.agg ⟨Mm ps[0]⟩) (.agg #[Sg ⟨#[66,79,83]⟩,Vi 0])=I (.bool (!(Gp ps[0].1.data.toList [66,79,83]&&ps[0].2==0))):=λox oy=>by
   show(match IZ Ax Op.maxDepth 88 (.agg #[Sg ps[0].1,Vi ps[0].2]) (.agg #[Sg ⟨#[66,79,83]⟩,Vi 0]) with|some b=>I (CU (!b))|none=>Z)=_
   rw[zT]
  refine⟨_,W _ _,Ad (λX=>?_) (λX=>?_)⟩
  .exact a (AA.refl h)
  refine⟨λF A o=>∃k:Nat,A=[(0,.slice (I a1) (LB ps) E),(22,.slice (I a1) (LB ps) E),(23,Vi (LB ps)),(24,Vi k)]/\k<=LB ps/\F=LB ps-k/\(∀q∈ps.take k,q.1.size<=16/\0<=q.2/\q.2<=2)/\AA h o,
   ⟨_,_,Sq,?_,0,B,Al _,B,Jq,AA.refl _⟩,?_⟩
  .omega
  rintro F A o ⟨k,rfl,hk,rfl,r,x⟩ ae;apply Bz<;>intro k1;rotate_left
  .obtain rfl:k=LB ps:=G
   rw[CS] at r;exact⟨x,0,B,λ_=>⟨G,G,r⟩⟩
  have s:k<LB ps:=G;have K:=Ab s;obtain⟨q,M⟩:∃q,q=ps[k]:=⟨_,B⟩;rw[←M] at K;obtain⟨U,u⟩:=q;obtain⟨a2,y2,m,_,n⟩:=(l.C x).el s;cases m;rw[flatK (f:=Mm) (λ_=>B) ps K] at n;let⟨g1,t,g2,j,N⟩:=(aH.nil o).va 88 [Sg ⟨#[]⟩,Vi 0] (Mm (U,u));have O:=N.dD 0 B;have y:=x.trans N.e;refine⟨Pq,_,EQ Kq Jq B,_,_,t _,_,j,_,ld B (O.cell B),_,ABy (l.C y) V d G,?_⟩;rintro _ h3 ⟨C,z,b,rfl⟩;have P:=O.C C;apply Ad<;>intro k2
  .exact a (y.trans C)
  refine⟨_,ld B (P.cell B),_,zn d G,?_⟩;rintro _ h4 ⟨Q,b4,rfl,D⟩;have R:=P.C Q;have g:=(y.trans C).trans Q;refine⟨_,_,B,Ad (λT=>?_) (λT=>?_)⟩
  .exact a g
  have D:=D Jq
  refine⟨_,ld B (R.cell B),Bz (λk4=>?_) (λk4=>?_)⟩
  .exact a g
  refine⟨_,ld B (R.cell B),Bz (λk5=>?_) (λk5=>?_)⟩
  .exact a g
  refine⟨Pq,_,_,Sq,G,k+1,B,G,B,λq c=>?_,g⟩;rw[A5 s] at c;rcases dF.1 c with c|c
  .exact r q c
  .rw[bQ.1 c,←M];exact⟨D,Jq,Jq⟩
def Gt.C {ps:List JT} (p:Gt h v ps) (x:AA h J):Gt J v ps:=Rd.C p x
def wv {ps:List JT} (p:Gt h v ps) (X:LB ps<=100000000):iB S L 7 81 [v] h λw J=>∃(o:Aa) (z:Int) (bs:Bl),w=.tuple #[o,Vi z]/\LB bs<=20000/\AS J h.a 5 1 o (LB bs) (Ay bs):=
 Cn f81 λd af hL=>by
  have D:=p;obtain⟨hr,A0,c0,rfl,ag,ah,hA⟩:=p;refine cl (nP D X) ?_;rintro _ h1 ⟨l,z,rfl,hz⟩;apply Ad<;>intro e
  .exact⟨l,_,z,[],B,Al _,AS.nil _ _ _ _⟩
  obtain⟨l1,n,hq⟩:=hz Jq;refine⟨_,.inl Pq,_,R5 (AS.nil h1 h.a 5 1).rd (bs:=[]) G G d G,?_⟩;rintro r h2 ⟨b,m,hm,cs,E⟩;have n:=E.len;rw[A7] at n;refine⟨λF A c=>∃(k:Nat) (t:Aa) (bs:Bl),A=[(5,t),(17,.slice A0 (LB ps) c0),(18,Vi (LB ps)),(19,Vi k)]/\k<=LB ps/\F=LB ps-k/\AA h c/\LB bs<=60+k*200/\AS c h.a 5 1 t (LB bs) (Ay bs),
   ⟨_,_,Sq,?_,0,_,_,B,Al _,B,l.trans b,G,n▸(E.mono l.a)⟩,?_⟩
  .omega
  rintro F A c ⟨k,t,bs,rfl,hk,rfl,x,ai,o⟩ aj;apply Bz<;>intro k1;rotate_left
  .exact⟨x,t,0,bs,B,G,o⟩
  have H:k<LB ps:=G;have K:=Ab H;obtain⟨q,aa⟩:∃q,q=ps[k]:=⟨_,B⟩;rw[←aa] at K;obtain⟨f1,f2,f3⟩:=hq q Jq;obtain⟨M,g⟩:=q;obtain⟨g,rfl⟩:∃y:Nat,g=y:=⟨bH g,G⟩;obtain⟨a2,y2,e9,_,Z⟩:=(D.C x).el H;cases e9;rw[flatK (f:=Mm) (λ_=>B) ps K] at Z;obtain⟨g1,Y,j,U,s⟩:=(aH.nil c).va 88 [Sg ⟨#[]⟩,Vi 0] (Mm (M,g));have r:=s.dD 0 B;have b:=x.trans s.e;have Sn:=r.cell (i:=0) B;have ab:=r.cell (i:=1) B;refine⟨G,_,EQ Kq Jq B,_,_,Y _,_,U,[],Kq,_,ld B Sn,_,sM (h:=j.ad) (o.C s.e).rd G G d G,?_⟩;rintro o3 u ⟨C,N,ak,O,P⟩;have l3:=P.len;have Q:=b.trans C.M;have I:=ab.C C.M;have ad:=((P.mono (by rw[BF];exact b.a)).M:AS (j.M u) h.a 5 1 o3 (LB bs+N) (Ay (bs++O))).C (AT (AA.refl _));refine⟨C.C,_,ld B I,_,.inl Pq,_,R5 (h:=(nb (j.M u)).ad) ad.rd G G d G,?_⟩;rintro o4 h4 ⟨R,m4,al,ae,T⟩;have V:=T.len;rw[A7] at V;have W:AS ((nb (j.M u)).M h4) h.a 5 1 o4 (LB bs+N+m4) (Ay (bs++O++ae)):=(T.mono (by rw[BF];exact(AT Q).a)).M;rw[V] at W;exact⟨R.C,Pq,_,_,Sq,G,k+1,_,_,B,G,B,(AT Q).trans R.M,G,W⟩
def wS [dG S L] (r:Rd h v 1 n (Ay bs)) (V:n<=100000000):
 iB S L 7 51 [v] h λw J=>∃(o:Aa) (z:Int),w=.tuple #[o,Vi z]/\one o=Ag/\(z=0->∃ps:List JT,AS J h.a 88 2 o (LB ps) (ps.flatMap Mm)/\1<=LB ps/\LB ps<=64/\∀q∈ps,q.1.size<=16/\0<=q.2/\q.2<=2):=
 Cn f51 λd W X=>by
  have f:=r;obtain⟨hr,D,E,rfl,aa,ab,hA⟩:=r;have a:∀{H:Y},AA h H->AA h H/\∃(o:Aa) (z:Int),C4 #[sN,Vi 5]=.tuple #[o,Vi z]/\one o=Ag/\(z=0->∃ps:List JT,AS H h.a 88 2 o (LB ps) (ps.flatMap Mm)/\1<=LB ps/\LB ps<=64/\∀q∈ps,q.1.size<=16/\0<=q.2/\q.2<=2):=λx=>⟨x,_,5,B,B,λh=>by cases h⟩;refine cl (kj f G) ?_;rintro _ h ⟨rfl,m,e,ok,rfl,ad,ae,s⟩;refine⟨_,_,B,Ad (λF=>?_) (λF=>?_)⟩
  .exact a (AA.refl _)
  apply Bz<;>intro e2
  .exact a (AA.refl _)
  obtain⟨m,rfl⟩:∃y:Nat,m=y:=⟨bH m,G⟩;refine⟨λu A b=>∃(k e:Nat) (c:Aa) (ps:List JT),A=[(0,.slice D n E),(5,Vi e),(7,c),(26,.int .u64 m),(27,.int .u64 k)]/\k<=m/\u=m-k/\e<=n/\LB ps=k/\AA h b/\AS b h.a 88 2 c (LB ps) (ps.flatMap Mm),
   ⟨_,_,Sq,?_,0,e,_,[],B,Al _,B,s,B,AA.refl _,AS.nil _ _ _ _⟩,?_⟩
  .omega
  rintro u A b ⟨k,e,c,ps,rfl,hk,rfl,s,K,x,o⟩ af;apply Bz<;>intro k1
  .refine cl (tw (f.C x) G) ?_
   rintro _ b ⟨rfl,g,q,CN,rfl,ag,hq⟩;refine cl (kj (f.C x) G) ?_;rintro _ b ⟨rfl,j,M,ah,rfl,ai,aj,N⟩;refine⟨_,_,B,Ad (λC=>?_) (λC=>?_)⟩
   .exact a x
   refine⟨_,_,B,Ad (λl=>?_) (λl=>?_)⟩
   .exact a x
   apply Bz<;>intro e5
   .exact a x
   obtain⟨t,J,Z,t2,I,t4⟩:=Tz Kq o (ys:=[Sg g,Vi j]) B B x.a G;refine⟨_,.inl Pq,_,_,i3 22 _ 2 (.agg #[Sg g,Vi j]) b,_,_,Z,Pq,_,_,Sq,G,k+1,M,t,ps++[(g,j)],B,G,B,N,by simp;exact K,x.then I λi U=>o.ai i U,?_⟩
   rw[Aj,E0];exact t2
  .apply Ad<;>intro C
   .exact a x
   have P:=o.rd;refine cl (nP P G) ?_;rintro _ h2 ⟨p,z,rfl,O⟩;apply Ad<;>intro l
   .exact a (x.trans p)
   .let⟨Q,R,T⟩:=O (by simpa using l)
    exact⟨x.trans p,c,0,B,Rd.one P,λ_=>⟨ps,o.C p,Q,R,T⟩⟩
def EJ (n:Nat) (l:GX):Prop:=∀p∈l,(0<=p.1.1/\p.1.1<n)/\(0<=p.1.2/\p.1.2<n)/\0<=p.2/\p.2<=30000
def EJ.ah {n:Nat} {a b c:Int} (e:0<=a/\a<n) (hb:0<=b/\b<n) (f:0<=c/\c<=30000):∀{l:GX},EJ n l->EJ n (ML l a b c)
 |[],_=>λp d=>bQ.1 d▸⟨e,hb,f⟩
 |q::l,m=>λp d=>by
  rw[ML] at d;split at d
  .rcases bZ.1 d with rfl|d
   .exact⟨e,hb,f⟩
   .exact m p (Az _ d)
  .rcases bZ.1 d with rfl|d
   .exact m _ Av
   .exact EJ.ah e hb f (λp h=>m p (Az _ h)) p d
def EJ.del {n:Nat} {a b:Int}:∀{l:GX},EJ n l->EJ n (Nh l a b)
 |[],m=>m
 |q::l,m=>λp c=>by
  rw[Nh] at c;split at c
  .exact m p (Az _ c)
  .rcases bZ.1 c with rfl|c
   .exact m _ Av
   .exact EJ.del (λp h=>m p (Az _ h)) p c
def QT (a b c:Int):∀l:GX,(ML l a b c).length<=LB l+1
 |[]=>Ae _
 |p::l=>by
  rw[ML];split
  .simp
  .have:=QT a b c l;simp;omega
def QZ (a b:Int):∀l:GX,(Nh l a b).length<=LB l
 |[]=>Ae _
 |p::l=>by
  rw[Nh];split
  .simp
  .have:=QZ a b l;simp;omega
def F6.O {l:GX} (m:F6 h b n df r l) (c:B0 W h J) (hb:¬W b) (a:¬W r):F6 J b n df r l:=
 ⟨m.1,m.2.1.O c hb,m.2.2.1.O c hb,m.2.2.2.1.O c hb,m.2.2.2.2.O c a⟩
def Xg (b n:Nat) (d:Int) (r:Nat) (l:GX):Ct:={
 C:=λi=>i=b\/i=r
 holds:=λh=>F6 h b n d r l
 a:=λc a o=>o.O c (a b (.inl B)) (a r (.inr B))
 lt:=λo i U=>by
  rcases U with rfl|rfl
  .exact o.2.1.1
  .exact o.2.2.2.2.1
 M:=λo=>⟨o.1,o.2.1.M,o.2.2.1.M,o.2.2.2.1.M,P9 o.2.2.2.2⟩}
def jf [dG S L] (s:aH h0 h l) (u:i≠k) (c1:aC h b1 0 v) (E:b1≠b) (r:Rd h v 1 n (Ay bs)) (F:n<=100000000) {j:Int} {e:Bool} (U:l[i]?=I (aO b 3 [Vi j])) (m:l[k]?=I (aO c 4 [.bool e])):
 Bk S L 2 105 [AG b1 0,AG b 0,AG c 0] h λw J=>∃(x:Nat) (a:Int) (f:Bool),w=Vi x/\x<=1048576/\(a=j\/0<=a/\a<=n)/\aH h0 J ((l.set i (aO b 3 [Vi a])).set k (aO c 4 [.bool f])):=
 Cn f105 λd H _=>by
  have R:=(s.dD _ U).cell (i:=0) B;refine⟨_,ld B c1,_,ld B R,_,kj r G d G,?_⟩;rintro _ h ⟨rfl,x,q,K,rfl,M,N,O⟩;obtain⟨x,rfl⟩:∃y:Nat,x=y:=⟨bH x,G⟩;obtain⟨z,o,A⟩:=s.st (τ:=Ax) (t:=4) B m (v:=.bool Ag) (by show 0<1;decide) B;have p:∃(x:Nat) (a:Int) (f:Bool),Vi 0=Vi x/\x<=1048576/\(a=j\/0<=a/\a<=n)/\aH h0 z ((l.set i (aO b 3 [Vi a])).set k (aO c 4 [.bool f])):=
   ⟨0,j,Ag,B,Al _,.inl B,by rw[Lx U];exact A⟩
  obtain⟨P,g,t2⟩:=s.st (τ:=Ax) (t:=3) B U (v:=Vi q) (by show 0<1;decide) B;have C:(l.set i (aO b 3 [Vi q]))[k]?=I (aO c 4 [.bool e]):=by rw[fT u];exact m
  refine⟨_,_,B,Ad (λD=>?_) (λD=>?_)⟩
  .exact⟨_,o,p⟩
  apply Bz<;>intro Q
  .exact⟨_,o,p⟩
  refine⟨_,g,_,.inl Pq,x,q,e,B,G,.inr G,?_⟩;rw[Lx C];exact t2
def wR [dG S L] (r:Rd h v 1 n (Ay bs)) (K:n<=100000000):
 iB S L 4 53 [v] h λw J=>∃(o:Aa) (z:Int),w=.tuple #[o,Vi z]/\one o=Ag/\(z=0->∃(b m r:Nat) (I:Int) (l:GX),h.a<=b/\h.a<=r/\o=AG b 0/\F6 J b m I r l/\EJ m l/\LB l<=5000/\(1<=m/\m<=64)/\(0<=I/\I<=30000)):=
 Cn f53 λd ar hL=>by
  obtain⟨hr,R,T,rfl,af,ag,hA⟩:=r;have N:Rd h (.slice R n T) 1 n (Ay bs):=⟨hr,R,T,B,af,ag,hA⟩;have q:∀{H:Y},AA h H->AA h H/\∃(o:Aa) (z:Int),C4 #[.pointer Z,Vi 5]=.tuple #[o,Vi z]/\one o=Ag/\(z=0->∃(b m r:Nat) (I:Int) (l:GX),h.a<=b/\h.a<=r/\o=AG b 0/\F6 H b m I r l/\EJ m l/\LB l<=5000/\(1<=m/\m<=64)/\(0<=I/\I<=30000)):=λx=>⟨x,_,5,B,B,λh=>by cases h⟩;obtain⟨V,y1,s1⟩:=(aH.nil h).box Ax 98 (.slice R n T);obtain⟨W,y2,D⟩:=s1.O (τ:=Ax) (t:=3) (z:=Vi 0) Kq;obtain⟨g3,y3,f⟩:=D.O (τ:=Ax) (t:=4) (z:=.bool Ah) Kq;obtain⟨g4,y4,X⟩:=f.sT 3 1 0 (Vi 0) B (Ac B) B;obtain⟨g5,y5,u⟩:=X.sT 4 0 0 (.bool Ah) B (Ac B) B;refine⟨_,_,y1,_,_,y2 _,_,_,y3 _,_,y4,_,y5,?_⟩;generalize ah:V.a=b4 at u;generalize ai:W.a=b5 at u;have O:h.a≠b4:=λe=>u.2.2 2 1 _ _ xc B B h.a B e;have au:h.a<=b4:=u.ge 1 B b4 B;have av:h.a<=b5:=u.ge 0 B b5 B;subst ah ai;refine cl (jf u (i:=1) (k:=0) xc (u.q 2 0 B B) O (N.C u.e) K B B) ?_;rintro _ h6 ⟨m,j6,aw,rfl,hm,aj,s6⟩;refine cl (jf s6 (i:=1) (k:=0) xc (s6.q 2 0 B B) O (N.C s6.e) K B B) ?_;rintro _ h7 ⟨I,j7,ax,rfl,ay,ak,s7⟩;refine cl (jf s7 (i:=1) (k:=0) xc (s7.q 2 0 B B) O (N.C s7.e) K B B) ?_;rintro _ h8 ⟨Sm,j8,ad,rfl,az,al,s8⟩;refine cl (sA) ?_;rintro _ h9 ⟨x9,hc⟩;have E:=s8.C x9;rcases hc with⟨rfl,-⟩|⟨a0,am,b,r,hb,a1,rfl,M⟩
  .have F:=E.q 0 0 B B
   refine⟨_,ld B F,?_⟩;cases ad with
   |true=>exact q E.e
   |false=>exact q E.e
  have aa:=s8.add (a:=Xg b m I r []) x9 M λi U=>by rcases U with rfl|rfl<;>assumption
  have F:=E.q 0 0 B B;refine⟨_,ld B F,Ad (λe1=>?_) (λe1=>?_)⟩
  .exact q E.e
  have an:h.a<=b:=aa.ge 0 B b (.inl B);have ao:h.a<=r:=aa.ge 0 B r (.inr B);clear F E s8 s7 s6 u X f D s1 al ak aj;refine⟨λμ A hh=>∃(k:Nat) (c j:Int) (ok:Bool) (g:GX),A=[(1,AG h.a 0),(4,AG V.a 0),(5,AG W.a 0),(6,.func (.func 105) #[] #[AG h.a 0,AG V.a 0,AG W.a 0]),(7,Vi m),(8,Vi I),(10,AG b 0),(12,Vi c),(33,Vi Sm),(34,Vi k)]/\
   k<=Sm/\μ=Sm-k/\(-1<=c/\(k:Int)<=c+1/\LB g<=k)/\c<5000/\EJ m g/\aH h hh [Xg b m I r g,aO W.a 4 [.bool ok],aO V.a 3 [Vi j],aO h.a 98 [.slice R n T]],
   ⟨_,_,Sq,?_,0,-1,j8,ad,[],B,Al _,B,⟨G,G,Ae _⟩,G,(λp hp=>by cases hp),aa⟩,?_⟩
  .omega
  clear aa e1 M;rintro μ A hh ⟨k,c,j,ok,g,rfl,hk,rfl,a2,a3,mo,s⟩ a4;apply Bz<;>intro k1;rotate_left
  .have l4:=s.q 2 0 B B
   have F:=s.q 3 0 B B;refine⟨_,ld B l4,_,ld B F,Ad (λk2=>?_) (λk2=>?_)⟩
   .exact q s.e
   .exact⟨s.e,_,0,B,B,λ_=>⟨b,m,r,I,g,an,ao,B,(s.2.1 0 _ B).1,mo,G,G,am⟩⟩
  refine cl (jf s (i:=2) (k:=1) xc (s.q 3 0 B B) O (N.C s.e) K B B) ?_;rintro _ h2 ⟨x,j2,a5,rfl,hx,a6,D⟩;refine cl (jf D (i:=2) (k:=1) xc (D.q 3 0 B B) O (N.C D.e) K B B) ?_;rintro _ P ⟨y,j3,ap,rfl,hy,a7,f⟩;have l5:=f.q 1 0 B B;refine⟨Pq,[.w 26],Kq,_,ld B l5,?_⟩;cases ap with
  |true=>exact q f.e
  |false=>
  apply Bz<;>intro k2
  .exact q f.e
  apply Bz<;>intro k3
  .exact q f.e
  have mm:(m:Int)*m=((m*m:Nat):Int):=by rw[qP]
  have a8:m*m<=64*64:=Cj G G;refine⟨Pq,Bz (λk4=>?_) (λk4=>?_)⟩
  .exact q f.e
  have a9:0<=(c+x)/(m:Int)/\(c+x)/(m:Int)<=c+x:=⟨Int.ediv_nonneg G G,Int.ediv_le_self _ G⟩;refine⟨⟨G,G,G,G⟩,_,AwR ⟨G,G⟩,_,sy (h:=P.ad) (show F6 P b m I r g from(f.2.1 0 _ B).1) d G,?_⟩;rintro _ h4 ⟨Q,aq⟩;have ae:N5 P h4.lo:=by
   obtain⟨_,es,ck,e4,_⟩:=((f.2.1 0 _ B).1:F6 P b m I r g).2.2.2.2;exact Q.ok (λi U=>U) ⟨_,e4,B⟩
  have Q:B0 (λi=>i=b\/i=r) P.ad h4:=Q.mono λi U=>.inr U;rcases aq with⟨rfl,-,ab⟩|⟨rfl,q1,q2,q3,ab⟩
  .exact⟨ae,q (f.aZ 0 B Q ab (a':=Xg b m I r g) λi U=>.inl U).e⟩
  have X:=f.aZ 0 B Q (a':=Xg b m I r (if(y:Int)=I then Nh g ((c+x)/m) ((c+x)%m) else ML g ((c+x)/m) ((c+x)%m) y)) ab λi U=>.inl U
  refine⟨ae,Pq,?_⟩;refine⟨_,_,Sq,G,k+1,c+x,j3,Ah,_,B,G,B,⟨G,G,?_⟩,G,?_,X⟩
  .have h1:=QT ((c+x)/m) ((c+x)%m) y g
   have h2:=QZ ((c+x)/m) ((c+x)%m) g;split<;>omega
  split
  .exact mo.del
  .exact mo.ah q1 q2 q3
def E4 (p:Int×Int):AH:=[.int .i64 p.1,.int .i64 p.2]
class fy (S:A9) (L:Nat):Prop extends dG S L where
 cy:∀{h:Y} {b r:Nat} {l:GX},aC h b 0 (.map (I r))->HE h r l->LB l<=1000000->iB S L 11 270 [.func (.func 346) #[] #[AG b 0],.func (.func 272) #[] #[]] h λw J=>∃ks:List (Int×Int),Rd J w 2 (LB ks) (ks.flatMap E4)/\LB ks=LB l/\∀k∈ks,∃c,(k,c)∈l
def Sx (z:Int):∃x:Nat,x<18446744073709551616/\(x:Int)=IntKind.u64.wrap z:=by
 have e:IntKind.u64.wrap z=z%18446744073709551616:=by
  rfl
 exact⟨(z%18446744073709551616).toNat,G,G⟩
def AGm {m:Aa} (b:one m=Ag):iB S L 1 271 [m] h λw J=>w=.func (.func 346) #[] #[AG h.a 0]/\aC J h.a 0 m:=
 Cn f271 λd f _=>by
  let⟨h1,b1,c,e,g⟩:=H1 Ax 317 m h;exact⟨_,_,b1,c,B,e.cell (by cases m<;>first|rfl|cases b)⟩
def ADa [e:fy S L] {l:GX} (m:F6 h b n df r l) (g:LB l<=1000000):iB S L 12 179 [AG b 0] h λw J=>∃a:List (Int×Int),Rd J w 2 (LB a) (a.flatMap E4)/\LB a=LB l/\∀k∈a,∃c,(k,c)∈l:=
 Cn f179 λd t _=>by
  let⟨u,v,x,i,j⟩:=m;refine⟨_,ld B i,_,AGm B d G,?_⟩;rintro _ z ⟨f,rfl,c1⟩;refine cl (e.cy c1 (j.C f) g) ?_;rintro _ y ⟨o,a,p,q,s⟩;exact⟨f.trans o,a,p,q,s⟩
def Pi {l:GX} (m:HE h r l) (a b:Int):∃z,BW Ax 317 (.map (I r)) (C9 a b) Ah h=I (Vi z):=by
 let⟨_,es,ck,d,m6,_⟩:=m;have e:Ax.ds.get 317=I (.map 321 3):=B
 have g:CP Ax 3=I (Vi 0):=B
 have f:Do Ax 5 321 (C9 a b)=Ag:=B
 unfold BW;rcases oP a b es l 0 m6 with⟨k,n⟩|⟨j,i,c,k,n,o⟩
 .simp only[e,d,k];exact⟨0,B⟩
 .simp only[e,d,k,n];exact⟨c,B⟩
def ADj [fy S L] {l:GX} (m:F6 h b n df r l) (mo:EJ n l) (hn:n<=64) (hl:LB l<=100000):iB S L 14 90 [AG b 0] h λw J=>∃bs:Bl,LB bs<=180+120*LB l/\AS J h.a 5 1 w (LB bs) (Ay bs):=
 Cn f90 λd a6 hL=>by
  have M:=m;obtain⟨m1,m2,m3,m4,m5⟩:=m;refine⟨_,B,_,ADa M G d G,?_⟩;rintro w1 t ⟨F,g,k1,k2,k3⟩;obtain⟨z1,q1,e1⟩:=Sx n;obtain⟨z2,q2,e2⟩:=Sx df;obtain⟨z3,q3,e3⟩:=Sx (LB g);have k0:=k1;obtain⟨hr,A0,c0,rfl,a7,a8,hA⟩:=k1;have y1:=AT (AA.refl t);have f2:=m2.C F;have f3:=m3.C F;have f4:=m4.C F;refine⟨[],Kq,_,ld B f2,_,.inr e1,_,R5 (h:=(nb t).ad) (x:=z1) (AS.nil (nb t).ad h.a 5 1).rd (bs:=[]) G G d G,?_⟩;rintro K E ⟨s,p2,a9,V,r2⟩;have l2:=r2.len;rw[A7] at l2;have W:=y1.trans s.M;have ai:AS ((nb t).M E) t.a 5 1 K (0+p2) (Ay ([]++V)):=r2.M;have aj:=f3.C W;have ak:=ai.C (AT (AA.refl _));refine⟨s.C,_,ld B aj,_,.inr e2,_,R5 (h:=(nb ((nb t).M E)).ad) (x:=z2) ak.rd G G d G,?_⟩;rintro o3 O ⟨x3,p3,ba,ad,r3⟩;have l3:=r3.len;rw[A7] at l3;have ae:=(AT W).trans x3.M;have al:AS ((nb ((nb t).M E)).M O) t.a 5 1 o3 (0+p2+p3) (Ay ([]++V++ad)):=(r3.mono (by rw[BF];exact(AT W).a)).M;have am:=al.C (AT (AA.refl _));refine⟨x3.C,_,.inr e3,_,R5 (h:=(nb ((nb ((nb t).M E)).M O)).ad) (x:=z3) am.rd G G d G,?_⟩;rintro o4 h4 ⟨x4,p4,bb,an,X⟩;have z:=X.len;rw[A7] at z;have P:=(AT ae).trans x4.M;obtain⟨bs,ao⟩:∃bs,bs=[]++V++ad++an:=⟨_,B⟩;rw[←ao] at X z;have ap:AS ((nb ((nb ((nb t).M E)).M O)).M h4) h.a 5 1 o4 (LB bs) (Ay bs):=by rw[←z];exact(X.mono (by rw[BF];exact Ao F.a (AT ae).a)).M
  have Q:=F.trans P;have R:=k0.C P;refine⟨x4.C,?_⟩;generalize(nb ((nb ((nb t).M E)).M O)).M h4=H at*;refine⟨λZ A u=>∃(k:Nat) (c:Int) (o:Aa) (bs:Bl),A=[(0,AG b 0),(4,o),(5,Vi c),(29,.slice A0 (LB g) c0),(30,Vi (LB g)),(31,Vi k)]/\
   k<=LB g/\Z=LB g-k/\(-1<=c/\c<100000000)/\LB bs<=180+120*k/\AS u h.a 5 1 o (LB bs) (Ay bs)/\AA H u,
   ⟨_,_,Sq,?_,0,-1,o4,bs,B,Al _,B,G,G,ap,AA.refl _⟩,?_⟩
  .omega
  rintro Z A u ⟨k,c,o,bs,rfl,hk,rfl,hc,hb,ow,x⟩ bc;apply Bz<;>intro j1;rotate_left
  .exact⟨Q.trans x,bs,G,ow⟩
  have af:k<LB g:=G;have Y:g[k]?=I g[k]:=Ab af;obtain⟨q,aq⟩:∃q,q=g[k]:=⟨_,B⟩;rw[←aq] at Y;obtain⟨cq,au⟩:=k3 q (AZ Y);obtain⟨⟨a1,a2⟩,⟨b1,b2⟩,_⟩:=mo _ au;obtain⟨a,j⟩:=q;have a1:0<=a:=a1;have a2:a<n:=a2;have b1:0<=j:=b1;have b2:j<n:=b2;obtain⟨a,rfl⟩:∃y:Nat,a=y:=⟨bH a,G⟩;obtain⟨ar,y2,e9,_,g1⟩:=(R.C x).el af;cases e9;rw[flatK (f:=E4) (λ_=>B) g Y] at g1;obtain⟨bd,v1,p,v2,v⟩:=(aH.nil u).va 321 [Vi 0,Vi 0] (E4 ((a:Int),j));have K:aQ p u.a 321 [Vi a,Vi j]:=v.dD 0 B;have s:=x.trans v.e;have av:=(f2.C P).C s;have aw:=(f4.C P).C s;have mm:(a:Int)*n=((a*n:Nat):Int):=by rw[qP]
  have be:a*n<=64*64:=Cj G G;refine⟨G,_,EQ (k:=2) Kq (show BK u ar.block (ar.off+(k:Int).toNat*2) (E4 ((a:Int),j)) from g1) B,_,_,v1 _,_,v2,[],Kq,_,ld B (K.cell (i:=0) B),_,ld B av,Pq,_,ld B (K.cell (i:=1) B),Pq,?_⟩;obtain⟨T,bf,s3⟩:∃T:Nat,T<18446744073709551616/\(T:Int)=IntKind.u64.wrap ((a:Int)*n+j-c):=Sx _;have U:=ow.C v.e;have U:=U.C (AT (AA.refl _));refine⟨[],Kq,Pq,_,.inr s3,_,R5 (h:=(nb p).ad) (x:=T) U.rd G G d G,?_⟩;rintro o5 D ⟨x5,p5,bg,ag,r5⟩;have l5:=r5.len;rw[A7] at l5;have N:=(AT (AA.refl p)).trans x5.M;have ax:AS ((nb p).M D) h.a 5 1 o5 (LB bs+p5) (Ay (bs++ag)):=(r5.mono (by rw[BF];exact(Q.trans (AT s)).a)).M;have ay:=ax.C (AT (AA.refl _));have az:=aw.C N;have a0:aQ ((nb p).M D) u.a 321 [Vi a,Vi j]:=K.C N;have a3:Bw Ax 321 ((nb p).M D).ad u.a 0=I (C9 a j):=EQ (k:=2) Kq (show BK ((nb p).M D) u.a 0 [Vi a,Vi j] from a0.cells) B;obtain⟨zz,hz⟩:=Pi ((((m5.C Q).C s).C N):HE ((nb p).M D) r l) a j;obtain⟨t1,t2,t3⟩:=Sx zz;refine⟨x5.C,_,ld B az,_,a3,_,_,Cs (CN _) hz,_,.inr t3,_,R5 (h:=(nb ((nb p).M D)).ad) (x:=t1) ay.rd G G d G,?_⟩;rintro o6 h6 ⟨x6,p6,bh,a4,r6⟩;have l6:=r6.len;rw[A7] at l6;have a5:=(AT N).trans x6.M;have ah:AS ((nb ((nb p).M D)).M h6) h.a 5 1 o6 (LB bs+p5+p6) (Ay (bs++ag++a4)):=(r6.mono (by rw[BF];exact((Q.trans s).trans (AT N)).a)).M;rw[l6] at ah;refine⟨x6.C,Pq,?_⟩;exact⟨_,_,Sq,G,k+1,_,_,_,B,G,B,G,G,ah,s.trans a5⟩
abbrev Qz:=Int×Int×Int
def YD (c:Qz):AH:=[.int .i64 c.1,.int .i64 c.2.1,.int .i64 c.2.2]
structure CI where
 rd:Bd
 b:Bd
 l:Int
 r:Int
 c:Int
def BV (e:CI):AH:=[.string e.rd,.string e.b,.int .i64 e.l,.int .i64 e.r,.int .i64 e.c]
def Dq (h:Y) (v:Aa) (es:List CI):Prop:=Rd h v 5 (LB es) (es.flatMap BV)
def Nw (h:Y) (v:Aa) (cs:List Qz):Prop:=Rd h v 3 (LB cs) (cs.flatMap YD)
def BK.at (c:BK h b off xs) (U:xs[i]?=I v):aC h b (off+i) v:=by
 let⟨hb,c,m,e,lo,a,x,h1,d⟩:=c;exact⟨hb,c,m,e,lo,a,x,h1,d i v U⟩
def wV {ps:List JT} {cs:List Qz} (p:Gt h pv ps) (F:LB ps<=100000000) (c:Nw h cv cs) (hc:LB cs<=100000000) (he:one ev=Ag):
 iB S L 4 49 [.agg #[pv,Vi df,cv,ev]] h λw J=>(w=.pointer Z\/∃(b r:Nat) (l:GX),h.a<=b/\h.a<=r/\w=AG b 0/\F6 J b (LB ps) df r l/\EJ (LB ps) l/\LB l<=LB cs/\(1<=LB ps/\LB ps<=64)/\(0<=df/\df<=30000)):=
 Cn f49 λd ah hL=>by
  have V:=c;obtain⟨hr,m,n,rfl,ai,aj,hA⟩:=p;obtain⟨ak,H,c1,rfl,al,am,an⟩:=c;obtain⟨K,W,o⟩:=(aH.nil h).box Ax 26 (.agg #[.slice m (LB ps) n,Vi df,.slice H (LB cs) c1,ev]);refine⟨_,_,W,_,ld B (o.q 0 _ B B),_,ld B (o.q 0 _ B B),_,sA d G,?_⟩;rintro _ h9 ⟨N,X⟩;rcases X with⟨rfl,-⟩|⟨ao,aa,b,r,hb,ap,rfl,M⟩
  .exact⟨(o.C N).e,.inl B⟩
  have y:=o.add (a:=Xg b (LB ps) df r []) N M λi U=>by rcases U with rfl|rfl<;>assumption
  refine⟨_,B,λO A g=>∃(k:Nat) (l:GX),A=[(1,AG h.a 0),(3,AG b 0),(5,Vi k)]/\k<=LB cs/\O=LB cs-k/\EJ (LB ps) l/\LB l<=k/\aH h g [Xg b (LB ps) df r l,aO h.a 26 [.slice m (LB ps) n,Vi df,.slice H (LB cs) c1,ev]],
   ⟨_,_,Sq,?_,0,[],B,Al _,B,(λp F=>by cases F),Al _,y⟩,?_⟩
  .omega
  rintro O A g ⟨k,l,rfl,hk,rfl,x,aq,s⟩ ar;have t:=s.q 1 2 B B;refine⟨_,ld B t,Bz (λe1=>?_) (λe1=>?_)⟩;rotate_left
  .exact⟨s.e,.inr ⟨b,r,l,(y.ge 0 B b (.inl B)),(y.ge 0 B r (.inr B)),B,(s.2.1 0 _ B).1,x,G,G,aa⟩⟩
  have P:k<LB cs:=G;have Q:=Ab P;obtain⟨q,ab⟩:∃q,q=cs[k]:=⟨_,B⟩;rw[←ab] at Q;obtain⟨j,y2,e9,_,u⟩:=(Rd.C V s.e).el P;cases e9;rw[flatK (f:=YD) (λ_=>B) cs Q] at u;obtain⟨C,D,R⟩:=q;refine⟨[.w 19],Kq,_,ld B t,G,_,ld B (BK.at u B:aC g j.block (j.off+(k:Int).toNat*3+0) (Vi C)),_,ld B t,G,_,ld B (BK.at u B:aC g j.block (j.off+(k:Int).toNat*3+1) (Vi D)),_,ld B t,G,_,ld B (BK.at u B:aC g j.block (j.off+(k:Int).toNat*3+2) (Vi R)),_,sy (h:=g.ad) ((s.2.1 0 _ B).1) d G,?_⟩;rintro _ v ⟨T,ad⟩;have ae:N5 g v.lo:=by
   let⟨_,es,ck,e4,_⟩:=((s.2.1 0 _ B).1).2.2.2.2;exact T.ok (λi U=>U) ⟨_,e4,B⟩
  have Y:∀l',F6 v b (LB ps) df r l'->EJ (LB ps) l'->LB l'<=k+1->∃(k':Nat) (l:GX),[(1,AG h.a 0),(3,AG b 0),(5,Vi ((k+1)))]=[(1,AG h.a 0),(3,AG b 0),(5,Vi k')]/\k'<=LB cs/\LB cs-(k+1)=LB cs-k'/\EJ (LB ps) l/\LB l<=k'/\aH h (g.M v) [Xg b (LB ps) df r l,aO h.a 26 [.slice m (LB ps) n,Vi df,.slice (I j) (LB cs) c1,ev]]:=
   λl' M' af ag=>⟨k+1,l',B,G,B,af,ag,s.aZ 0 B (T.mono λi U=>.inr U:B0 (λi=>i=b\/i=r) g.ad v) M' λi U=>.inl U⟩
  refine⟨ae,Pq,_,_,CG (l:=[(1,_),(3,_),(5,Vi ((k+1)))]) ⟨B,B,Cs (λz=>I (Vi z)) G,trivial⟩,(show LB cs-(k+1)<LB cs-k by omega),?_⟩;rcases ad with⟨rfl,-,E⟩|⟨rfl,r1,r2,r3,E⟩
  .exact Y _ E x G
  .refine Y _ E ?_ ?_
   .split
    .exact x.del
    .exact x.ah r1 r2 r3
   .split
    .have:=QZ C D l;omega
    .have:=QT C D R l;omega
structure N8 where
 pv:Aa
 a:Int
 e:Aa
 ev:Aa
 ps:List JT
 cs:List Qz
 es:List CI
def N8.cells (s:N8):AH:=[s.pv,.int .i64 s.a,s.e,s.ev]
def Qx (L:Nat) (h:Y) (s:N8):Prop:=(Gt h s.pv s.ps/\Nw h s.e s.cs/\Dq h s.ev s.es)/\(LB s.ps<L/\LB s.ps<=9223372036854775807)/\(LB s.cs<L/\LB s.cs<=9223372036854775807)/\(LB s.es<L/\LB s.es<=9223372036854775807)
def Qx.C {s:N8} (a:Qx L h s) (x:AA h J):Qx L J s:=⟨⟨Rd.C a.1.1 x,Rd.C a.1.2.1 x,Rd.C a.1.2.2 x⟩,a.2⟩
def N8.C (s:N8):Prop:=(∀q∈s.ps,q.1.size<=400)/\(∀e∈s.es,aL e.rd<=400/\aL e.b<=400)/\LB s.ps<=70/\LB s.cs<=300/\LB s.es<=300
def ABo {ps:List JT} {cs:List Qz} {es:List CI} (p:Gt h pv ps) (c:Nw h cv cs) (O:Dq h ev es)
 (hp:LB ps<L/\LB ps<=9223372036854775807) (hc:LB cs<L/\LB cs<=9223372036854775807) (he:LB es<L/\LB es<=9223372036854775807):
 iB S L 1 14 [.agg #[pv,Vi df,cv,ev]] h λw J=>∃b:Bool,w=.bool b/\(b=Ag->N8.C ⟨pv,df,cv,ev,ps,cs,es⟩):=
 Cn f14 λd ad _=>by
  have Y:=p;have aa:=O;obtain⟨hr,y,C,rfl,ae,af,hA⟩:=p;obtain⟨ag,D,c1,rfl,ah,ai,aj⟩:=c;obtain⟨ak,P,E,rfl,al,am,an⟩:=O;obtain⟨v,U,g⟩:=(aH.nil h).box Ax 26 (.agg #[.slice y (LB ps) C,Vi df,.slice D (LB cs) c1,.slice P (LB es) E]);have F:aC v h.a 0 (.slice y (LB ps) C):=g.q 0 _ B B;have Z:aC v h.a 2 (.slice D (LB cs) c1):=g.q 0 _ B B;have x:aC v h.a 3 (.slice P (LB es) E):=g.q 0 _ B B;refine⟨_,_,U,λs A j=>∃k:Nat,A=[(1,AG h.a 0),(3,Vi k)]/\k<=LB ps/\s=LB ps-k/\(∀q∈ps.take k,q.1.size<=400)/\j=v,
   ⟨_,_,Sq,G,0,B,Al _,B,(λq n=>by simp at n),B⟩,?_⟩
  rintro s A j ⟨k,rfl,hk,rfl,n,rfl⟩ ab;refine⟨_,ld B F,Bz (λe1=>?_) (λe1=>?_)⟩
  .have o:k<LB ps:=G
   have t:=Ab o;obtain⟨q,u⟩:∃q,q=ps[k]:=⟨_,B⟩;rw[←u] at t;obtain⟨m,i,H,_,r⟩:=(Rd.C Y g.e).el o;cases H;rw[flatK (f:=Mm) (λ_=>B) ps t] at r;obtain⟨Q,kd⟩:=q;have X:aC j m.block (m.off+(k:Int).toNat*2+0) (.string Q):=BK.at r B;refine⟨_,ld B F,G,_,ld B X,Bz (λe2=>?_) (λe2=>?_)⟩
   .exact⟨g.e,Ah,B,λh=>by cases h⟩
   refine⟨Pq,_,_,CG (l:=[(1,_),(3,Vi ((k+1)))]) ⟨B,Cs (λz=>I (Vi z)) G,trivial⟩,Jq,k+1,B,G,B,λq a=>?_,B⟩;rw[A5 o] at a;rcases dF.1 a with a|a
   .exact n q a
   .rw[bQ.1 a,←u];show aL Q<=400;omega
  obtain rfl:k=LB ps:=G;rw[CS] at n;refine⟨λs A h2=>∃k:Nat,A=[(1,AG h.a 0),(4,Vi k)]/\k<=LB es/\s=LB es-k/\(∀q∈es.take k,aL q.rd<=400/\aL q.b<=400)/\h2=j,
   ⟨_,_,Sq,G,0,B,Al _,B,(λq n=>by simp at n),B⟩,?_⟩
  rintro s A j ⟨k,rfl,hk,rfl,K,rfl⟩ ab;refine⟨_,ld B x,Bz (λe3=>?_) (λe3=>?_)⟩
  .have o:k<LB es:=G
   have t:=Ab o;obtain⟨q,u⟩:∃q,q=es[k]:=⟨_,B⟩;rw[←u] at t;obtain⟨m,i,H,_,r⟩:=(Rd.C aa g.e).el o;cases H;rw[flatK (f:=BV) (λ_=>B) es t] at r;obtain⟨R,T,a_,b_,c_⟩:=q;have V:AA h j/\∃b:Bool,CU Ah=.bool b/\(b=Ag->N8.C ⟨.slice y (LB ps) C,df,.slice D (LB cs) c1,.slice (I m) (LB es) E,ps,cs,es⟩):=⟨g.e,Ah,B,λh=>by cases h⟩;refine⟨_,ld B x,G,_,ld B (BK.at r B),Bz (λM=>?_) (λM=>?_)⟩
   .exact V
   refine⟨_,ld B x,G,_,ld B (BK.at r B),Bz (λN=>?_) (λN=>?_)⟩
   .exact V
   refine⟨Pq,_,_,CG (l:=[(1,_),(4,Vi ((k+1)))]) ⟨B,Cs (λz=>I (Vi z)) G,trivial⟩,(show LB es-(k+1)<LB es-k by omega),k+1,B,G,B,λq a=>?_,B⟩;rw[A5 o] at a;rcases dF.1 a with a|a
   .exact K q a
   .rw[bQ.1 a,←u];exact⟨Jq,Jq⟩
  obtain rfl:k=LB es:=G;rw[CS] at K;refine⟨_,ld B F,Bz (λM=>?_) (λM=>?_)⟩
  .refine⟨_,ld B Z,Bz (λN=>?_) (λN=>?_)⟩
   .refine⟨_,ld B x,g.e,_,B,λW=>?_⟩
    have W:=Fp W;exact⟨n,K,Jq,Jq,Jq⟩
   .exact⟨g.e,Ah,B,λh=>Jq⟩
  .exact⟨g.e,Ah,B,λh=>Jq⟩
def xq {s:N8} (a:Qx L h s):iB S L 1 14 [.agg ⟨s.cells⟩] h λw J=>∃b:Bool,w=.bool b/\(b=Ag->s.C):=ABo a.1.1 a.1.2.1 a.1.2.2 a.2.1 a.2.2.1 a.2.2.2
structure RT where
 a:Bd
 b:Bd
 n:Int
def Qm (e:RT):AH:=[.string e.a,.string e.b,.int .i64 e.n]
def Ls (h:Y) (v:Aa) (es:List RT):Prop:=Rd h v 3 (LB es) (es.flatMap Qm)
structure Lf where
 src:N8
 ctx:Bd
 lv:Aa
 rv:Aa
 ls:List RT
 rs:List RT
def Lf.cells (s:Lf):AH:=s.src.cells++[.string s.ctx,s.lv,s.rv]
def Lt (L:Nat) (h:Y) (s:Lf):Prop:=Qx L h s.src/\(Ls h s.lv s.ls/\Ls h s.rv s.rs)/\(LB s.ls<L/\LB s.ls<=9223372036854775807)/\(LB s.rs<L/\LB s.rs<=9223372036854775807)
def Oq (es:List RT):Prop:=∀e∈es,aL e.a<=400/\aL e.b<=400
def Lf.C (s:Lf):Prop:=s.src.C/\Oq s.ls/\Oq s.rs/\aL s.ctx<=400/\LB s.ls<=40/\LB s.rs<=40
def Lt.C {s:Lf} (a:Lt L h s) (x:AA h J):Lt L J s:=⟨a.1.C x,⟨Rd.C a.2.1.1 x,Rd.C a.2.1.2 x⟩,a.2.2⟩
def wB {s:N8} {v:Bd} {O:Aa} {c a:List RT} (sa:Qx L h s) (p:Ls h lv c) (en:Ls h O a)
 (hp:LB c<L/\LB c<=9223372036854775807) (he:LB a<L/\LB a<=9223372036854775807):
 iB S L 2 4 [.agg ⟨s.cells++[Sg v,lv,O]⟩] h λw J=>∃b:Bool,w=.bool b/\(b=Ag->Lf.C ⟨s,v,lv,O,c,a⟩):=
 Cn f4 λd ah _=>by
  have p':=p;have af:=en;obtain⟨hr,P,Q,rfl,ai,aj,hA⟩:=p;obtain⟨ak,R,T,rfl,al,am,an⟩:=en;obtain⟨H,y1,j⟩:=(aH.nil h).box Ax 30 (.agg ⟨s.cells++[Sg v,.slice P (LB c) Q,.slice R (LB a) T]⟩);have l4:aC H h.a 4 (Sg v):=j.q 0 _ B B;have K:aC H h.a 5 (.slice P (LB c) Q):=j.q 0 _ B B;have M:aC H h.a 6 (.slice R (LB a) T):=j.q 0 _ B B;refine⟨_,_,y1,λx A m=>∃k:Nat,A=[(1,AG h.a 0),(3,Vi k)]/\k<=LB c/\x=LB c-k/\Oq (c.take k)/\m=H,
   ⟨_,_,Sq,G,0,B,Al _,B,(λq o=>by simp at o),B⟩,?_⟩
  rintro x A m ⟨k,rfl,hk,rfl,o,rfl⟩ ag;refine⟨_,ld B K,Bz (λy=>?_) (λy=>?_)⟩
  .have r:k<LB c:=G
   have C:=Ab r;obtain⟨q,D⟩:∃q,q=c[k]:=⟨_,B⟩;rw[←D] at C;obtain⟨n,y2,V,_,t⟩:=(Rd.C p' j.e).el r;cases V;rw[flatK (f:=Qm) (λ_=>B) c C] at t;obtain⟨E,F,a_⟩:=q;have q1:aC m n.block (n.off+(k:Int).toNat*3+0) (Sg E):=BK.at t B;have q2:aC m n.block (n.off+(k:Int).toNat*3+1) (Sg F):=BK.at t B;refine⟨_,ld B K,G,_,ld B q1,Bz (λW=>?_) (λW=>?_)⟩
   .exact⟨j.e,Ah,B,λh=>by cases h⟩
   refine⟨_,ld B K,G,_,ld B q2,Bz (λX=>?_) (λX=>?_)⟩
   .exact⟨j.e,Ah,B,λh=>by cases h⟩
   refine⟨Pq,_,_,CG (l:=[(1,_),(3,Vi ((k+1)))]) ⟨B,Cs (λz=>I (Vi z)) (G),trivial⟩,(show LB c-(k+1)<LB c-k by omega),k+1,B,G,B,λq g=>?_,B⟩;rw[A5 r] at g;rcases dF.1 g with g|g
   .exact o q g
   .rw[bQ.1 g,←D];exact⟨by show aL E<=400;omega,by show aL F<=400;omega⟩
  obtain rfl:k=LB c:=G;rw[CS] at o;refine⟨λx A h2=>∃k:Nat,A=[(1,AG h.a 0),(4,Vi k)]/\k<=LB a/\x=LB a-k/\Oq (a.take k)/\h2=m,
   ⟨_,_,Sq,G,0,B,Al _,B,(λq o=>by simp at o),B⟩,?_⟩
  rintro x A m ⟨k,rfl,hk,rfl,Y,rfl⟩ ag;refine⟨_,ld B M,Bz (λy=>?_) (λy=>?_)⟩
  .have r:k<LB a:=G
   have C:=Ab r;obtain⟨q,D⟩:∃q,q=a[k]:=⟨_,B⟩;rw[←D] at C;obtain⟨n,y2,V,_,t⟩:=(Rd.C af j.e).el r;cases V;rw[flatK (f:=Qm) (λ_=>B) a C] at t;obtain⟨E,F,a_⟩:=q;refine⟨_,ld B M,G,_,ld B (BK.at t B:aC m n.block (n.off+(k:Int).toNat*3+0) (Sg E)),Bz (λW=>?_) (λW=>?_)⟩
   .exact⟨j.e,Ah,B,λh=>by cases h⟩
   refine⟨_,ld B M,G,_,ld B (BK.at t B),Bz (λX=>?_) (λX=>?_)⟩
   .exact⟨j.e,Ah,B,λh=>Jq⟩
   refine⟨Pq,_,_,CG (l:=[(1,_),(4,Vi ((k+1)))]) ⟨B,Cs (λz=>I (Vi z)) (G),trivial⟩,(show LB a-(k+1)<LB a-k by omega),k+1,B,G,B,λq g=>?_,B⟩;rw[A5 r] at g;rcases dF.1 g with g|g
   .exact Y q g
   .rw[bQ.1 g,←D];exact⟨Jq,Jq⟩
  obtain rfl:k=LB a:=G;rw[CS] at Y;have c7:BK m h.a 0 s.cells:=by
   have:=(j.dD 0 B).cells;let⟨z1,z2,z3,z4,z5,z6,z7,z8,z9⟩:=this;exact⟨z1,z2,z3,z4,z5,z6,z7,z8,λi u Z=>z9 i u ((AB (cG.1 Z).1).trans Z)⟩
  refine⟨_,EQ Kq c7 B,_,xq (sa.C j.e) d G,?_⟩;rintro _ h3 ⟨N,b,rfl,hb⟩;have ae:=j.e.trans N;have U:AA h h3/\∃b:Bool,CU Ah=.bool b/\(b=Ag->Lf.C ⟨s,v,.slice P (LB c) Q,.slice R (LB a) T,c,a⟩):=⟨ae,Ah,B,λh=>Jq⟩;cases b with
  |false=>exact U
  |true=>
  refine⟨_,ld B (l4.C N),Bz (λy=>?_) (λy=>?_)⟩;rotate_left
  .exact U
  refine⟨_,ld B (K.C N),Bz (λe2=>?_) (λe2=>?_)⟩;rotate_left
  .exact U
  refine⟨_,ld B (M.C N),ae,_,B,λe3=>?_⟩;have e3:=Fp e3;exact⟨hb B,o,Y,Jq,Jq,Jq⟩
def c7 {s:Lf} (a:Lt L h s):iB S L 2 4 [.agg ⟨s.cells⟩] h λw J=>∃b:Bool,w=.bool b/\(b=Ag->s.C):=wB a.1 a.2.1.1 a.2.1.2 a.2.2.1 a.2.2.2
def U6 (v:Aa):Prop:=∃z,v=.int .i64 z
def KM (v:Aa):Prop:=∃z:Int,v=.int .i64 z/\0<=z/\z<=1048576
def PF (e:CI) (h:Y):∃g,K7 Ax 90 (.agg ⟨BV e⟩) h=I (AG h.a 0,g)/\AA h g/\aQ g h.a 90 (BV e):=by
 let⟨g,y,s⟩:=(aH.nil h).box Ax 90 (.agg ⟨BV e⟩);exact⟨g,y,s.e,s.dD 0 B⟩
def wx {e:CI}:iB S L 1 77 [.agg ⟨BV e⟩] h λw J=>w=.string e.rd:=
 Cn f77 λd b _=>by
  let⟨g,y,x,o⟩:=PF e h;exact⟨_,_,y,_,ld B (o.cell B),x,B⟩
def ww {e:CI}:iB S L 1 78 [.agg ⟨BV e⟩] h λw J=>w=.string e.b:=
 Cn f78 λd b _=>by
  let⟨g,y,x,o⟩:=PF e h;exact⟨_,_,y,_,ld B (o.cell B),x,B⟩
def ABe {e:CI}:iB S L 1 93 [.agg ⟨BV e⟩] h λw J=>w=Vi e.l:=
 Cn f93 λd b _=>by
  let⟨g,y,x,o⟩:=PF e h;exact⟨_,_,y,_,ld B (o.cell B),x,B⟩
def ADx {e:CI}:iB S L 1 94 [.agg ⟨BV e⟩] h λw J=>w=Vi e.r:=
 Cn f94 λd b _=>by
  let⟨g,y,x,o⟩:=PF e h;exact⟨_,_,y,_,ld B (o.cell B),x,B⟩
def ACd {e:CI}:iB S L 1 95 [.agg ⟨BV e⟩] h λw J=>w=Vi e.c:=
 Cn f95 λd b _=>by
  let⟨g,y,x,o⟩:=PF e h;exact⟨_,_,y,_,ld B (o.cell B),x,B⟩
def wu {e f:CI}:iB S L 1 83 [.agg ⟨BV e⟩,.agg ⟨BV f⟩] h λw J=>∃b,w=.bool b:=
 Cn f83 λd k _=>by
  let⟨g,y,x,o⟩:=PF e h;let⟨l,i,a,j⟩:=PF f g;exact⟨_,_,y,_,_,i,_,ld B ((o.C a).cell B),_,ld B (j.cell B),_,B,x.trans a,_,B⟩
def wp {e f:CI}:iB S L 1 86 [.agg ⟨BV e⟩,.agg ⟨BV f⟩] h λw J=>∃b,w=.bool b:=
 Cn f86 λd k _=>by
  let⟨g,y,x,o⟩:=PF e h;let⟨l,i,a,j⟩:=PF f g;exact⟨_,_,y,_,_,i,_,ld B ((o.C a).cell B),_,ld B (j.cell B),_,B,x.trans a,_,B⟩
def T1 (m:Gy h r Fh KM) (s:Bd):∃z:Int,BW Ax 173 (.map (I r)) (.string s) Ah h=I (Vi z)/\0<=z/\z<=1048576:=by
 obtain⟨v,b,e,a,c⟩:=QH (et:=3) Kq MV Kq m ⟨s,B⟩ Ah;cases b with
 |true=>obtain⟨z,rfl,d⟩:=a B;exact⟨z,e,d⟩
 |false=>rw[c B] at e;exact⟨0,e,Jq,Jq⟩
def AGd {e:CI} (c:aC h b 0 (.map (I r))) (m:Gy h r Fh KM):iB S L 1 92 [.agg ⟨BV e⟩,AG b 0] h λw J=>U6 w:=
 Cn f92 λd i _=>by
  let⟨g,y,x,o⟩:=PF e h;let⟨z,f,_⟩:=T1 (⟨AC m.1 x.a,x.t r m.1▸m.2⟩) e.b;exact⟨_,_,y,_,ld B (c.C x),_,ld B (o.cell B),_,_,Cs (CN _) f,x,_,B⟩
def wq {es:List CI} (c:aC h b 0 (.map (I r))) (m:Gy h r Fh KM) (e:aC h q 0 v) (g:Dq h v es) (U:i<LB es) (k:j<LB es):
 iB S L 1 85 [Vi i,Vi j,AG b 0,AG q 0] h λw J=>U6 w:=
 Cn f85 λd u _=>by
  have l:=g;obtain⟨a1,H,a,_,n⟩:=Rd.el l U;cases a;obtain⟨K,M,a,_,o⟩:=Rd.el l k;cases a;rw[flatK (f:=BV) (λ_=>B) es (Ab U)] at n;rw[flatK (f:=BV) (λ_=>B) es (Ab k)] at o;let⟨x,s,N⟩:=T1 m es[i].b;let⟨y,t,O⟩:=T1 m es[j].b;exact⟨[],Kq,_,ld B c,_,ld B e,G,_,ld B (BK.at n B),_,_,Cs (CN _) s,_,ld B c,_,ld B e,G,_,ld B (BK.at o B),_,_,Cs (CN _) t,Pq,AA.refl h,_,B⟩
def YQ (S:A9) (L d:Nat) (b:Aa) (h:Y) (es:List CI) (Q:Aa->Prop):Prop:=∃g first cap,b=.func (.func g) first cap/\∀e∈es,∀J,AA h J->iB S L d g (aI first++[.agg ⟨BV e⟩]++aI cap) J λv a=>Q v
def Aqz (S:A9) (L d:Nat) (c:Aa) (h:Y):Prop:=∃g first cap,c=.func (.func g) first cap/\∀e f J,AA h J->iB S L d g (aI first++[.agg ⟨BV e⟩,.agg ⟨BV f⟩]++aI cap) J λv a=>∃b,v=.bool b
def pr {es:List CI} (Q:Dq h v es) (hn:LB es<=1000000) (s:Aqz S L 1 fv h):
 iB S L 2 82 [v,fv] h λw J=>∃l:Bo,AS J h.a 3 1 w (LB l) (Bn l)/\LB l<=LB es/\∀x∈l,x<LB es:=
 Cn f82 λd af hL=>by
  have R:=Q;obtain⟨g,first,cap,rfl,hc⟩:=s
  obtain⟨hr,T,c,rfl,ag,ah,hA⟩:=Q;refine⟨λV A j=>∃(k:Nat) (cv:Aa) (l:Bo),A=[(0,.slice T (LB es) c),(1,.func (.func g) first cap),(5,cv),(8,.slice T (LB es) c),(9,Vi (LB es)),(10,Vi k)]/\k<=LB es/\V=LB es-k/\(LB l<=k/\∀x∈l,x<LB es)/\AA h j/\AS j h.a 3 1 cv (LB l) (Bn l),
   ⟨_,_,Sq,G,0,_,[],B,Al _,B,⟨Al _,λx a=>by cases a⟩,AA.refl _,AS.nil _ _ _ _⟩,?_⟩
  rintro V A j ⟨k,cv,l,rfl,hk,rfl,⟨ai,u⟩,x,o⟩ aj;apply Bz<;>intro k1;rotate_left
  .exact⟨x,l,o,G,u⟩
  have y:k<LB es:=G;obtain⟨a1,y1,C,_,W⟩:=(Rd.C R x).el y;cases C;rw[flatK (f:=BV) (λ_=>B) es (Ab y)] at W;obtain⟨e,he⟩:∃e,e=es[k]:=⟨_,B⟩;rw[←he] at W;obtain⟨D,z1,m,z2,E⟩:=(aH.nil j).va 90 [.string ⟨#[]⟩,.string ⟨#[]⟩,Vi 0,Vi 0,Vi 0] (BV e);have n:=x.trans E.e;have X:=o.C E.e;refine⟨G,_,EQ Kq Jq B,_,_,z1 _,_,z2,[],Kq,?_⟩;have ap:∀H,AA h H->AS H h.a 3 1 cv (LB l) (Bn l)->∃D,Bs Ax 50 1 [(0,Vi k)] H=I (sL H.a 1 1,D)/\∃v' J,Bx Ax .append [50,50] [cv,sL H.a 1 1] D=I (v',J)/\AA h J/\AS J h.a 3 1 v' (l++[k]).length (Bn (l++[k])):=λH p q=>by
   have a:=p.a;obtain⟨v',J,t1,t2,t3,t4⟩:=Tz Kq q (ys:=[Vi k]) B B a G;refine⟨_,Iv (k:=1) Kq (Vi k) B B xc H,v',J,t1,p.then t3 λi U=>q.ai i U,?_⟩
   rw[Aj,show Bn (l++[k])=Bn l++[Vi k] by simp[Bn]];exact t2
  have Da:∀(H:Y) r l',AA h H->AS H h.a 3 1 r (LB l') (Bn l')->(LB l'<=k+1/\∀x∈l',x<LB es)->∃(k':Nat) (cv:Aa) (l:Bo),[(0,.slice (I a1) (LB es) c),(1,.func (.func g) first cap),(5,r),(8,.slice (I a1) (LB es) c),(9,Vi (LB es)),(10,Vi ((k+1)))]=[(0,.slice (I a1) (LB es) c),(1,.func (.func g) first cap),(5,cv),(8,.slice (I a1) (LB es) c),(9,Vi (LB es)),(10,Vi k')]/\k'<=LB es/\LB es-(k+1)=LB es-k'/\(LB l<=k'/\∀x∈l,x<LB es)/\AA h H/\AS H h.a 3 1 cv (LB l) (Bn l):=
   λH r l' p q ae=>⟨k+1,r,l',B,G,B,ae,p,q⟩
  have aa:(l++[k]).length<=k+1/\∀x∈l++[k],x<LB es:=by
   refine⟨by rw[Aj];show LB l+1<=_;omega,λx a=>?_⟩;rcases dF.1 a with a|a
   .exact u x a
   .rw[bQ.1 a];exact y
  apply Bz<;>intro k2
  .obtain⟨g3,F,v',J,K,M,N⟩:=ap m n X
   exact⟨_,_,F,_,_,K,Pq,_,_,CG (l:=[(0,_),(1,_),(5,_),(8,_),(9,_),(10,Vi ((k+1:Nat)))]) ⟨B,B,B,B,B,Cs (λz=>I (Vi z)) G,trivial⟩,(show LB es-(k+1)<LB es-k by omega),Da _ _ _ M N aa⟩
  obtain⟨a2,y2,C,_,O⟩:=(Rd.C R n).el (show k-1<LB es by omega);cases C;rw[flatK (f:=BV) (λ_=>B) es (Ab (show k-1<LB es by omega))] at O;obtain⟨f,s⟩:∃e,e=es[k-1]:=⟨_,B⟩;rw[←s] at O;refine⟨_,EQ Kq ((E.dD 0 B).cells) B,Pq,G,_,EQ Kq (show BK m a1.block (a1.off+((k:Int)-1).toNat*5) (BV f) by rw[(G:((k:Int)-1).toNat=k-1)];exact O) B,_,hc e f m.ad (n.trans (AA.ad m)) d G,?_⟩;rintro _ h3 ⟨P,b,rfl⟩;have ab:=n.trans P.M;have o3:=X.C P.M;refine⟨P.C,Ad (λk3=>?_) (λk3=>?_)⟩
  .let⟨g3,F,v',J,K,M,N⟩:=ap _ ab o3
   exact⟨_,_,F,_,_,K,Pq,_,_,CG (l:=[(0,_),(1,_),(5,_),(8,_),(9,_),(10,Vi ((k+1:Nat)))]) ⟨B,B,B,B,B,Cs (λz=>I (Vi z)) G,trivial⟩,(show LB es-(k+1)<LB es-k by omega),Da _ _ _ M N aa⟩
  .exact⟨Pq,_,_,CG (l:=[(0,_),(1,_),(5,_),(8,_),(9,_),(10,Vi ((k+1:Nat)))]) ⟨B,B,B,B,B,Cs (λz=>I (Vi z)) G,trivial⟩,(show LB es-(k+1)<LB es-k by omega),Da _ _ _ ab o3 ⟨G,u⟩⟩
def Ew (l:List Int):AH:=l.map λx=>AL .i64 x
def TG (l:Bo):AH:=l.map λx:Nat=>AL .u64 x
def VZ (l:Bo):(TG l).length=LB l:=by simp[TG]
def SE (l:List Int):(Ew l).length=LB l:=by simp[Ew]
def Z9 {l:List Int} (a:k<LB l):(Ew l)[k]?=I (Vi l[k]):=by
 unfold Ew;rw[AX,Ab a];rfl
def Ze (l:Bo):Bn l=Ew (l.map λx:Nat=>(x:Int)):=by simp[Bn,Ew]
def kJ {g:List Int} (r:Rd h v 1 (LB g) (Ew g)) (hn:LB g<=1000000):
 iB S L 3 88 [v] h λw J=>∃bs:Bl,LB bs<=10000000/\AS J h.a 5 1 w (LB bs) (Ay bs):=
 Cn f88 λd ab hL=>by
  have E:=r;obtain⟨hr,F,H,rfl,ad,ae,hA⟩:=r;obtain⟨g8,K,M,o,n8⟩:=MA (τ:=Ax) (t:=298) (z:=.int .u64 0) Kq Kq B (LB g) G .i64 .i64 h;rw[show AE (LB g) (AL .u64 0)=TG (AE (LB g) 0) by simp[TG]] at o;have N:=(aH.nil h).add (a:=aO h.a 194 (TG (AE (LB g) 0))) M o λi U=>A2 U.symm;refine⟨_,_,K,λp A f=>∃(k:Nat) (c:Bo),A=[(3,sL h.a (LB g) (LB g)),(11,.slice F (LB g) H),(12,Vi (LB g)),(13,Vi k)]/\k<=LB g/\p=LB g-k/\LB c=LB g/\(∀x∈c,x<18446744073709551616)/\aH h f [aO h.a 194 (TG c)],
   ⟨_,_,Sq,G,0,_,B,Al _,B,by simp,(λx l=>by rw[CH l];decide),N⟩,?_⟩
  rintro p A f ⟨k,c,rfl,hk,rfl,O,q,s⟩ af;apply Bz<;>intro k1
  .have u:k<LB g:=G
   obtain⟨a1,Z,Q,_,T⟩:=(Rd.C E s.e).el u;cases Q;obtain⟨x,l,V⟩:=Sx g[k];obtain⟨W,X,C⟩:=s.sT 194 0 k (.int .u64 x) B (by rw[VZ];omega) B;rw[show(TG c).set k (.int .u64 x)=TG (c.set k x) by simp[TG]] at C;refine⟨G,_,ld B (BK.at T (by rw[LS,Bi xc,Eg,BJ,UL];exact Z9 u):aC f a1.block (a1.off+(k:Int).toNat*1+0) (Vi g[k])),_,.inr V,G,_,Jp X (by show 0+k*1=k;omega),Pq,_,_,Sq,G,k+1,_,B,G,B,Jq,?_,C⟩;intro y m;rcases BT m with m|rfl
   .exact q y m
   .exact l
  have R:Rd f (sL h.a (LB g) (LB g)) 1 (LB c) (c.map λx:Nat=>AL .u64 x):=by
   have:=(s.dD 0 B).dB (n:=LB g) (k:=1) (by rw[VZ];omega);rw[O];exact this
  refine⟨_,np R q G d G,?_⟩;rintro _ W ⟨D,⟨ag,rfl⟩|⟨ah,b,hb,rfl,P,_⟩⟩
  .omega
  .refine⟨_,nL P d G,?_⟩
   rintro o3 h3 ⟨j,bs,Y,I⟩;exact⟨(s.e.trans D).trans j,bs,Y,I.mono (Ao s.e.a D.a)⟩
def jy {es:List CI} (c:aC h q 0 v) (u:Dq h v es) (hn:LB es<=1000000) (K:YQ S L 1 fv h es U6):
 iB S L 4 87 [fv,AG q 0] h λw J=>∃bs:Bl,LB bs<=10000000/\AS J h.a 5 1 w (LB bs) (Ay bs):=
 Cn f87 λd ab hL=>by
  have M:=u;obtain⟨g,first,cap,rfl,N⟩:=K
  obtain⟨hr,O,P,rfl,ad,ae,hA⟩:=u;obtain⟨g8,Q,x,y,n8⟩:=MA (τ:=Ax) (t:=50) (z:=Vi 0) Kq Kq B (LB es) G .i64 .i64 h;rw[show AE (LB es) (Vi 0)=Ew (AE (LB es) 0) by simp[Ew]] at y;have T:=(aH.nil h).add (a:=aO h.a 3 (Ew (AE (LB es) 0))) x y λi U=>A2 U.symm;refine⟨_,ld B c,_,_,Q,_,ld B (c.C x),λC A l=>∃(k:Nat) (b:List Int),A=[(0,.func (.func g) first cap),(4,sL h.a (LB es) (LB es)),(10,.slice O (LB es) P),(11,Vi (LB es)),(12,Vi k)]/\k<=LB es/\C=LB es-k/\LB b=LB es/\aH h l [aO h.a 3 (Ew b)],
   ⟨_,_,Sq,G,0,_,B,Al _,B,by simp,T⟩,?_⟩
  rintro C A l ⟨k,b,rfl,hk,rfl,D,s⟩ af;apply Bz<;>intro k1
  .have E:k<LB es:=G
   obtain⟨a1,Y,V,_,F⟩:=(Rd.C M s.e).el E;cases V;rw[flatK (f:=BV) (λ_=>B) es (Ab E)] at F;obtain⟨e,W⟩:∃e,e=es[k]:=⟨_,B⟩;rw[←W] at F;let⟨g1,X,m,j,o⟩:=s.va 90 [.string ⟨#[]⟩,.string ⟨#[]⟩,Vi 0,Vi 0,Vi 0] (BV e);refine⟨G,_,EQ Kq Jq B,_,_,X _,_,j,_,EQ Kq ((o.dD 0 B).cells) B,_,N e Jq m o.e d G,?_⟩;rintro _ I ⟨p,z,rfl⟩;obtain⟨h4,r,H⟩:=(o.C p).sT 3 1 k (Vi z) B (by rw[SE];omega) B;rw[show(Ew b).set k (Vi z)=Ew (b.set k z) by simp[Ew]] at H;exact⟨G,_,Jp r (by show 0+k*1=k;omega),Pq,_,_,Sq,G,k+1,_,B,G,B,Jq,H.drop 1⟩
  have R:Rd l (sL h.a (LB es) (LB es)) 1 (LB b) (Ew b):=by
   have:=(s.dD 0 B).dB (n:=LB es) (k:=1) (by rw[SE];omega);rw[D];exact this
  refine⟨_,kJ R G d G,λZ I ⟨p,bs,aa,r3⟩=>⟨s.e.trans p,bs,aa,r3.mono s.e.a⟩⟩
def NF (pre:AH):∀(vs r:AH) (i:Nat),I2 (pre++r) (LB pre+i) vs=pre++I2 r i vs
 |[],_,_=>rfl
 |v::vs,r,i=>by
  rw[I2,I2,Hj,Bm G,show LB pre+i-LB pre=i by omega,DD];exact NF pre vs _ _
def rT (b off n c l:Nat) (d:l<=n) (a:n<=c):C7 Ax 40 (.slice (I ⟨b,off,Z⟩) n c) (I (Vi (l:Int))) Z Z=I (.slice (I ⟨b,off+l*1,Z⟩) (n-l) (c-l)):=by
 show(bif Ar l n&&Ar n c then I (PA (I ⟨b,off+l*1,Z⟩) (n-l) (c-l)) else Z)=_
 rw[Aq d,Aq a];rfl
def sK (b off n c m:Nat) (a:m<=c):C7 Ax 40 (.slice (I ⟨b,off,Z⟩) n c) Z (I (Vi (m:Int))) Z=I (.slice (I ⟨b,off+0*1,Z⟩) (m-0) (c-0)):=by
 show(bif Ar 0 m&&Ar m c then I (PA (I ⟨b,off+0*1,Z⟩) (m-0) (c-0)) else Z)=_
 rw[Aq a];rfl
def Mg {xs:BZ} {sp:AH} (o:aQ h b 9 (AR xs++sp)) (a:k<LB xs):aC h b k (Sg xs[k]):=o.cell (by
 rw[AB (by simp[AR];exact a)];exact Dl a)
def AAd (o:AS h N 9 1 v n (AR ss)) (hn:n<=1000000):
 Bk S L 1 171 [v] h λw J=>B0 (BY v) h J/\∃p,AS J N 9 1 w (LB p) (AR p)/\LB p<=n/\∀s∈p,s∈ss:=
 Cn f171 λd ai hL=>by
  have V:n=LB ss:=by have:=o.len;simpa[AR] using this
  obtain⟨A0,e,rfl⟩:∃A c,v=.slice A n c:=by
   obtain⟨_,⟨rfl,rfl⟩|⟨b,c,sp,rfl,_⟩⟩:=o<;>exact⟨_,_,B⟩
  apply Bz<;>intro e1
  .exact⟨(AA.refl h).O _,ss,V▸o,G,λs q=>q⟩
  obtain⟨_,⟨_,O⟩|⟨b,c,sp,O,hb,P,Q,f⟩⟩:=o
  .omega
  obtain⟨rfl,rfl⟩:A0=I ⟨b,0,Z⟩/\e=c:=by cases O;exact⟨B,B⟩
  clear O;have aj:LB sp+n=e:=by rw[Aj] at Q;simp[AR] at Q;omega
  refine⟨λC A r=>∃k:Nat,A=[(0,sL b n e),(3,Vi k)]/\1<=k/\k<=n/\C=n-k/\r=h,
   ⟨_,_,Sq,G,1,B,G,G,B,B⟩,?_⟩
  rintro C A r ⟨a,rfl,ak,hk,rfl,rfl⟩ W;apply Bz<;>intro k1;rotate_left
  .exact⟨(AA.refl r).O _,ss,V▸⟨by simp[AR];omega,.inr ⟨b,e,sp,B,hb,P,Q,f⟩⟩,G,λs q=>q⟩
  have D:aC r b (0+(a:Int).toNat*1) (Sg (ss[a]'G)):=by
   rw[show 0+(a:Int).toNat*1=a by omega];exact Mg f G
  have F:aC r b (0+((a:Int)-1).toNat*1) (Sg (ss[a-1]'G)):=by
   rw[show 0+((a:Int)-1).toNat*1=a-1 by omega];exact Mg f G
  refine⟨[],Kq,G,_,ld B D,Pq,G,_,ld B F,_,B,Ad (λk2=>?_) (λk2=>?_)⟩;rotate_left
  .exact⟨Pq,_,_,CG (l:=[(0,_),(3,Vi ((a+1:Nat):Int))]) ⟨B,Cs (λz=>I (Vi z)) (G),trivial⟩,(show n-(a+1)<n-a by omega),a+1,B,G,G,B,B⟩
  refine⟨_,_,Cs (CN _) (rT b 0 n e a G P),?_⟩;refine⟨λC A g=>∃(k j:Nat) (xs:BZ),A=[(0,sL b n e),(3,Vi k),(4,.slice (I ⟨b,0+a*1,Z⟩) (n-a) (e-a)),(5,Vi j)]/\k+1<=a+j/\1<=k/\j<=n-a/\1<=j/\C=n-a-j/\LB xs=n/\(∀s∈xs,s∈ss)/\aQ g b 9 (AR xs++sp)/\B0 (·=b) r g,
   ⟨_,_,Sq,G,a,1,ss,B,G,G,G,G,B,G,λs h=>h,f,(AA.refl r).O _⟩,?_⟩
  clear f D F W;rintro C A g ⟨k,j,xs,rfl,al,am,hj,an,rfl,X,K,f,x⟩ W;apply Bz<;>intro k3
  .have D:aC g b (0+a*1+(j:Int).toNat*1) (Sg (xs[a+j]'G)):=by
    rw[show 0+a*1+(j:Int).toNat*1=a+j by omega];exact Mg f G
   have F:aC g b (0+a*1+((j:Int)-1).toNat*1) (Sg (xs[a+j-1]'G)):=by
    rw[show 0+a*1+((j:Int)-1).toNat*1=a+j-1 by omega];exact Mg f G
   refine⟨[],Kq,G,_,ld B D,Pq,G,_,ld B F,_,B,Ad (λk4=>?_) (λk4=>?_)⟩
   .obtain⟨y,E,U,c3⟩:=aQ.st (τ:=Ax) (t:=9) B f (i:=k) (v:=.string (xs[a+j]'G)) (by rw[Aj];simp[AR];omega) B
    rw[Hj,Bi (by simp[AR];omega),show(AR xs).set k (Sg (xs[a+j]'G))=AR (xs.set k (xs[a+j]'G)) by simp[AR,Cp]] at U;refine⟨G,_,ld B D,G,_,Jp E (by show 0+k*1=k;omega),Pq,Pq,?_⟩;refine⟨_,_,Sq,(show n-a-(j+1)<n-a-j by omega),k+1,j+1,_,B,G,G,G,G,B,Jq,?_,U,x.trans c3.O⟩;intro s q;rcases BT q with q|rfl
    .exact K s q
    .exact K _ (Bu _)
   .exact⟨Pq,_,_,CG (l:=[(0,_),(3,_),(4,_),(5,Vi ((j+1:Nat):Int))]) ⟨B,B,B,Cs (λz=>I (Vi z)) (G),trivial⟩,(show n-a-(j+1)<n-a-j by omega),k,j+1,xs,B,G,G,G,G,B,X,K,f,x⟩
  have ae:k<=n:=G
  have Da:∀H u,aQ H b 9 (AR (xs.take k)++u)->(LB u+k=e)->B0 (·=b) r H->B0 (·=b) r H/\∃p,AS H N 9 1 (.slice (I ⟨b,0+0*1,Z⟩) (k-0) (e-0)) (LB p) (AR p)/\LB p<=n/\∀s∈p,s∈ss:=λH u oH hl cH=>by
   have af:(xs.take k).length=k:=by rw[Cg];omega
   refine⟨cH,xs.take k,⟨by simp[AR],.inr ⟨b,e,u,?_,hb,G,?_,oH⟩⟩,G,λs q=>K s (List.mem_of_mem_take q)⟩
   .rw[af];rfl
   .rw[Aj];simp[AR];omega
  have cl:∃y u,Bx Ax .clear [40] [.slice (I ⟨b,0+k*1,Z⟩) (n-k) (e-k)] g=I (.tuple #[],y)/\aQ y b 9 (AR (xs.take k)++u)/\LB u+k=e/\B0 (·=b) g y:=by
   have es:AR xs++sp=AR (xs.take k)++(AR (xs.drop k)++sp):=by
    rw[←KA];unfold AR;rw[←BS,FO]
   have aa:(AR (xs.take k)).length=k:=by simp[AR];omega
   have ab:(AR (xs.drop k)++sp).length+k=e:=by rw[Aj];simp[AR];omega
   rw[es] at f;generalize hm:n-k=m;cases m with
   |zero=>exact⟨g,_,B,f,ab,(AA.refl g).O _⟩
   |succ m=>
    have ag:(Dy [Sg ⟨#[]⟩] (m+1)).length=m+1:=by
     have:∀m,(Dy [Sg ⟨#[]⟩] m).length=m:=by
      intro m
      induction m with
      |zero=>rfl
      |succ m R=>rw[Dy,Aj,R];simp;omega
     exact this _
    have ah:(Dy [Sg ⟨#[]⟩] (m+1)).all one=true:=by
     have:∀m,(Dy [Sg ⟨#[]⟩] m).all one=true:=by
      intro m
      induction m with
      |zero=>rfl
      |succ m R=>rw[Dy,Yqb,R];rfl
     exact this _
    obtain⟨y,T,M,E⟩:=aQ.bb f (i:=k) (vs:=Dy [Sg ⟨#[]⟩] (m+1)) (by rw[ag,Aj,aa];omega) ah;have Y:=NF (AR (xs.take k)) (Dy [Sg ⟨#[]⟩] (m+1)) (AR (xs.drop k)++sp) 0;rw[aa,UL] at Y;rw[Y] at M;refine⟨y,_,?_,M,by rw[LH];exact ab,E.O⟩;show(match Gi g b (0+k*1) (Dy [Sg ⟨#[]⟩] (m+1)) with|I J=>I (C4 #[],J)|Z=>Z)=_
    rw[show 0+k*1=k by omega,T]
  let⟨y,u,T,M,E,u4⟩:=cl;exact⟨_,_,Cs (CN _) (rT b 0 n e k ae P),_,_,T,_,_,Cs (CN _) (sK b 0 n e k (G)),Da y u M E (x.trans u4)⟩
def uU (S:A9) (L d:Nat) (b:Aa) (h:Y) (W:Nat->Prop) (xs:Bo):Prop:=∃g first cap,b=.func (.func g) first cap/\∀x∈xs,∀y∈xs,∀J,B0 W h J->iB S L d g (aI first++[.int .i64 x,.int .i64 y]++aI cap) J λv a=>U6 v
class gu (S:A9) (L:Nat):Prop extends fy S L where
 b7:∀{h:Y} {N n:Nat} {v:Aa} {ss:BZ},AS h N 9 1 v n (AR ss)->n<=1000000->Bk S L 10 170 [v] h λw J=>B0 (BY v) h J/\∃ss',ss'.Perm ss/\AS J N 9 1 v n (AR ss')
 cc:∀{h:Y} {N n d:Nat} {v fv:Aa} {xs:Bo},AS h N 3 1 v n (Bn xs)->n<=1000000->uU S L d fv h (BY v) xs->Bk S L (d+26) 84 [v,fv] h λw J=>B0 (BY v) h J/\∃xs',xs'.Perm xs/\AS J N 3 1 v n (Bn xs')
def pA [j:gu S L] {es:List CI} {P:Bd->Prop} (q:Dq h v es) (hn:LB es<=1000000) (F:YQ S L 1 fv h es λv=>∃s,v=.string s/\P s):
 iB S L 12 76 [v,fv] h λw J=>∃ss:BZ,AS J h.a 9 1 w (LB ss) (AR ss)/\LB ss<=LB es/\∀s∈ss,P s:=
 Cn f76 λd af hL=>by
  have H:=q;obtain⟨g,first,cap,rfl,K⟩:=F
  obtain⟨hr,M,N,rfl,ag,ah,hA⟩:=q;obtain⟨v5,g5,O,Q⟩:=(aH.nil h).dk (τ:=Ax) (t:=40) (z:=.string ⟨#[]⟩) Kq Kq B 0 (LB es) Jq G .i64 .i64;refine⟨_,_,O,λr A c=>∃(k:Nat) (I:Aa) (ss:BZ),A=[(1,.func (.func g) first cap),(5,I),(11,.slice M (LB es) N),(12,Vi (LB es)),(13,Vi k)]/\k<=LB es/\r=LB es-k/\LB ss=k/\(∀s∈ss,P s)/\aH h c [aS h.a 9 1 I (LB ss) (AR ss)],
   ⟨_,_,Sq,G,0,_,[],B,Al _,B,B,(λs a=>by cases a),Q⟩,?_⟩
  rintro r A c ⟨k,I,ss,rfl,hk,rfl,ai,u,s⟩ aj;apply Bz<;>intro k1
  .have x:k<LB es:=G
   obtain⟨a1,y1,R,_,y⟩:=(Rd.C H s.e).el x;cases R;rw[flatK (f:=BV) (λ_=>B) es (Ab x)] at y;obtain⟨e,T⟩:∃e,e=es[k]:=⟨_,B⟩;rw[←T] at y;let⟨g1,V,l,W,m⟩:=s.va 90 [.string ⟨#[]⟩,.string ⟨#[]⟩,Vi 0,Vi 0,Vi 0] (BV e);refine⟨G,_,EQ Kq Jq B,_,_,V _,_,W,_,EQ Kq ((m.dD 0 B).cells) B,_,K e Jq l m.e d G,?_⟩;rintro _ C ⟨n,b,rfl,X⟩;have D:=(m.C n).drop 1;obtain⟨Z,J,t1,t2⟩:=D.ba Kq (i:=0) B (ys:=[.string b]) B B D.e.a G (n':=(ss++[b]).length) (xs':=AR (ss++[b])) wl (by simp[AR]);refine⟨_,_,i3 40 _ 1 (.string b) C,_,_,t1,Pq,_,_,Sq,G,k+1,Z,ss++[b],B,G,B,Jq,λs a=>?_,t2⟩;rcases dF.1 a with a|a
   .exact u s a
   .rw[bQ.1 a];exact X
  have o:=s.sl 0 B;refine⟨_,j.b7 o G d G,λ_ C ⟨n,ak,E,p⟩=>?_⟩;have aa:=E.length_eq;refine⟨_,AAd p G d G,λw h4 ⟨Y,ab,o4,al,ad⟩=>?_⟩;have ae:=(s.e.then n λi U=>o.ai i U).then Y λi U=>p.ai i U
  exact⟨ae,ab,o4,G,λs a=>u s (E.subset (ad s a))⟩
def Fk (b:Nat):Nat:=if b<128 then 240 else if b<194 then 241 else if b<224 then 2 else if b=224 then 19 else if b=237 then 35 else if b<240 then 3 else if b=240 then 52 else if b<244 then 4 else if b=244 then 68 else 241
def K6:Nat->Nat×Nat
 |0=>(128,191)
 |1=>(160,191)
 |2=>(128,159)
 |3=>(144,191)
 |4=>(128,143)
 |_=>(0,0)
def Ce (h:Y):Prop:=h.t.get 0=I Ft.oB/\h.t.get 1=I Fu.oB/\2<=h.a
def Ce.C (F:Ce h) (x:AA h J):Ce J:=⟨(x.t 0 (AC Jq F.2.2)).trans F.1,(x.t 1 (AC Jq F.2.2)).trans F.2.1,Ao F.2.2 x.a⟩
def lR:A9:={a:=λ_=>Z,M:=λ_=>Z,b:=λ_=>Z,hk:=λ_=>Z,c:=λ_=>Z}
def gm:Y:=Ia Ax ⟨[(0,Ft),(1,Fu)],[],[],.nilFunc,[]⟩
open Classical in
def FH (s:Bd):Bool:=decide (∃J,AA gm J/\∀k kp,B8 Ax lR 1125899906842624 2 (.func 61) [.string s] gm k kp=k (.bool true) J)
def H5 (s:Bd):Nat:=(CA s.size (aI s.data)).length
def El (s:Bd):Int:=if FH s then H5 s else-1
def Po:∀(n m:Nat) (l:Bl),LB l<=n->LB l<=m->CA n l=CA m l
 |_,_,[],_,_=>by rename_i n m _ _;cases n<;>cases m<;>rfl
 |0,_,_::_,h,_=>Jq
 |_,0,_::_,_,h=>Jq
 |
  n+1,m+1,b::l,h1,a=>by
  have c:1<=(FF (b::l)).2:=TU _ _ _ _;simp only[AO] at h1 a;rw[CA,CA,Po n m _ Jq Jq]
class cJ (S:A9) (L:Nat):Prop extends gu S L where
 valid:∀{h:Y} {s:Bd},Ce h->aL s<=100000000->iB S L 5 61 [.string s] h λw J=>w=.bool (FH s)
def Rw (e:p<aL s):(CA (aL s-p) (s.data.toList.drop p)).length=(CA (aL s-(p+(FF (s.data.toList.drop p)).2)) (s.data.toList.drop (p+(FF (s.data.toList.drop p)).2))).length+1:=by
 have a:(s.data.toList.drop p).length=aL s-p:=Jq
 cases c:s.data.toList.drop p with
 |nil=>rw[c] at a;simp at a;omega
 |
  cons b l=>
  rw[c] at a;simp only[AO] at a;have f:1<=(FF (b::l)).2:=TU _ _ _ _;rw[show aL s-p=LB l+1 by omega,CA,AO,←GR,c];have d:((b::l).drop (FF (b::l)).2).length<=LB l:=Jq
  rw[Po (LB l) (aL s-(p+(FF (b::l)).2)) _ d Jq]
def Kp:∀(n:Nat) (l:Bl),(CA n l).length<=n
 |0,_=>Ae _
 |_+1,[]=>Al _
 |n+1,b::l=>by rw[CA,AO];have:=Kp n ((b::l).drop (FF (b::l)).2);omega
def TI (a b c d:Nat):(ZN a b c d).2<=4:=
 Ni (P:=λx:Nat×Nat=>x.2<=4) (by show 1<=4;decide) (Ni (P:=λx:Nat×Nat=>x.2<=4) (Ni (P:=λx:Nat×Nat=>x.2<=4) (by show 2<=4;decide) (by show 1<=4;decide))
  (Ni (P:=λx:Nat×Nat=>x.2<=4) (Ni (P:=λx:Nat×Nat=>x.2<=4) (by show 3<=4;decide) (by show 1<=4;decide)) (Ni (P:=λx:Nat×Nat=>x.2<=4) (Ni (P:=λx:Nat×Nat=>x.2<=4) (by show 4<=4;decide) (by show 1<=4;decide)) (by show 1<=4;decide))))
def SP:∀(n:Nat) (l:Bl),LB l<=n->LB l<=4*(CA n l).length
 |_,[],_=>Al _
 |0,_::_,h=>by simp at h
 |
  n+1,b::l,h=>by
  have c:1<=(FF (b::l)).2:=TU _ _ _ _;have d:(FF (b::l)).2<=4:=TI _ _ _ _;have a:((b::l).drop (FF (b::l)).2).length=(b::l).length-(FF (b::l)).2:=AV;rw[AO] at h a;have:=SP n ((b::l).drop (FF (b::l)).2) G;rw[CA,AO,AO];omega
def VD (h:1<=El s):(aL s:Int)<=4*El s:=by
 have:=SP s.size (aI s.data) (Ae _);have e:LB s.data.toList=aL s:=B;unfold El H5 at*;split at h
 .rw[Bi (by assumption)];omega
 .omega
def YZ (s:Bd):-1<=El s/\El s<=aL s:=by
 have:=Kp s.size (aI s.data);unfold El H5;split<;>omega
def AGa (v:aL s<=100000000):iB S L 1 62 [Sg s] h λw J=>w=Vi (H5 s):=
 Cn f62 λd y C=>by
  have b:=(aH.nil h).add (a:=aB h.a (.str s 0)) (AA.new h (.str s 0)) ⟨by rw[Ck];omega,by rw[CK,Bi B]⟩ λi U=>A2 U.symm;have n:Gh Ax 9 (Sg s) h=I (AG h.a 0,h.new (.str s 0)):=B;have o:=Kp s.size (aI s.data);refine⟨_,_,n,λj A f=>∃p c:Nat,A=[(2,Vi c),(4,AG h.a 0)]/\j=aL s-p/\c+(CA (aL s-p) (s.data.toList.drop p)).length=H5 s/\aH h f [aB h.a (.str s p)],
   ⟨_,_,Sq,?_,0,0,B,B,Ba _,b⟩,?_⟩
  .omega
  rintro j A f ⟨p,c,rfl,rfl,k,b⟩ D;have E:H5 s<=aL s:=o;rcases NE (b.a7 0 B) with⟨l,w,z,q,g⟩|⟨l,g⟩
  .refine⟨_,_,g,?_⟩
   have r:=Rw l;rw[←q.2.1] at r;have t:=b.pu 0 (.str s (p+w)) B;exact⟨Pq,_,_,Sq,G,p+w,c+1,B,B,G,t⟩
  .refine⟨_,_,g,b.e,?_⟩
   rw[show aL s-p=0 by omega,CA] at k;rw[←k];rfl
def gB [a:cJ S L] (f:Ce h) (b:aL s<=100000000):iB S L 6 39 [Sg s] h λw J=>w=Vi (El s):=
 Cn f39 λd i _=>by
  refine cl (a.valid f b) ?_;rintro _ k ⟨c,rfl⟩;refine⟨_,_,B,Ad (λe=>?_) (λe=>?_)⟩
  .exact⟨c,by rw[El,Bm (by simpa using e)];rfl⟩
  refine cl (AGa b) ?_;rintro _ j ⟨g,rfl⟩;exact⟨c.trans g,by rw[El,Bi (by simpa using e)];rfl⟩
def gA:Bk S L 1 156 [.int .i32 z] h λw J=>J=h/\∃c:Int,w=Vi c/\0<=c/\c<=6:=
 Cn f156 λd b _=>by
  repeat' first
   |exact⟨rfl,_,rfl,Jq,Jq⟩
   |apply Ad<;>intro _
def ADr:Bk S L 2 323 [.int .i32 z] h λw J=>J=h/\∃b,w=.bool b:=
 Cn f323 λd e _=>by
  apply Ad<;>intro _
  .refine cl (gA) ?_
   rintro _ a ⟨rfl,c,rfl,_,_⟩;exact⟨B,_,B⟩
  .exact⟨B,_,B⟩
def ABz:Bk S L 1 324 [.int .i32 z] h λw J=>J=h/\∃b,w=.bool b:=
 Cn f324 λd c _=>by
  repeat' first
   |exact⟨rfl,_,rfl⟩
   |apply Ad<;>intro _
def AAo [cJ S L] (g:Ce h) (f:aL s<=100000000):iB S L 7 253 [Sg s] h λw J=>∃b,w=.bool b/\(b=Ag->1<=El s):=
 Cn f253 λd k _=>by
  refine cl (gB g f) ?_;rintro _ a ⟨c,rfl⟩;apply Ad<;>intro i
  .apply Ad<;>intro l
   .refine cl (kH f ⟨323,#[],#[],B,λz J _=>ADr⟩) ?_
    rintro _ m ⟨j,b,rfl⟩;exact⟨_,_,B,c.trans j,_,B,λ_=>Fp i⟩
   .exact⟨c,_,B,λh=>Jq⟩
  .exact⟨c,_,B,λh=>Jq⟩
def AEo [cJ S L] (j:Ce h) (g:aL s<=100000000):iB S L 7 254 [Sg s] h λw J=>∃b,w=.bool b/\(b=Ag->aL s<=256):=
 Cn f254 λd l _=>by
  refine cl (gB j g) ?_;rintro _ a ⟨c,rfl⟩;apply Ad<;>intro f
  .apply Ad<;>intro i
   .refine cl (kH g ⟨324,#[],#[],B,λz J _=>ABz⟩) ?_
    rintro _ m ⟨k,b,rfl⟩;refine⟨_,_,B,c.trans k,_,B,λ_=>?_⟩;have f:=Fp f;have i:=Fp i;have:=VD f;omega
   .exact⟨c,_,B,λh=>Jq⟩
  .exact⟨c,_,B,λh=>Jq⟩
def CI.ok (n:Nat) (e:CI):Prop:=(0<=e.l/\e.l<n)/\(0<=e.r/\e.r<n)/\(0<=e.c/\e.c<=30000)/\1<=El e.rd
def tk [cJ S L] (m:Ce h) {e:CI} (f:aL e.rd<=100000000) (D:aL e.b<=100000000):iB S L 8 163 [.agg ⟨BV e⟩,Vi n] h λw J=>∃z:Int,w=Vi z/\(z=0->e.ok n/\aL e.b<=256):=
 Cn f163 λd V _=>by
  let⟨g,y,x,o⟩:=PF e h;have a:∀{H:Y} z,z≠0->AA h H->AA h H/\∃p:Int,Vi z=Vi p/\(p=0->e.ok n/\aL e.b<=256):=λz E x=>⟨x,z,B,λh=>Cf h E⟩;refine⟨_,_,y,_,ld B (o.cell B),_,AAo (m.C x) f d G,?_⟩;rintro _ W ⟨q,b,rfl,F⟩;have r:=o.C q;have j:=x.trans q;refine⟨_,_,B,Ad (λs=>?_) (λs=>?_)⟩
  .exact a 5 Jq j
  refine⟨_,ld B (r.cell B),_,AEo (m.C j) D d G,?_⟩;rintro _ X ⟨t,K,rfl,M⟩;have l:=r.C t;have c:=j.trans t;have u:=l.cell (i:=2) B;have v:=l.cell (i:=3) B;have A:=l.cell (i:=4) B;refine⟨_,_,B,Ad (λC=>?_) (λC=>?_)⟩
  .exact a 5 Jq c
  refine⟨_,ld B u,Bz (λN=>?_) (λN=>?_)⟩
  .exact a 150 Jq c
  refine⟨_,ld B u,Bz (λO=>?_) (λO=>?_)⟩
  .exact a 150 Jq c
  refine⟨_,ld B v,Bz (λP=>?_) (λP=>?_)⟩
  .exact a 150 Jq c
  refine⟨_,ld B v,Bz (λQ=>?_) (λQ=>?_)⟩
  .exact a 150 Jq c
  refine⟨_,ld B A,Bz (λR=>?_) (λR=>?_)⟩
  .exact a 6 Jq c
  refine⟨_,ld B A,Bz (λT=>?_) (λT=>?_)⟩
  .exact a 6 Jq c
  exact⟨c,0,B,λ_=>⟨⟨G,G,G,F Jq⟩,M Jq⟩⟩
def Sw (ps:List JT):Prop:=1<=LB ps/\LB ps<=64/\∀q∈ps,q.1.size<=16/\0<=q.2/\q.2<=2
def wz [cJ S L] (T:Ce h) {a:Aa} {ps:List JT} {es:List CI} (p:Gt h pv ps) (V:LB ps<=100000000) (E:Dq h ev es) (hn:LB es<=100000000) (F:∀e∈es,aL e.rd<=100000000/\aL e.b<=100000000)
 (r:a=.pointer Z\/∃b n:Nat,a=AG b 0/\aC h b 0 (Vi n)):
 iB S L 9 73 [pv,a,ev] h λw J=>∃z:Int,w=Vi z/\(z=0->Sw ps/\a≠.pointer Z/\LB es<=20000/\(∀e∈es,e.ok (LB ps))/\∀b n:Nat,a=AG b 0->aC h b 0 (Vi n)->n=LB ps):=
 Cn f73 λd ad hL=>by
  have W:=p;have X:=E;obtain⟨hr,A0,c0,rfl,ae,af,hA⟩:=p;obtain⟨ag,aa,U,rfl,ah,ai,aj⟩:=E;have j:∀{H:Y} z,z≠0->AA h H->AA h H/\∃K:Int,Vi z=Vi K/\(K=0->Sw ps/\a≠.pointer Z/\LB es<=20000/\(∀e∈es,e.ok (LB ps))/\∀b n:Nat,a=AG b 0->aC h b 0 (Vi n)->n=LB ps):=λz u x=>⟨x,z,B,λh=>Cf h u⟩;refine cl (nP W V) ?_;rintro _ h1 ⟨c,z,rfl,u⟩;apply Ad<;>intro e1
  .exact j 5 Jq c
  rcases r with rfl|⟨b,n,rfl,M⟩
  .exact⟨_,B,j 9 xc c⟩
  refine⟨_,B,GZ (th (M.C c) d G) ?_⟩;apply Ad<;>intro v
  .exact j 5 Jq c
  have v:n=LB ps:=Gq;apply Bz<;>intro e3
  .exact j 2 Jq c
  refine⟨λN A m=>∃k:Nat,A=[(0,.slice A0 (LB ps) c0),(27,.slice aa (LB es) U),(28,Vi (LB es)),(29,Vi k)]/\k<=LB es/\N=LB es-k/\(∀e∈es.take k,e.ok (LB ps))/\AA h m,
   ⟨_,_,Sq,G,0,B,Al _,B,(λe s=>by simp at s),c⟩,?_⟩
  rintro N A m ⟨k,rfl,hk,rfl,y,x⟩ ak;apply Bz<;>intro k1;rotate_left
  .obtain rfl:k=LB es:=G
   rw[CS] at y;exact⟨x,0,B,λ_=>⟨u Jq,(λh=>by cases h),G,y,λb' n' hb' c'=>by
    cases hb';have:=c'.inj M;injection this with _ this;omega⟩⟩
  have C:k<LB es:=G;obtain⟨a1,y1,t,_,O⟩:=(Rd.C X x).el C;cases t;rw[flatK (f:=BV) (λ_=>B) es (Ab C)] at O;obtain⟨e,s⟩:∃e,e=es[k]:=⟨_,B⟩;have r:e∈es:=Gq;rw[←s] at O;let⟨g1,z1,P,z2,D⟩:=(aH.nil m).va 90 [Sg ⟨#[]⟩,Sg ⟨#[]⟩,Vi 0,Vi 0,Vi 0] (BV e);refine⟨G,_,EQ Kq Jq B,_,_,z1 _,_,z2,_,EQ Kq ((D.dD 0 B).cells) B,_,tk (T.C (x.trans D.e)) (F e r).1 (F e r).2 d G,?_⟩;rintro _ h3 ⟨o,i,rfl,ab⟩;have Q:=(x.trans D.e).trans o;apply Ad<;>intro R
  .exact j i Jq Q
  refine⟨Pq,_,_,CG (l:=[(0,_),(27,_),(28,_),(29,Vi ((k+1)))]) ⟨B,B,B,Cs (λz=>I (Vi z)) (G),trivial⟩,(show LB es-(k+1)<LB es-k by omega),k+1,B,G,B,λq g=>?_,Q⟩;rw[A5 C] at g;rcases dF.1 g with g|g
  .exact y q g
  .rw[bQ.1 g,←s];exact (ab Jq).1
class d9 (S:A9) (L:Nat):Prop extends cJ S L where
 cw:∀{h:Y} {v:Aa} {es:List CI},Dq h v es->LB es<=20000->iB S L 10 74 [v] h λw J=>∃C3:List CI,AS J h.a 90 5 w (LB C3) (C3.flatMap BV)/\LB C3<=LB es/\∀e'∈C3,∃e∈es,∃e2∈es,e'.rd=e.rd/\e'.b=e.b/\e'.l=e.l/\e'.r=e.r/\e'.c=e2.c
def rX:CI:=⟨⟨#[]⟩,⟨#[]⟩,0,0,0⟩
def Aib (m:Nat):Dy (AJ (.agg #[Sg ⟨#[]⟩,Sg ⟨#[]⟩,Vi 0,Vi 0,Vi 0])) m=(AE m rX).flatMap BV:=by
 induction m with
 |zero=>rfl
 |succ m a=>rw[Dy,a];rfl
def SS:∀(vs ys rest:AH),LB vs=LB ys->I2 (ys++rest) 0 vs=vs++rest
 |[],[],_,_=>rfl
 |v::vs,y::ys,rest,h=>by
  have e:=NF [v] vs (ys++rest) 0;rw[(SS vs ys rest Jq)] at e;exact e
 |[],_::_,_,h=>Jq
 |_::_,[],_,h=>Jq
def nY {b:Type} {f:b->AH} {K:Nat} (c:∀a,(f a).length=K) (l:List b) (d:k<LB l) (a:b):I2 (l.flatMap f) (k*K) (f a)=(l.set k a).flatMap f:=by
 have e:l.set k a=l.take k++a::l.drop (k+1):=by
  rw[List.set_eq_take_append_cons_drop,Bi d]
 have g:l.flatMap f=(l.take k).flatMap f++(f l[k]++(l.drop (k+1)).flatMap f):=by
  conv=>lhs;rw[(by rw[List.getElem_cons_drop,FO]:l=l.take k++l[k]::l.drop (k+1))]
  rw[E0,Dg]
 rw[g,e,E0,Dg];have:=NF ((l.take k).flatMap f) (f a) (f l[k]++(l.drop (k+1)).flatMap f) 0;rw[(by rw[HV c,Cg,N4 G]:((l.take k).flatMap f).length=k*K)] at this;have this:I2 ((l.take k).flatMap f++(f l[k]++(l.drop (k+1)).flatMap f)) (k*K) (f a)=_:=this;rw[this,SS _ _ _ Jq]
def AS.dd (o:AS h N e k (sL b n n) n xs):aQ h b e xs:=by
 obtain⟨f,⟨a,_⟩|⟨i,c,sp,a,_,_,g,d⟩⟩:=o
 .cases a
 .cases a
  rw[Aj,f] at g;have:sp=[]:=BO G;rw[this,Fb] at d;exact d
def aQ.bN (o:aQ h b e xs) (a:LB xs=n*k) (c:N<=b):AS h N e k (sL b n n) n xs:=
 ⟨a,.inr ⟨b,n,[],B,c,Ae _,Jq,Jq⟩⟩
def Gy.O {K V:Aa->Prop} (m:Gy h r K V) (c:B0 W h J) (a:¬W r):Gy J r K V:=(aM r K V).a c (λi U=>U▸a) m
def AS.aX (o:AS h N e k v n xs):∃A n c,v=.slice A n c:=by
 let⟨_,A,c,e,_⟩:=o.rd;exact⟨A,n,c,e⟩
def rB {l:Bo} (r:Rd h v 1 (LB l) (Bn l)):Rd h v 1 (l.map λx:Nat=>(x:Int)).length (Ew (l.map λx:Nat=>(x:Int))):=by
 rw[Ze] at r;rw[A4];exact r
def zu (a b c d e f g h i j k:Bd) (l m n o p q r s t u v:Option BD) (w x y z A C J D G E F K c1 L S R M N Q P O B:Nat) (H:Y):
 Bs Ax 127 11 [(0,.agg ⟨[Sg a,.slice l w K]⟩),(1,.agg ⟨[Sg b,.slice m x c1]⟩),(2,.agg ⟨[Sg c,.slice n y L]⟩),(3,.agg ⟨[Sg d,.slice o z S]⟩),(4,.agg ⟨[Sg e,.slice p A R]⟩),(5,.agg ⟨[Sg f,.slice q C M]⟩),(6,.agg ⟨[Sg g,.slice r J N]⟩),(7,.agg ⟨[Sg h,.slice s D Q]⟩),(8,.agg ⟨[Sg i,.slice t G P]⟩),(9,.agg ⟨[Sg j,.slice u E O]⟩),(10,.agg ⟨[Sg k,.slice v F B]⟩)] H=
 I (sL H.a 11 11,BN H 184 [Sg a,.slice l w K,Sg b,.slice m x c1,Sg c,.slice n y L,Sg d,.slice o z S,Sg e,.slice p A R,Sg f,.slice q C M,Sg g,.slice r J N,Sg h,.slice s D Q,Sg i,.slice t G P,Sg j,.slice u E O,Sg k,.slice v F B]):=by
 kernel_rfl
def pC [q:d9 S L] (bz:Ce h) {mv:Aa} {ps:List JT} {es:List CI} (qq:G3 h) (p:Gt h pv ps) (hp:LB ps<=100000000) (en:Dq h ev es) (hn:LB es<=100000000) (b0:∀e∈es,aL e.rd<=100000000/\aL e.b<=100000000)
 (hm:mv=.pointer Z\/∃(b r:Nat) (df:Int) (l:GX),mv=AG b 0/\∃m:Nat,F6 h b m df r l/\EJ m l/\m<=64/\LB l<=100000):
 iB S L 30 48 [pv,mv,ev] h λw J=>∃(o:Aa) (z:Int),w=.tuple #[o,Vi z]/\(z=0->(Sw ps/\∀e∈es,e.ok (LB ps))/\(∀b n:Nat,mv=AG b 0->aC h b 0 (Vi n)->n=LB ps)/\∃bs:Bl,LB bs<=20000000/\AS J h.a 5 1 o (LB bs) (Ay bs)):=
 Cn f48 λd dg hL=>by
  have am:∀{H:Y} (z:Int),z≠0->AA h H->AA h H/\∃(o:Aa) (z':Int),C4 #[sN,Vi z]=.tuple #[o,Vi z']/\(z'=0->(Sw ps/\∀e∈es,e.ok (LB ps))/\(∀b n:Nat,mv=AG b 0->aC h b 0 (Vi n)->n=LB ps)/\∃bs:Bl,LB bs<=20000000/\AS H h.a 5 1 o (LB bs) (Ay bs)):=λz hz x=>⟨x,_,z,B,λh=>Cf h hz⟩;obtain⟨g0,y0,s0⟩:=(aH.nil h).box Ax 24 ev;have ca:AJ ev=[ev]:=by
   obtain⟨_,A,c,rfl,_⟩:=en;rfl
  rw[ca] at s0;have x0:=s0.e;have c5:aC g0 h.a 0 ev:=s0.q 0 _ B B;refine⟨_,_,y0,_,ld B c5,_,wz (bz.C x0) (Rd.C p x0) hp (Rd.C en x0) hn b0 (hm.imp id λ⟨b,r,df,l,e,m,M,_⟩=>⟨b,m,e,(M.C x0).2.1⟩) d G,?_⟩;rintro _ h1 ⟨x1,z,rfl,hz⟩;have s1:=s0.C x1;apply Ad<;>intro e1
  .exact am z Jq s1.e
  obtain⟨cb,cd,ce,cf,cg⟩:=hz Jq;obtain⟨b,r,df,l,rfl,m,M,mo,ch,ci⟩:=hm.resolve_left cd;refine⟨_,ld B (c5.C x1),_,q.cw (Rd.C en s1.e) ce d G,?_⟩;rintro X C ⟨x2,es2,ay,dh,di⟩;have az:=ay.rd;have D:=s1.C x2;obtain⟨h3,u3,s3,v3⟩:=D.a5 (τ:=Ax) (t:=24) B (i:=0) B (by show 0<1;decide) (Rd.one az);have c3:aC h3 h.a 0 X:=s3.q 0 _ B B;have cj:∀i,BY X i->i≠h.a:=λi U E=>by
   have q1:=ay.ai i U;have q2:=(s0.dD 0 B).1;have q3:=x1.a;omega
  have a0:=Rd.O az v3.O λi U=>cj i U;refine⟨_,u3,_,ld B c3,_,pA (P:=λ_=>True) a0 G ⟨77,#[],#[],B,λe _ J _=>(wx).mono λv C E=>⟨E.1,_,E.2,trivial⟩⟩ d G,?_⟩;rintro w4 h4 ⟨x4,dj,o4,dk,_⟩;have s4:=s3.C x4;refine cl (ly o4.rd) ?_;rintro _ h5 ⟨x5,⟨e,he,rfl⟩|⟨b9,t9,rfl,ck,dl,_⟩⟩
  .apply Ad<;>intro k
   .exact am 2 Jq (s4.C x5).e
   .have:e=0:=by simpa using k
    omega
  have s5:=s4.C x5;have hU:=(c3.C x4).C x5;have a2:=Rd.C (Rd.C a0 x4) x5;refine⟨_,ld B hU,_,pA (P:=λ_=>True) a2 G ⟨78,#[],#[],B,λe _ J _=>(ww).mono λv C E=>⟨E.1,_,E.2,trivial⟩⟩ d G,?_⟩;rintro w6 h6 ⟨x6,dm,o6,dn,_⟩;refine cl (ly o6.rd) ?_;rintro _ g ⟨x7,⟨e,he,rfl⟩|⟨an,t11,rfl,ao,dp,_⟩⟩
  .apply Ad<;>intro k
   .exact am 2 Jq ((s5.C x6).C x7).e
   .have:e=0:=by simpa using k
    omega
  have s7:=(s5.C x6).C x7;have ad:=s7.e;have s8:=(aH.nil g).mk Fh KM;obtain⟨g9,y9,s9⟩:=s8.O (z:=.map Z) Kq;obtain⟨dq,cm,a3⟩:=s9.sT 173 0 0 (.map (I g.a)) B (Ac B) B;refine⟨_,_,y9 _,_,cm,GZ (jz (ao.C a3.e) d G) ?_⟩;refine⟨λV A E=>∃k:Nat,A=[(0,pv),(1,AG b 0),(5,AG h.a 0),(9,AG b9 0),(11,AG an 0),(12,AG (g.new (.map [] 0)).a 0),(53,Vi (LB t11.M)),(54,Vi k)]/\k<=LB t11.M/\V=LB t11.M-k/\aH g E [aO (g.new (.map [] 0)).a 173 [.map (I g.a)],aM g.a Fh KM],
   ⟨_,_,Sq,G,0,B,Al _,B,a3⟩,?_⟩
  rintro V A E ⟨k,rfl,hk,rfl,s⟩ a4;have gC:=s.q 0 0 B (v:=.map (I g.a)) B;apply Bz<;>intro k1
  .refine cl (lu (ao.C s.e)) ?_
   rintro _ h8 ⟨x8,st,dr,rfl,ds,_⟩;have D:=s.C x8;obtain⟨h9,u9,s9⟩:=D.up (τ:=Ax) (t:=173) (kt:=9) (et:=3) (i:=1) B Kq MV (k:=.string st) (v:=Vi k) ⟨st,B⟩ ⟨k,B,G,G⟩;exact⟨_,ld B (gC.C x8),_,_,(by rw[u9];rfl:Nb (BH Ax 173 (.map (I g.a)) (Sg st) (Vi k) h8)=I (.tuple #[],h9)),Pq,_,_,Sq,G,k+1,B,G,B,s9⟩
  have cn:aC E h.a 0 X:=((hU.C x6).C x7).C s.e;refine cl (wv (Rd.C (Rd.C p ad:Gt g pv ps) s.e) G) ?_;rintro _ cp ⟨ap,dt,du,a5,rfl,dv,a6⟩;obtain⟨ae,af,PT,rfl⟩:=a6.aX;have a7:=cn.C ap;have a8:Dq cp X es2:=Rd.C (Rd.C (Rd.C (Rd.C a2 x6) x7:Dq g X es2) s.e) ap;refine⟨_,ld B a7,_,pr a8 G ⟨83,#[],#[],B,λe f J _=>wu⟩ d G,?_⟩;rintro a9 u ⟨ag,dw,cq,dx,dy⟩;have aq:=(s.C ap).C ag;have ah:=a7.C ag;have ai:Dq u X es2:=Rd.C a8 ag;obtain⟨ab,k5,rfl⟩:∃A c,X=.slice A (LB es2) c:=by
   obtain⟨_,A,c,e,_⟩:=ai;exact⟨A,c,e⟩
  obtain⟨g8,y8,x8,o8,n8⟩:=MA (τ:=Ax) (t:=50) (e:=3) (z:=Vi 0) Kq Kq B (LB es2) G .i64 .i64 u;rw[show AE (LB es2) (Vi 0)=Bn (AE (LB es2) 0) by simp[Bn]] at o8;have s8:=aq.add (a:=aO u.a 3 (Bn (AE (LB es2) 0))) x8 o8 λi U=>A2 U.symm;refine⟨_,ld B ah,_,_,y8,λV A C=>∃(k:Nat) (us:Bo),A=[(1,AG b 0),(5,AG h.a 0),(9,AG b9 0),(11,AG an 0),(12,AG (g.new (.map [] 0)).a 0),(16,.slice ae af PT),(18,a9),(19,sL u.a (LB es2) (LB es2)),(78,Vi (LB es2)),(79,Vi k)]/\k<=LB es2/\V=LB es2-k/\LB us=LB es2/\(∀x∈us,x<LB es2)/\AA u C/\aH g C [aO u.a 3 (Bn us),aO (g.new (.map [] 0)).a 173 [.map (I g.a)],aM g.a Fh KM],
   ⟨_,_,Sq,G,0,_,B,Al _,B,by simp,?_,x8,s8⟩,?_⟩
  .intro x W
   obtain⟨q1,q2⟩:=List.mem_replicate.1 W;omega
  rintro V A C ⟨k,us,rfl,hk,rfl,ba,aj,N,D⟩ a4;apply Bz<;>intro k1
  .obtain⟨h3,u3,s3,v3⟩:=D.a5 (τ:=Ax) (t:=3) B (i:=0) B (j:=k) (v:=Vi k) (by rw[HO];omega) B
   rw[show(Bn us).set k (Vi k)=Bn (us.set k k) by simp[Bn,Cp]] at s3;refine⟨G,_,Jp u3 (by show 0+k*1=k;omega),Pq,_,_,Sq,G,k+1,_,B,G,B,by simp;exact ba,?_,N.then v3.O (λi U=>by rw[U];omega),s3⟩
   intro y hy;rcases BT hy with hy|rfl
   .exact aj y hy
   .omega
  have oS:AS C u.a 3 1 (sL u.a (LB es2) (LB es2)) (LB es2) (Bn us):=(D.dD 0 B).bN (by rw[HO];omega) (Ae _);have n1:(g.new (.map [] 0)).a<u.a:=(aq.dD 0 B).1;have n2:g.a<u.a:=(aq.mw 1 B).1;have n3:h.a<u.a:=ah.1;have gC:aC C (g.new (.map [] 0)).a 0 (.map (I g.a)):=D.q 1 0 B B;have m12:Gy C g.a Fh KM:=D.mw 2 B;have lC:=ah.C N;have cr:Dq C (.slice ab (LB es2) k5) es2:=Rd.C ai N;refine cl (q.cc (d:=1) oS G ⟨85,#[],#[AG (g.new (.map [] 0)).a 0,AG h.a 0],B,λx W y hy J c=>wq (gC.O c (by show¬_=u.a;omega)) (m12.O c (by show¬_=u.a;omega)) (lC.O c (by show¬_=u.a;omega)) (Rd.O cr c λi U=>by have:=Rd.aw ai i U;show¬i=u.a;omega) (aj x W) (aj y hy)⟩) ?_;rintro _ O ⟨bb,Q,bc,cs⟩;have ct:aH g O [aO u.a 3 (Bn Q),aO (g.new (.map [] 0)).a 173 [.map (I g.a)],aM g.a Fh KM]:=D.ah 0 B (a':=aO u.a 3 (Bn Q)) bb cs.dd λi U=>.inl U;have ak:AA u O:=N.then bb λi U=>by rw[show i=u.a from U];exact Ae _
  have cu:LB Q=LB es2:=by rw[bc.length_eq];exact ba
  have cv:∀x∈Q,x<LB es2:=λx W=>aj x (bc.subset W);have ar:=ah.C ak;have bd:Dq O (.slice ab (LB es2) k5) es2:=Rd.C ai ak;obtain⟨dz,cw,be,bf,_⟩:=YH (τ:=Ax) (t:=24) (e:=90) (k:=5) (z:=.agg #[Sg ⟨#[]⟩,Sg ⟨#[]⟩,Vi 0,Vi 0,Vi 0]) Kq Kq (LB es2) (LB es2) (Ae _) G .i64 .i64 O;rw[Aib] at bf;have cx:=ct.add (a:=aO O.a 90 ((AE (LB es2) rX).flatMap BV)) be bf λi U=>A2 U.symm;refine⟨_,ld B ar,_,_,cw,λV A C=>∃(k:Nat) (T:List CI),A=[(1,AG b 0),(5,AG h.a 0),(9,AG b9 0),(11,AG an 0),(12,AG (g.new (.map [] 0)).a 0),(16,.slice ae af PT),(18,a9),(19,sL u.a (LB es2) (LB es2)),(21,sL O.a (LB es2) (LB es2)),(93,sL u.a (LB es2) (LB es2)),(94,Vi (LB es2)),(95,Vi k)]/\k<=LB es2/\V=LB es2-k/\LB T=LB es2/\AA O C/\aH g C [aO O.a 90 (T.flatMap BV),aO u.a 3 (Bn Q),aO (g.new (.map [] 0)).a 173 [.map (I g.a)],aM g.a Fh KM],
   ⟨_,_,Sq,G,0,_,B,Al _,B,by simp,be,cx⟩,?_⟩
  rintro V A C ⟨k,T,rfl,hk,rfl,au,N,D⟩ a4;apply Bz<;>intro k1
  .have bg:k<LB Q:=G
   obtain⟨x,W⟩:∃x,x=Q.getD k 0:=⟨_,B⟩;have bh:x<LB es2:=by
    rw[W,Ak,Ab bg];exact cv _ (Bu _)
   have q1:Bw Ax 3 C u.a (0+((k:Int)).toNat*t3.size)=I (Vi x):=by
    rw[W];exact Dz (ld B (D.q 1 _ B (GH bg))) (by show 0+k*1=k;omega)
   obtain⟨a1,y1,e9,_,q2⟩:=(Rd.C bd N).el bh;cases e9;rw[flatK (f:=BV) (λ_=>B) es2 (Ab bh)] at q2;obtain⟨e,he⟩:∃e,e=es2[x]:=⟨_,B⟩;rw[←he] at q2;obtain⟨h3,u3,o3,v3⟩:=(D.dD 0 B).bD (τ:=Ax) (t:=90) (k:=5) Kq (i:=k*5) (vs:=BV e) B (by rw[(HV (f:=BV) (λ_=>B) T:(T.flatMap BV).length=LB T*5)];show k*5+5<=_;omega) B;rw[nY (f:=BV) (K:=5) (λ_=>B) T G e] at o3;exact⟨G,_,q1,_,ld B (ar.C N),G,_,EQ (k:=5) Kq (show BK C a1.block (a1.off+(x:Int).toNat*5) (BV e) from q2) B,G,_,Jp u3 (by show 0+k*5=k*5;omega),Pq,_,_,Sq,G,k+1,_,B,G,B,by simp;exact au,N.then v3.O (λi U=>by rw[U];exact Ae _),(D.ah 0 B v3.O o3 λi U=>.inl U:aH g h3 [aO O.a 90 ((T.set k e).flatMap BV),aO u.a 3 (Bn Q),aO (g.new (.map [] 0)).a 173 [.map (I g.a)],aM g.a Fh KM])⟩
  have R:Dq C (sL O.a (LB es2) (LB es2)) T:=by
   have:=(D.dD 0 B).dB (n:=LB es2) (k:=5) (by rw[HV (f:=BV) (k:=5) (λ_=>B),au]);rw[←au] at this⊢;exact this
  have cy:=ad.trans D.e;have cz:Rd C (sL u.a (LB es2) (LB es2)) 1 (Q.map λx:Nat=>(x:Int)).length (Ew (Q.map λx:Nat=>(x:Int))):=by
   have:=(D.dD 1 B).dB (n:=LB es2) (k:=1) (by rw[HO];omega);rw[Ze] at this;rw[A4,cu];exact this
  have gC:aC C (g.new (.map [] 0)).a 0 (.map (I g.a)):=D.q 2 0 B B;have m12:Gy C g.a Fh KM:=D.mw 3 B;have cc:=ar.C N;have al:Dq C (.slice ab (LB es2) k5) es2:=Rd.C bd N;have c0:=(M.C ad).C D.e;have da:=((ck.C x6).C x7).C D.e;have db:=(qq.C ad).C D.e;have av:∀l:Bo,(l.map λx:Nat=>(x:Int)).length=LB l:=λl=>by simp
  refine cl (pr R G ⟨86,#[],#[],B,λe f J _=>wp⟩) ?_;rintro ea k0 ⟨bi,eb,dc,ec,ed⟩;refine cl (ADj (c0.C bi) mo ch ci) ?_;rintro o1 k1 ⟨y1,b1,ee,w1⟩;obtain⟨A1,n1,c1,rfl⟩:=w1.aX;have z1:=bi.trans y1;refine cl (mR (da.C z1)) ?_;rintro o2 k2 ⟨y2,b2,ef,w2⟩;obtain⟨bj,n2,c2,rfl⟩:=w2.aX;have z2:=z1.trans y2;refine cl (kJ ((rB (cq.rd.C (ak.trans N))).C z2) (by rw[av];omega)) ?_;rintro o3 k3 ⟨y3,b3,eg,w3⟩;obtain⟨bk,n3,c3,rfl⟩:=w3.aX;have z3:=z2.trans y3;refine cl (mR ((ao.C D.e).C z3)) ?_;rintro o4 k4 ⟨y4,b4,eh,w4⟩;obtain⟨bl,n4,c4,rfl⟩:=w4.aX;have z4:=z3.trans y4;refine cl (jy (cc.C z4) (Rd.C al z4) G ⟨92,#[],#[AG (g.new (.map [] 0)).a 0],B,λe _ J x=>AGd ((gC.C z4).C x) (m12.O ((z4.trans x).O λ_=>False) (λh=>h))⟩) ?_;rintro o5 ei ⟨y5,b5,ej,w5⟩;obtain⟨ab,n5,c5,rfl⟩:=w5.aX;have z5:=z4.trans y5;refine cl (jy (cc.C z5) (Rd.C al z5) G ⟨93,#[],#[],B,λe _ J x=>(ABe).mono λv C E=>⟨E.1,_,E.2⟩⟩) ?_;rintro o6 k6 ⟨y6,b6,ek,w6⟩;obtain⟨bm,n6,c6,rfl⟩:=w6.aX;have z6:=z5.trans y6;refine cl (jy (cc.C z6) (Rd.C al z6) G ⟨94,#[],#[],B,λe _ J x=>(ADx).mono λv C E=>⟨E.1,_,E.2⟩⟩) ?_;rintro o7 k7 ⟨y7,b7,eo,w7⟩;obtain⟨bn,n7,c7,rfl⟩:=w7.aX;have z7:=z6.trans y7;refine cl (jy (cc.C z7) (Rd.C al z7) G ⟨95,#[],#[],B,λe _ J x=>(ACd).mono λv C E=>⟨E.1,_,E.2⟩⟩) ?_;rintro o8 k8 ⟨y8,b8,ep,w8⟩;obtain⟨bo,n8,c8,rfl⟩:=w8.aX;have z8:=z7.trans y8;refine cl (kJ (cz.C z8) (by rw[av];omega)) ?_;rintro o9 k9 ⟨y9,bp,er,w9⟩;obtain⟨bq,n9,c9,rfl⟩:=w9.aX;refine cl (kJ ((((((((((rB dc.rd).C y1).C y2).C y3).C y4).C y5).C y6).C y7).C y8).C y9) (by rw[av];omega)) ?_;rintro ew aa ⟨br,bt,ex,aw⟩;obtain⟨bu,bv,jF,rfl⟩:=aw.aX;have bw:=(z8.trans y9).trans br;obtain⟨parts,ax⟩:∃parts:List DQ,parts=[⟨⟨#[112,111,115]⟩,.slice ae af PT,a5⟩,⟨⟨#[109,97,116,114,105,120]⟩,.slice A1 n1 c1,b1⟩,⟨⟨#[114,101,97,100,105,110,103,115]⟩,.slice bj n2 c2,b2⟩,⟨⟨#[102,105,114,115,116]⟩,.slice bk n3 c3,b3⟩,⟨⟨#[115,117,114,102,97,99,101,115]⟩,.slice bl n4 c4,b4⟩,⟨⟨#[115,117,114,102,97,99,101]⟩,.slice ab n5 c5,b5⟩,⟨⟨#[108,101,102,116]⟩,.slice bm n6 c6,b6⟩,⟨⟨#[114,105,103,104,116]⟩,.slice bn n7 c7,b7⟩,⟨⟨#[99,111,115,116]⟩,.slice bo n8 c8,b8⟩,⟨⟨#[111,114,100,101,114]⟩,.slice bq n9 c9,bp⟩,⟨⟨#[97,116]⟩,.slice bu bv jF,bt⟩]:=⟨_,B⟩;have zz:=bw.trans (AA.row aa 184 (parts.flatMap Fj));have P:EC (BN aa 184 (parts.flatMap Fj)) (sL aa.a (LB parts) (LB parts)) parts:=by
   refine⟨(aQ.row aa 184 (parts.flatMap Fj)).dB (n:=LB parts) (k:=2) (HV (f:=Fj) (λ_=>B) parts),λp hp=>?_⟩;have f9:=br;have f8:=y9.trans f9;have f7:=y8.trans f8;have f6:=y7.trans f7;have f5:=y6.trans f6;have f4:=y5.trans f5;have f3:=y4.trans f4;have f2:=y3.trans f3;have F:∀{v:Aa} {bs:Bl},Rd aa v 1 (LB bs) (Ay bs)->Rd (BN aa 184 (parts.flatMap Fj)) v 1 (LB bs) (Ay bs):=λo=>o.C (AA.row _ _ _);rw[ax] at hp;simp only[bZ,List.mem_nil_iff,or_false] at hp;rcases hp with rfl|rfl|rfl|rfl|rfl|rfl|rfl|rfl|rfl|rfl|rfl
   .exact⟨Ac (by rfl),by show LB a5<=16777216;omega,F ((((a6.rd.C ag).C (ak.trans N))).C bw)⟩
   .exact⟨Ac (by rfl),by show LB b1<=16777216;omega,F (w1.rd.C (y2.trans f2))⟩
   .exact⟨Ac (by rfl),by show LB b2<=16777216;omega,F (w2.rd.C f2)⟩
   .exact⟨Ac (by rfl),by show LB b3<=16777216;omega,F (w3.rd.C f3)⟩
   .exact⟨Ac (by rfl),by show LB b4<=16777216;omega,F (w4.rd.C f4)⟩
   .exact⟨Ac (by rfl),by show LB b5<=16777216;omega,F (w5.rd.C f5)⟩
   .exact⟨Ac (by rfl),by show LB b6<=16777216;omega,F (w6.rd.C f6)⟩
   .exact⟨Ac (by rfl),by show LB b7<=16777216;omega,F (w7.rd.C f7)⟩
   .exact⟨Ac (by rfl),by show LB b8<=16777216;omega,F (w8.rd.C f8)⟩
   .exact⟨Ac (by rfl),by show LB bp<=16777216;omega,F (w9.rd.C f9)⟩
   .exact⟨Ac (by rfl),by show LB bt<=16777216;omega,F (aw.rd)⟩
  have bx:=cy.trans zz;clear w1 w2 w3 w4 w5 w6 w7 w8 w9 aw;rw[(by rw[ax];rfl:parts.length=11)] at P;subst ax;refine⟨_,_,zu ⟨#[112,111,115]⟩ ⟨#[109,97,116,114,105,120]⟩ ⟨#[114,101,97,100,105,110,103,115]⟩ ⟨#[102,105,114,115,116]⟩ ⟨#[115,117,114,102,97,99,101,115]⟩ ⟨#[115,117,114,102,97,99,101]⟩ ⟨#[108,101,102,116]⟩ ⟨#[114,105,103,104,116]⟩ ⟨#[99,111,115,116]⟩ ⟨#[111,114,100,101,114]⟩ ⟨#[97,116]⟩ ae A1 bj bk bl ab bm bn bo bq bu af n1 n2 n3 n4 n5 n6 n7 n8 n9 bv PT c1 c2 c3 c4 c5 c6 c7 c8 c9 jF aa,_,rR P (Ac (by rfl)) (db.C zz) d G,?_⟩;rintro _ kf ⟨xf,o7,z,rfl,hz⟩;refine⟨bx.trans xf,o7,z,B,λdd=>?_⟩;obtain⟨bs,de,F⟩:=hz dd;exact⟨⟨cb,cf⟩,(λb' n e c=>cg b' n e (c.C x0):∀b' n:Nat,AG b 0=AG b' 0->aC h b' 0 (Vi n)->n=LB ps),bs,de,F.mono bx.a⟩
def AAi [d9 S L] (H:Ce h) {ps:List JT} {cs:List Qz} {es:List CI} (K:G3 h) (p:Gt h pv ps) (c:Nw h cv cs) (t:Dq h ev es) (N:N8.C ⟨pv,df,cv,ev,ps,cs,es⟩):
 iB S L 31 33 [.agg #[pv,Vi df,cv,ev]] h λw J=>∃(o:Aa) (z:Int),w=.tuple #[o,Vi z]/\(z=0->∃bs:Bl,LB bs<=20000000/\Rd J o 1 (LB bs) (Ay bs)):=
 Cn f33 λd X _=>by
  obtain⟨Y,U,u,v,x⟩:=N;have u:LB ps<=70:=u;have v:LB cs<=300:=v;have x:LB es<=300:=x;have y:=p;have O:=c;have P:=t;obtain⟨_,A,C,rfl,_⟩:=p;obtain⟨_,D,c1,rfl,_⟩:=c;obtain⟨_,k,m,rfl,_⟩:=t;obtain⟨a,Q,E⟩:=(aH.nil h).box Ax 26 (.agg #[.slice A (LB ps) C,Vi df,.slice D (LB cs) c1,.slice k (LB es) m]);have n:=E.dD 0 B;have R:=n.cell (i:=0) B;have q:=E.e;refine⟨_,_,Q,[],Kq,_,ld B R,_,EQ Kq (n.cells) B,_,wV (h:=a.ad) (show Gt a _ _ from Rd.C y q) G (show Nw a _ _ from Rd.C O q) G B d G,?_⟩;rintro I f ⟨s,T⟩;have g:=q.trans s.M;refine⟨s.C,_,ld B ((n.C s.M).cell B),_,pC (h:=(a.M f).ad) (show Ce (a.M f) from H.C g) (show G3 (a.M f) from K.C g) (show Gt (a.M f) _ _ from Rd.C y g) G (show Dq (a.M f) _ _ from Rd.C P g) G Jq ?_ d G,?_⟩
  .rcases T with rfl|⟨b,r,l,h1,aa,rfl,M,j,ab,_⟩
   .exact .inl B
   .refine .inr ⟨b,r,df,l,B,LB ps,?_,j,G,G⟩
    show F6 (a.M f) b (LB ps) df r l;exact⟨M.1,M.2.1.M,M.2.2.1.M,M.2.2.2.1.M,P9 M.2.2.2.2⟩
  rintro _ Z ⟨F,o,z,rfl,V⟩;refine⟨F.C,g.trans F.M,o,z,B,λh0=>?_⟩;let⟨_,_,bs,W,r⟩:=V h0;exact⟨bs,W,r.rd.M⟩
def Xc [d9 S L] (c:Ce h) {s:N8} (d:G3 h) (a:Qx L h s) (e:s.C):iB S L 31 33 [.agg ⟨s.cells⟩] h λw J=>∃(o:Aa) (z:Int),w=.tuple #[o,Vi z]/\(z=0->∃bs:Bl,LB bs<=20000000/\Rd J o 1 (LB bs) (Ay bs)):=AAi c d a.1.1 a.1.2.1 a.1.2.2 e
def aH.cW (a:Gv τ t=Ag) (s:aH h0 h l) (U:l[i]?=I (aO b e xs)) (c:j<LB xs) (d:one v=Ag):
 ∃J,BA τ t h b j v=I J/\aH h0 J (l.set i (aO b e (xs.set j v)))/\Er b h J:=s.a5 a U c d
def jC (s:aH h0 h l) {f:Nat} {b:Bool} (p:EC h0 pv ps) (x:LB ps<=64) (U:l[i]?=I (aO f 132 [pv,.bool b])) {y:Bd}:
 Bk S L 3 52 [AG f 0,.string y] h λw J=>∃j:Bool,aH h0 J (l.set i (aO f 132 [pv,.bool j]))/\(b=Ag->j=Ag)/\h.a<=J.a/\B0 (·=f) h J/\∃n bs,n<=16777216/\Rd J w 1 n (Ay bs):=
 Cn f52 λd E _=>by
  have z:=(s.dD _ U).cell (i:=0) B;refine⟨_,ld B z,_,ACf (p.C s.e) G d G,?_⟩;have u:∀(K:Y) c w n bs,n<=16777216->AS K h.a 5 1 w n (Ay bs)->∀j:Bool,∃a,BA Ax 4 K f 1 (.bool j)=I a/\aH h0 a (l.set i (aO f 132 [pv,.bool j]))/\h.a<=a.a/\B0 (·=f) h a/\∃n bs,n<=16777216/\Rd a w 1 n (Ay bs):=λK c w n bs x o j=>by
   obtain⟨a,g,A,m⟩:=(s.C c).cW (τ:=Ax) (t:=4) B U (v:=.bool j) (by show 1<2;decide) B;have F:=(s.dD _ U).1;refine⟨a,g,A,m.a▸c.a,(c.O _).trans m.O,n,bs,x,o.rd.O m.O λi U H=>?_⟩;have:=o.ai i U;omega
  rintro _ K ⟨c,rfl|⟨q,C,o,rfl,D⟩⟩
  .have c1:=((s.C c).dD _ U).cell (i:=1) B
   have u:=u K c _ 0 [] Jq (AS.nil K h.a 5 1);cases b
   .let⟨a,g,k,r⟩:=u Ag
    exact⟨_,ld B c1,_,_,B,_,g,Ag,k,(λh=>B),r⟩
   .let⟨a,g,k,r⟩:=u Ag
    exact⟨_,ld B c1,_,g,Ag,k,(λh=>B),r⟩
  .have c1:=((s.C c).dD _ U).cell (i:=1) B
   have u:=u K c o _ q.a (p.2 q C).2.1 D;cases b
   .let⟨a,g,k,r⟩:=u Ah
    exact⟨_,ld B c1,_,_,B,_,g,Ah,k,(λh=>Jq),r⟩
   .let⟨a,g,k,r⟩:=u Ag
    exact⟨_,ld B c1,_,g,Ag,k,(λh=>B),r⟩
def lC [dG S L] (s:aH h0 h l) {f:Nat} {b:Bool} (p:EC h0 pv ps) (H:LB ps<=64) (U:l[i]?=I (aO f 132 [pv,.bool b])) {K:Bd}:
 Bk S L 7 54 [AG f 0,.string K] h λw J=>∃e:Bool,aH h0 J (l.set i (aO f 132 [pv,.bool e]))/\(b=Ag->e=Ag)/\h.a<=J.a/\B0 (·=f) h J/\((w=.pointer Z/\e=Ag)\/∃q t,w=AG q 0/\Ge J h.a q t):=
 Cn f54 λd N _=>by
  refine⟨_,jC s p H U d G,λw R ⟨x,y,C,D,c1,n,bs,O,r⟩=>?_⟩;have z:(l.set i (aO f 132 [pv,.bool x]))[i]?=I (aO f 132 [pv,.bool x]):=Jq
  refine⟨_,ACo r G d G,?_⟩;have P:=(s.dD _ U).1;have Q:∀(g:Y) a e,∃c,BA Ax 4 g f 1 (.bool e)=I c/\aH h0 c (l.set i (aO f 132 [pv,.bool e]))/\h.a<=c.a/\B0 (·=f) h c/\B0 (·=f) g c:=λg a e=>by
   obtain⟨c,j,E,A⟩:=(y.C a).cW (τ:=Ax) (t:=4) B z (v:=.bool e) (by show 1<2;decide) B;rw[qF] at E;exact⟨c,j,E,A.a▸Ao D a.a,(c1.trans (a.O _)).trans A.O,A.O⟩
  rintro _ g ⟨a,rfl|⟨q,t,rfl,T⟩⟩
  .have k:=((y.C a).dD _ z).cell (i:=1) B
   let⟨c,j,m,o,u,_⟩:=Q g a Ag;cases x<;>exact⟨_,ld B k,_,j,Ag,m,(λ_=>B),o,u,.inl ⟨B,B⟩⟩
  .have k:=((y.C a).dD _ z).cell (i:=1) B
   let⟨c,j,m,o,u,M⟩:=Q g a x;have F:=(T.fr M (λi U=>Jq)).mono D;cases x<;>exact⟨_,ld B k,_,j,_,m,C,o,u,.inr ⟨q,t,B,F⟩⟩
def Lb (h:Y) (N b n w:Nat) (a:Bo):Prop:=BX h b n w a/\Fl h N b
def Lb.fr (p:Lb h N b n w ws) (c:B0 W h J) (a:∀i,W i->i<N):Lb J N b n w ws:=⟨p.1.fr p.2 c a,p.2.1,λv y=>p.2.2 v (y.rev p.1.1.1 c (λd=>by have:=a b d;have:=p.2.1;omega:¬W b))⟩
def Lb.mono (p:Lb h N b n w ws) (a:M<=N):Lb h M b n w ws:=⟨p.1,p.2.mono a⟩
def wQ [dG S L] (s:aH h0 h l) {f:Nat} {b:Bool} (p:EC h0 pv ps) (K:LB ps<=64) (U:l[i]?=I (aO f 132 [pv,.bool b])) {M:Bd}:
 Bk S L 7 55 [AG f 0,.string M] h λw J=>∃e:Bool,aH h0 J (l.set i (aO f 132 [pv,.bool e]))/\(b=Ag->e=Ag)/\h.a<=J.a/\B0 (·=f) h J/\((w=.pointer Z/\e=Ag)\/∃q n k y,w=AG q 0/\Lb J h.a q n k y):=
 Cn f55 λd Q _=>by
  refine⟨_,jC s p K U d G,λw X ⟨V,z,D,E,c1,n,bs,R,r⟩=>?_⟩;have A:(l.set i (aO f 132 [pv,.bool V]))[i]?=I (aO f 132 [pv,.bool V]):=Jq
  refine⟨_,sw r G d G,?_⟩;have T:=(s.dD _ U).1;have W:∀(g:Y) a e,∃c,BA Ax 4 g f 1 (.bool e)=I c/\aH h0 c (l.set i (aO f 132 [pv,.bool e]))/\h.a<=c.a/\B0 (·=f) h c/\B0 (·=f) g c:=λg a e=>by
   obtain⟨c,j,F,C⟩:=(z.C a).cW (τ:=Ax) (t:=4) B A (v:=.bool e) (by show 1<2;decide) B;rw[qF] at F;exact⟨c,j,F,C.a▸Ao E a.a,(c1.trans (a.O _)).trans C.O,C.O⟩
  rintro _ g ⟨a,rfl|⟨q,n,k,y,_,rfl,P,N⟩⟩
  .have m:=((z.C a).dD _ A).cell (i:=1) B
   let⟨c,j,o,u,x,_⟩:=W g a Ag;cases V<;>exact⟨_,ld B m,_,j,Ag,o,(λ_=>B),u,x,.inl ⟨B,B⟩⟩
  .have m:=((z.C a).dD _ A).cell (i:=1) B
   let⟨c,j,o,u,x,O⟩:=W g a V;have H:=((show Lb g X.a q n k y from⟨P,N⟩).fr O (λi U=>Jq)).mono E;cases V<;>exact⟨_,ld B m,_,j,_,o,D,u,x,.inr ⟨q,n,k,y,B,H⟩⟩
structure Nl where
 b:Nat
 n:Nat
 w:Nat
 ws:Bo
def Nl.at_ (p:Nl) (h:Y):Prop:=BX h p.b p.n p.w p.ws
structure Dt where
 pv:Aa
 ps:List JT
 e:Nat
 c:Nat
 mr:Nat
 a:Int
 b:GX
 b2:Nat
 t2:En
 b3:Nat
 t3:En
 p4:Nl
 p5:Nl
 p6:Nl
 p7:Nl
 d:Nl
 g:Nl
 f:Nl
def Dt.cells (D:Dt):AH:=[D.pv,AG D.e 0,AG D.b2 0,AG D.b3 0,AG D.p4.b 0,AG D.p5.b 0,AG D.p6.b 0,AG D.p7.b 0,AG D.d.b 0,AG D.g.b 0,AG D.f.b 0]
structure DT (h:Y) (b:Nat) (D:Dt):Prop where
 c:∀i v,D.cells[i]?=I v->aC h b i v
 pos:Gt h D.pv D.ps
 a:F6 h D.e D.c D.a D.mr D.b
 t2:DE h D.b2 D.t2
 t3:DE h D.b3 D.t3
 p4:D.p4.at_ h
 p5:D.p5.at_ h
 p6:D.p6.at_ h
 p7:D.p7.at_ h
 d:D.d.at_ h
 g:D.g.at_ h
 f:D.f.at_ h
def DT.C {h J:Y} {b:Nat} {D:Dt} (A:DT h b D) (x:AA h J):DT J b D:=
 ⟨λi v e=>(A.c i v e).C x,Rd.C A.pos x,A.a.C x,A.t2.C x,A.t3.C x,BX.C A.p4 x,BX.C A.p5 x,BX.C A.p6 x,BX.C A.p7 x,BX.C A.d x,BX.C A.g x,BX.C A.f x⟩
def DT.ad {h:Y} {b:Nat} {D:Dt} (A:DT h b D):DT h.ad b D:=A.C (AA.ad h)
def Dt.fits (D:Dt):Prop:=D.p5.n<=20000/\D.p6.n=D.p5.n/\D.p7.n=D.p5.n/\D.d.n=D.p5.n/\D.g.n=D.p5.n/\D.p4.n=LB D.t2.M/\D.f.n=LB D.t3.M/\(∀j:Nat,j<D.p4.n->E1 D.p4.ws D.p4.w j<D.p5.n)/\∀j:Nat,j+1<D.p4.n->E1 D.p4.ws D.p4.w j<E1 D.p4.ws D.p4.w (j+1)
def wP {h:Y} {b:Nat} {D:Dt} (A:DT h b D):iB S L 3 56 [AG b 0] h λw J=>∃r:Bool,w=.bool r/\(r=Ag->D.fits):=
 Cn f56 λd aj hL=>by
  have g:∀{H:Y},AA h H->AA h H/\∃r:Bool,CU Ah=.bool r/\(r=Ag->D.fits):=λe=>⟨e,Ah,B,λh=>by cases h⟩;refine⟨_,ld B (A.c 5 _ B),_,K3 A.p5.1 d G,?_⟩;rintro _ h ⟨rfl,rfl⟩;have k2:=A.c 2 _ B;have k3:=A.c 3 _ B;have k4:=A.c 4 _ B;have k6:=A.c 6 _ B;have k7:=A.c 7 _ B;have k8:=A.c 8 _ B;have k9:=A.c 9 _ B;have ah:=A.c 10 _ B;refine⟨[],Kq,Bz (λe1=>?_) (λe1=>?_)⟩
  .exact g (AA.refl _)
  have K:=AA.refl h;have Q:=A.C K;have R:=k6.C K;refine⟨_,ld B R,_,K3 (h:=Y.ad h) (show aC h _ _ _ from(Q.p6:BX _ _ _ _ _).1) d G,?_⟩;rintro _ _ ⟨rfl,rfl⟩;have v:=AT K;refine⟨B,Ad (λf6=>?_) (λf6=>?_)⟩
  .exact g v
  have f6:D.p6.n=D.p5.n:=by
   have:=f6;simp at this;omega
  have T:=A.C v;have V:=k7.C v;refine⟨_,ld B V,_,K3 (h:=Y.ad (nb h)) (show aC (nb h) _ _ _ from(T.p7:BX _ _ _ _ _).1) d G,?_⟩;rintro _ _ ⟨rfl,rfl⟩;have y:=AT v;refine⟨B,Ad (λf7=>?_) (λf7=>?_)⟩
  .exact g y
  have f7:D.p7.n=D.p5.n:=by
   have:=f7;simp at this;omega
  have W:=A.C y;have X:=k8.C y;refine⟨_,ld B X,_,K3 (h:=Y.ad (nb (nb h))) (show aC (nb (nb h)) _ _ _ from(W.d:BX _ _ _ _ _).1) d G,?_⟩;rintro _ _ ⟨rfl,rfl⟩;have C:=AT y;refine⟨B,Ad (λZ=>?_) (λZ=>?_)⟩
  .exact g C
  have Z:D.d.n=D.p5.n:=by
   have:=Z;simp at this;omega
  have a9:=A.C C;have q9:=k9.C C;refine⟨_,ld B q9,_,K3 (h:=Y.ad (nb (nb (nb h)))) (show aC (nb (nb (nb h))) _ _ _ from(a9.g:BX _ _ _ _ _).1) d G,?_⟩;rintro _ _ ⟨rfl,rfl⟩;have E:=AT C;refine⟨B,Ad (λU=>?_) (λU=>?_)⟩
  .exact g E
  have U:D.g.n=D.p5.n:=by
   have:=U;simp at this;omega
  have a4:=A.C E;have q4:=k4.C E;refine⟨_,ld B q4,_,K3 (h:=Y.ad (nb (nb (nb (nb h))))) (show aC (nb (nb (nb (nb h)))) _ _ _ from(a4.p4:BX _ _ _ _ _).1) d G,?_⟩;rintro _ _ ⟨rfl,rfl⟩;have M:=AT E;have N:=A.C M;have aa:=k2.C M;refine⟨B,_,ld B aa,_,jz (h:=Y.ad (nb (nb (nb (nb (nb h)))))) (show DE (nb (nb (nb (nb (nb h))))) _ _ from N.t2) d G,?_⟩;rintro _ _ ⟨rfl,rfl⟩;have F:=AT M;refine⟨B,Ad (λf4=>?_) (λf4=>?_)⟩
  .exact g F
  have f4:D.p4.n=LB D.t2.M:=by
   have:=f4;simp at this;omega
  have ab:=A.C F;have ad:=ah.C F;refine⟨_,ld B ad,_,K3 (h:=Y.ad (nb (nb (nb (nb (nb (nb h))))))) (show aC (nb (nb (nb (nb (nb (nb h)))))) _ _ _ from(ab.f:BX _ _ _ _ _).1) d G,?_⟩;rintro _ _ ⟨rfl,rfl⟩;have O:=AT F;have ae:=A.C O;have af:=k3.C O;refine⟨B,_,ld B af,_,jz (h:=Y.ad (nb (nb (nb (nb (nb (nb (nb h)))))))) (show DE (nb (nb (nb (nb (nb (nb (nb h))))))) _ _ from ae.t3) d G,?_⟩;rintro _ _ ⟨rfl,rfl⟩;have o:=AT O;refine⟨B,Ad (λI=>?_) (λI=>?_)⟩
  .exact g o
  have I:D.f.n=LB D.t3.M:=by
   have:=I;simp at this;omega
  have ag:(∀j:Nat,j<D.p4.n->E1 D.p4.ws D.p4.w j<D.p5.n)->(∀j:Nat,j+1<D.p4.n->E1 D.p4.ws D.p4.w j<E1 D.p4.ws D.p4.w (j+1))->D.fits:=λl m=>⟨G,f6,f7,Z,U,f4,I,l,m⟩;have ak:D.p4.n<=20000:=by have:=N.t2.1.2.2.2.2.2.2.1;omega
  have p:=A.C o;clear a4 ab N ae q4 ad aa af Q T W a9 R V X q9;refine⟨_,ld B (p.c 4 _ B),_,ZZ p.p4 d G,?_⟩;rintro _ _ ⟨rfl,rfl⟩;apply Ad<;>intro g1
  refine⟨_,_,B,Ad (λg2=>?_) (λg2=>?_)⟩;exact g o;apply Ad<;>intro g3;exact g o
  all_goals
   refine⟨_,ld B (p.c 4 _ B),_,K3 (show aC (nb (nb (nb (nb (nb (nb (nb (nb h)))))))) _ _ _ from(p.p4:BX _ _ _ _ _).1) d G,?_⟩
   rintro _ _ ⟨rfl,rfl⟩;refine⟨λq A a=>∃(k:Nat) (z:Int),A=[(0,AG b 0),(3,Vi D.p5.n),(6,Vi z),(101,Vi D.p4.n),(102,Vi k)]/\k<=D.p4.n/\q=D.p4.n-k/\(∀j:Nat,j<k->E1 D.p4.ws D.p4.w j<D.p5.n)/\AA h a/\(0<k->z=E1 D.p4.ws D.p4.w (k-1))/\∀j:Nat,j+1<k->E1 D.p4.ws D.p4.w j<E1 D.p4.ws D.p4.w (j+1),
    ⟨_,_,Sq,G,0,-1,B,Al _,B,(λj i=>Cf i (F5 _)),o,(λh=>Cf h (W7 _)),(λj i=>Cf i (F5 _))⟩,?_⟩
   rintro q A' a ⟨k,z,rfl,hk,rfl,l,x,P,m⟩ ai;apply Bz<;>intro g4
   .have gr:=FM D.p4.ws D.p4.w k
    have s:=A.C x;refine⟨_,ld B (s.c 4 _ B),_,ZZ s.p4 d G,?_⟩;rintro _ _ ⟨rfl,rfl⟩;refine⟨_,.inl Pq,Bz (λt=>?_) (λt=>?_)⟩
    .exact g x
    rw[Bi G,show((k:Int)).toNat=k from B] at t⊢;refine⟨_,.inl Pq,Bz (λu=>?_) (λu=>?_)⟩
    .exact g x
    exact⟨_,.inl Pq,Pq,_,_,Sq,G,k+1,_,B,G,B,λj i=>by
     rcases A8 j k with a|a
     .exact l j a
     .have:j=k:=G
      rw[this];omega,x,λ_=>B,λj i=>by
     rcases A8 (j+1) k with a|a
     .exact m j a
     .have:=P G
      have e:k-1=j:=G;rw[e] at this;have e:k=j+1:=G;rw[e] at u;omega⟩
   .obtain rfl:k=D.p4.n:=G
    exact⟨x,Ag,B,λ_=>ag l m⟩
def CI.small (e:CI):Prop:=(aL e.rd<=256/\aL e.b<=256)/\(0<=e.l/\e.l<=1073741824)/\(0<=e.r/\e.r<=1073741824)/\(0<=e.c/\e.c<=1073741824)
def Dt.atR (D:Dt) (i:Int):Int:=((BG D.p4.n).find? λz=>decide (i+1<=E1 D.p4.ws D.p4.w z)).getD D.p4.n-1
def Dt.C (D:Dt) (i:Int):CI:=⟨Sv D.t2 (D.atR i),Sv D.t3 (Hm D.p5.n D.p5.w D.p5.ws i),Hm D.p6.n D.p6.w D.p6.ws i,Hm D.p7.n D.p7.w D.p7.ws i,Hm D.d.n D.d.w D.d.ws i⟩
def Ye {z:Nat} {p:Nat->Bool} (d:z<=n) (f:∀j,j<z->p j=Ah) (c:z<n->p z=Ag):((BG n).find? p).getD n=z:=by
 rcases A8 z n with a|e
 .have:(BG n).find? p=I z:=Jq
  rw[this];rfl
 .obtain rfl:z=n:=G
  have:(BG z).find? p=none:=im.2 λj b=>by rw[f j Jq];decide
  rw[this];rfl
def vc {f:Nat->Int} (a:∀j,j+1<n->f j<f (j+1)):∀k j,j+k<n->f j<=f (j+k)
 |0,j,_=>Int.le_refl _
 |k+1,j,h=>by have:=vc a k j G;have:=a (j+k) G;rw[←DD];omega
def ACy {D:Dt} (A:DT h b D) (K:D.fits) {i:Int} (U:0<=i/\i<=1000000000):iB S L 8 110 [AG b 0,Vi i] h λw J=>∃e:CI,w=.agg ⟨BV e⟩/\e.small/\e=D.C i:=
 Cn f110 λd ag _=>by
  obtain⟨g1,M,q⟩:=(aH.nil h).O (z:=.agg #[.string ⟨#[]⟩,.string ⟨#[]⟩,Vi 0,Vi 0,Vi 0]) Kq;have m:=A.C q.e;have ah:=A.p4.2.2.1;refine⟨_,_,M _,_,ld B (m.c 4 _ B),_,.inl Pq,Pq,_,ACz m.p4 d G,?_⟩;rintro _ h2 ⟨r,z,rfl,N,ai,O⟩;have P:D.atR i=z-1:=by
   have Q:=Ye (p:=λz=>decide (i+1<=E1 D.p4.ws D.p4.w z)) N (λj hj=>decide_eq_false λs=>?_) λs=>decide_eq_true (O s)
   .unfold Dt.atR;rw[Q]
   have:=vc K.2.2.2.2.2.2.2.2 (z-1-j) j G;rw[show j+(z-1-j)=z-1 by omega] at this;omega
  have o:=m.C r;refine⟨_,ld B (o.c 2 _ B),Pq,_,lu o.t2 d G,?_⟩;rintro _ a ⟨t,st,aj,rfl,R,T⟩;have V:=(q.C r).C t;have k:=o.C t;refine⟨[],Kq,_,ld B (k.c 3 _ B),_,ld B (k.c 5 _ B),GZ (Xo (h:=a.ad) (k.p5) d G) ?_⟩;have u:=AT (AA.refl a);refine⟨B,_,lu (h:=(nb a).ad) ((k.C u).t3) d G,?_⟩;rintro _ f ⟨v,W,ak,rfl,X,aa⟩;have x:=u.trans v.M;have l:=k.C x;refine⟨v.C,[],Kq,_,ld B (l.c 6 _ B),GZ (Xo (h:=((nb a).M f).ad) (l.p6) d G) ?_⟩;have y:=AT (AA.refl ((nb a).M f));have C:=l.C y;refine⟨B,_,ld B (C.c 7 _ B),GZ (Xo (h:=(nb ((nb a).M f)).ad) (C.p7) d G) ?_⟩;have g:=AT y;have E:=l.C g;refine⟨B,_,ld B (E.c 8 _ B),GZ (Xo (h:=(nb (nb ((nb a).M f))).ad) (E.d) d G) ?_⟩;have F:=(V.C x).C Jq;obtain⟨e,I⟩:∃e:CI,e=⟨st,W,Hm D.p6.n D.p6.w D.p6.ws i,Hm D.p7.n D.p7.w D.p7.ws i,Hm D.d.n D.d.w D.d.ws i⟩:=⟨_,B⟩;obtain⟨H,ab,ad,Z⟩:=aQ.bD (h:=(nb (nb (nb ((nb a).M f)))).ad) Kq (F.dD 0 B) (vs:=BV e) B (by show 0+5<=5;decide) B;have Y:aQ ((nb (nb (nb ((nb a).M f)))).M H) h.a 90 (BV e):=ad.M;subst I;refine⟨B,_,ab,_,EQ Kq Y.cells B,(F.e.ah Z.M (Ae _)),_,B,⟨⟨R,X⟩,Im _ _ _ _,Im _ _ _ _,Im _ _ _ _⟩,by rw[Dt.C,P,T,aa]⟩
def sJ {a b:Int}:iB S L 1 111 [Vi a,Vi b] h λw J=>w=.func (.func 199) #[] #[AG h.a 0,AG (h.a+1) 0]/\aC J h.a 0 (Vi a)/\aC J (h.a+1) 0 (Vi b):=
 Cn f111 λd l _=>by
  let⟨h1,b1,i,j,k⟩:=H1 Ax 3 (Vi a) h;let⟨m,c,e,f,n⟩:=H1 Ax 3 (Vi b) h1;rw[k] at c f;exact⟨_,_,b1,_,_,c,i.trans e,B,(j.cell B).C e,f.cell B⟩
def wO {D:Dt} (A:DT h b D):iB S L 2 58 [AG b 0] h λw J=>w=.func (.func 199) #[] #[AG h.a 0,AG (h.a+1) 0]/\aC J h.a 0 (Vi 0)/\aC J (h.a+1) 0 (Vi D.p5.n):=
 Cn f58 λd i _=>by
  refine⟨_,ld B (A.c 5 _ B),GZ (K3 A.p5.1 d G) ⟨_,sJ d G,λ_ j ⟨e,rfl,f,g⟩=>?_⟩⟩;exact⟨e,B,f,g⟩
def ADq {f dy:Nat} (r:n<=100000000) (s:a<=100000000) (c:Nat->Y->Prop) (g:∀k b,c k b->aC b p 0 (Vi a)/\aC b q 0 (Vi n)) (h0:c 0 h)
 (m:∀k b,c k b->a+k<n->ZP S L dy (.yield f) [Vi ((a+k:Nat):Int)] b λu J=>u=.bool Ag/\c (k+1) J):
 Bk S L (dy+1) 199 [.func (.yield f) #[] #[],AG p 0,AG q 0] h λ_ J=>c (n-a) J:=
 Cn f199 λd t v=>by
  refine⟨_,ld B (g 0 h h0).1,λi A b=>∃k:Nat,A=[(0,.func (.yield f) #[] #[]),(2,AG q 0),(4,Vi ((a+k)))]/\k<=n-a/\i=n-a-k/\c k b,
   ⟨_,_,Sq,G,0,B,Al _,B,h0⟩,?_⟩
  rintro i A b ⟨k,rfl,w,rfl,j⟩ x;refine⟨_,ld B (g k b j).2,Bz (λe=>?_) (λe=>?_)⟩
  .refine⟨_,m k b j G d G,?_⟩
   rintro _ y ⟨rfl,o⟩;exact⟨Pq,_,_,Sq,G,k+1,B,G,B,o⟩
  .obtain rfl:k=n-a:=G
   exact j
def pB {D:Dt} (A:DT h b D) (hf:D.fits) (hp:aC h p 0 (Vi a)) (hq:aC h q 0 (Vi N)) (ha:a<=20000) (hn:N<=20000):
 iB S L 12 57 [AG b 0,.func (.func 199) #[] #[AG p 0,AG q 0]] h λw J=>∃es:List CI,Dq J w es/\LB es=N-a/\(∀e∈es,e.small)/\es=(BG (N-a)).map λj=>D.C ((a+j:Nat):Int):=
 Zd (fn:=f57) Kq B λd ae=>by
  obtain⟨C,y1,s1⟩:=(aH.nil h).box Ax 65 (AG b 0);obtain⟨c,M,s2⟩:=s1.O (z:=.slice Z 0 0) Kq;have s3:=s2.nl h.a 90 5;refine⟨Dc B,_,_,y1,_,_,M _,XI (τ:=Ax) (f:=199) (fn:=f199) Kq B,T3 λg _ aa=>?_⟩;have s5:=s3.n2 (.aq Ah) (g .ready Z)
  let O:Nat->Y->Prop:=λk h2=>∃(l:Aa) (es:List CI),es=(BG k).map (λj=>D.C ((a+j:Nat)))/\(∀e∈es,e.small)/\aH h h2 [aB (A3 c.a) (g .ready Z),aB c.a (.aq Ah),aS h.a 90 5 l (LB es) (es.flatMap BV),aO C.a 24 [l],aO h.a 65 [AG b 0]]
  have hy:∀k y,O k y->a+k<N->ZP S L 10 (.yield (A3 c.a)) [Vi ((a+k))] y λu J=>u=.bool Ag/\O (k+1) J:=by
   rintro k y ⟨l,es,E,P,s⟩ hk n af;obtain rfl:LB es=k:=by rw[E];simp
   obtain⟨m,rfl⟩:∃m,n=m+1:=⟨n-1,G⟩;refine aa m [(2,AG h.a 0),(5,AG C.a 0)] _ y _ (Sq) (s.a7 0 B) ?_;refine⟨s.a7 0 B,?_⟩;have r:=s.pu 0 (g .busy Z) B;generalize y.put (A3 c.a) (g .busy Z)=H at r⊢;refine⟨[],Kq,_,ld B (r.q 3 _ B B),_,ld B (r.q 4 _ B B),_,ACy ((A.C r.e).C (AA.ad H)) hf G m G,?_⟩;rintro _ T ⟨V,e,rfl,Q,ab⟩;have F:=r.bz V;obtain⟨gx,e1,W,h8,t8,K,hB⟩:=F.bo Kq (i:=2) B (ys:=BV e) B B F.e.a G (n':=(es++[e]).length) (xs':=(es++[e]).flatMap BV) wl wl;obtain⟨h9,t9,R⟩:=K.stM (τ:=Ax) (t:=24) B (i:=3) B (by show 0<1;decide) (D5 (K.sl 2 B));subst e1;have ad:=R.pu 0 (g .ready Z) B;refine⟨V.C,_,_,i3 24 _ 5 (.agg ⟨BV e⟩) _,_,_,t8,_,t9,.busy,Z,R.a7 0 B,B,W,es++[e],by rw[fU,BS,←E,ab];rfl,λx o=>?_,ad⟩;rcases dF.1 o with o|o
   .exact P x o
   .rw[bQ.1 o];exact Q
  refine⟨_,ADq G G O (λk y ⟨l,es,_,_,s⟩=>⟨hp.C s.e,hq.C s.e⟩) ⟨_,[],B,(λe Q=>by cases Q),s5⟩ hy d G,?_⟩;rintro u X ⟨l,es,E,P,r⟩;refine⟨.ready,Z,r.a7 0 B,(by intro h;cases h),?_⟩;have F:=r.pu 0 (g .exhausted Z) B;generalize X.put (A3 c.a) (g .exhausted Z)=T at F⊢;have K:=
   ((F.drop 1).perm (Gm _ _).symm)
  refine⟨_,ld B (K.q 1 _ B B),?_⟩;obtain⟨n1,n2,n3,v⟩:=aH.aq (D:=[c.a]) K;exact JM _ n1 n2 λJ _ I=>⟨(v J I).e,es,((v J I).sl 0 B).rd,(by rw[E];simp),P,E⟩
def AEj {D:Dt} (A:DT h b D):Bk S L 1 200 [AG b 0] h λw J=>J=h/\w=Vi (LB D.ps):=
 Cn f200 λd g _=>by
  have a:=A.c 0 _ B;let⟨_,V,i,e,_⟩:=A.pos;rw[e] at a;exact⟨_,B,_,ld B a,B,B⟩
def vX {D:Dt} (A:DT h b D) {i:Int}:Bk S L 1 135 [AG b 0,Vi i] h λw J=>J=h/\∃z:Int,w=Vi z/\(z=0\/∃q∈D.ps,z=q.2):=
 Cn f135 λd r _=>by
  have j:=A.pos;have a:=A.c 0 _ B;obtain⟨_,V,s,e,_⟩:=A.pos;rw[e] at a j;refine⟨_,B,Bz (λn=>?_) (λn=>?_)⟩
  .exact⟨B,0,B,.inl B⟩
  refine⟨_,ld B a,Bz (λo=>?_) (λo=>?_)⟩
  .exact⟨B,0,B,.inl B⟩
  obtain⟨k,rfl⟩:∃k:Nat,i=k:=⟨bH i,G⟩;have g:k<LB D.ps:=G;obtain⟨a1,t,p,_,l⟩:=Rd.el j g;cases p;rw[flatK (f:=Mm) (λ_=>B) D.ps (Ab g)] at l;exact⟨_,ld B a,G,_,ld B (BK.at l B),B,_,B,.inr ⟨_,Bu g,B⟩⟩
def lz {D:Dt} (A:DT h b D) {i j:Int}:Bk S L 4 219 [AG b 0,Vi i,Vi j] h λw J=>J=h/\w=Vi (Mz D.c D.a D.b i j):=
 Cn f219 λd l _=>by
  let⟨m,e,f,g,k⟩:=A.a;refine⟨_,B,_,ld B (A.c 1 _ B),GZ (ADb (⟨e,f,D.mr,g,k⟩) d G) ⟨B,B⟩⟩
def vm {D:Dt} (f:D.fits) (i:Int):0<=Hm D.p4.n D.p4.w D.p4.ws i/\Hm D.p4.n D.p4.w D.p4.ws i<=20000:=by
 have a:=f.1;refine⟨(Im _ _ _ _).1,?_⟩;unfold Hm;split
 .have:=f.2.2.2.2.2.2.2.1 i.toNat G
  omega
 .omega
def Dt.has (D:Dt) (e:CI):Prop:=e.small/\∃i:Nat,i<D.p5.n/\e=D.C i
def si {D:Dt} (A:DT h b D) (f:D.fits) {i:Int} (U:0<=i/\i<=1000000000):iB S L 14 202 [AG b 0,Vi i] h λw J=>∃es:List CI,Dq J w es/\LB es<=20000/\∀e∈es,D.has e:=
 Cn f202 λd H _=>by
  have g:=f.1;refine⟨[],Kq,_,ld B (A.c 4 _ B),_,ld B (A.c 5 _ B),GZ (K3 (h:=h.ad) ((A.p5).1) d G) ?_⟩;have m:=AT (AA.refl h);refine⟨B,GZ (AGe (h:=(nb h).ad) ((A.C m).p4) G d G) ?_⟩;have t:=AT m;have u:=vm f i;have v:0<=(if i+1<(D.p4.n) then Hm D.p4.n D.p4.w D.p4.ws (i+1) else(D.p5.n))/\(if i+1<(D.p4.n) then Hm D.p4.n D.p4.w D.p4.ws (i+1) else(D.p5.n))<=20000:=by
   have:=vm f (i+1);split<;>omega
  obtain⟨a,o⟩:∃a:Nat,Hm D.p4.n D.p4.w D.p4.ws i=a:=⟨(Hm D.p4.n D.p4.w D.p4.ws i).toNat,G⟩;obtain⟨N,k⟩:∃N:Nat,(if i+1<(D.p4.n) then Hm D.p4.n D.p4.w D.p4.ws (i+1) else(D.p5.n))=N:=⟨(if i+1<(D.p4.n) then Hm D.p4.n D.p4.w D.p4.ws (i+1) else(D.p5.n)).toNat,G⟩
  refine⟨B,_,sJ d G,?_⟩;rintro _ x ⟨p,rfl,y,z⟩;rw[o] at y;rw[k] at z;have q:=t.trans p.M;refine⟨p.C,_,pB (A.C q).ad f Jq Jq G G d G,?_⟩;rintro w K ⟨r,es,C,M,E,F⟩;refine⟨r.C,q.trans r.M,es,Rd.M C,G,λe l=>⟨E e l,?_⟩⟩;rw[F] at l;obtain⟨j,s,rfl⟩:=dP.1 l;have s:=dX.1 s;have O:N<=D.p5.n:=by
   split at k
   .unfold Hm at k
    split at k
    .have:=f.2.2.2.2.2.2.2.1 (i+1).toNat G;omega
    .omega
   .omega
  exact⟨a+j,G,B⟩
def AAp {D:Dt} (A:DT h b D) (f:D.fits) (i:aL s<=100000000):iB S L 15 122 [AG b 0,.string s] h λw J=>∃es:List CI,Dq J w es/\LB es<=20000/\∀e∈es,D.has e:=
 Cn f122 λd o _=>by
  refine⟨_,B,_,ld B (A.c 2 _ B),_,ABs A.t2 i d G,?_⟩;rintro _ a ⟨g,k,p,rfl,q⟩;refine⟨_,_,B,Ad (λe=>?_) (λe=>?_)⟩
  .exact⟨g,[],(AS.nil a 0 90 5).rd,Al _,λe j=>Jq⟩
  .refine⟨_,si (A.C g) f G d G,?_⟩
   rintro w r ⟨l,es,E,m,n⟩;exact⟨g.trans l,es,E,m,n⟩
def Zb:∀es:List CI,(es.flatMap BV).all one=Ag
 |[]=>rfl
 |e::es=>by rw[Dg,Yqb,Zb es];rfl
def nV (p:Nat×Nat):AH:=[.int .i64 p.1,.int .i64 p.2]
def ADy {D:Dt} (A:DT h b D) (f:D.fits) (hs:aL s<=10000):iB S L 16 117 [AG b 0,.string s] h λw J=>∃es:List CI,AS J h.a 90 5 w (LB es) (es.flatMap BV)/\LB es<=20000*aL s/\∀e∈es,D.has e:=
 Cn f117 λd ad hL=>by
  refine⟨_,B,_,ld B (A.c 2 _ B),_,ABu A.t2 G d G,?_⟩;rintro O n ⟨p,a,P,Q,ae⟩;have u:Rd n O 2 (LB a) (a.flatMap nV):=P.rd;have R:=u;obtain⟨_,T,V,rfl,af,ag,hA⟩:=u;refine⟨λy C j=>∃(k:Nat) (t:Aa) (es:List CI),C=[(0,AG b 0),(5,t),(15,.slice T (LB a) V),(16,Vi (LB a)),(17,Vi k)]/\k<=LB a/\y=LB a-k/\LB es<=20000*k/\(∀e∈es,D.has e)/\AA n j/\AS j n.a 90 5 t (LB es) (es.flatMap BV),
   ⟨_,_,Sq,G,0,_,[],B,Al _,B,Al _,(λe g=>by cases g),AA.refl _,AS.nil _ _ _ _⟩,?_⟩
  rintro y C j ⟨k,t,es,rfl,hk,rfl,ah,E,x,o⟩ ai;apply Bz<;>intro k1;rotate_left
  .exact⟨p.trans x,es,o.mono p.a,by have:=Nat.mul_le_mul_left 20000 (show k<=aL s by omega);omega,E⟩
  have F:k<LB a:=G;obtain⟨a1,y1,W,_,H⟩:=(R.C x).el F;cases W;rw[flatK (f:=nV) (λ_=>B) a (Ab F)] at H;obtain⟨q,X⟩:∃q,q=a[k]:=⟨_,B⟩;have aj:=Q q Jq;rw[←X] at H;obtain⟨g1,z,g2,v,l⟩:=(aH.nil j).va 347 [Vi 0,Vi 0] (nV q);have aa:=(p.trans x).trans l.e;refine⟨G,_,EQ Kq Jq B,_,_,z _,_,v,_,ld B (l.q 0 _ B B),_,si (A.C aa) f G d G,?_⟩;rintro w3 h3 ⟨r,m,K,ak,ab⟩;have M:=(o.C l.e).C r;obtain⟨I,h4,Z,N,Y,u4⟩:=UN Kq M (Rd.bu K) (Rd.src K) (HV (f:=BV) (λ_=>B) m) (Zb m) (((x.trans l.e).trans r).a) G;rw[←E0,←Aj] at N;refine⟨_,_,Z,Pq,_,_,Sq,G,k+1,I,es++m,B,G,B,Jq,λe g=>?_,(((x.trans l.e).trans r).then Y λi U=>M.ai i U:AA n h4),N⟩
  rcases dF.1 g with g|g
  .exact E e g
  .exact ab e g
def ACa [cJ S L] (g:Ce h) (i:aL s<=100000000):iB S L 7 112 [.string s] h λw J=>∃z:Int,w=Vi z/\(z=0->1<=El s/\El s<=64):=
 Cn f112 λd j _=>by
  refine⟨_,gB g i d G,?_⟩;rintro _ b ⟨a,rfl⟩;refine Ad (λ_=>⟨a,_,B,λh=>Cf h Jq⟩) (λc=>?_);refine Ad (λ_=>⟨a,_,B,λh=>Cf h Jq⟩) (λe=>?_);exact Ad (λ_=>⟨a,_,B,λh=>Cf h Jq⟩) (λf=>⟨a,_,B,λ_=>by
   have c:=KK c;have e:=KK e;have f:=KK f;omega⟩)
def AEv [cJ S L] (c:Ce h) (f:aL s<=100000000):iB S L 9 120 [.string s] h λw J=>∃b:Bool,w=.bool b/\(b=Ag->aL s<=256):=
 Cn f120 λd j _=>by
  refine⟨_,tk c (e:=⟨_,s,0,0,0⟩) (Ac (by rfl)) f d G,?_⟩;rintro _ a ⟨g,z,rfl,i⟩;exact⟨g,_,B,λh=>(i (Fp h)).2⟩
def ABi {es:List CI} (c:Dq h v es) (y:LB es<=1000000000) (n:YQ S L e fv h es λv=>∃b,v=.bool b):
 iB S L (e+1) 204 [v,fv] h λw J=>∃z:Int,w=Vi z:=
 Cn f204 λd C D=>by
  have o:=c;obtain⟨g,first,cap,rfl,p⟩:=n
  obtain⟨E,q,r,rfl,F,H,K⟩:=c;refine⟨λi A a=>∃k:Nat,A=[(0,.slice q (LB es) r),(1,.func (.func g) first cap),(7,Vi (LB es)),(8,Vi k)]/\k<=LB es/\i=LB es-k/\AA h a,
   ⟨_,_,Sq,G,0,B,Al _,B,AA.refl _⟩,?_⟩
  rintro i A a ⟨k,rfl,M,rfl,x⟩ N;apply Bz<;>intro O
  .have j:k<LB es:=G
   obtain⟨a1,P,s,_,t⟩:=(Rd.C o x).el j;cases s;rw[flatK (f:=BV) (λ_=>B) es (Ab j)] at t;refine⟨G,_,EQ Kq Jq B,_,p _ Jq a x d G,?_⟩;rintro _ Q ⟨l,b,rfl⟩;refine Ad (λu=>?_) (λu=>?_)
   .exact⟨x.trans l,k,B⟩
   .exact⟨Pq,_,_,Sq,G,k+1,B,G,B,x.trans l⟩
  .exact⟨x,-1,B⟩
def AEc {es:List CI} (c:Dq h v es) (f:LB es<=1000000000) (g:YQ S L e fv h es λv=>∃b,v=.bool b):
 iB S L (e+2) 121 [v,fv] h λw J=>∃b:Bool,w=.bool b:=
 Cn f121 λd j _=>by
  refine⟨_,ABi c f g d G,?_⟩;rintro _ a ⟨i,z,rfl⟩;exact⟨i,_,B⟩
def ABd {e:CI} (c:aC h b 1 (.string s)):iB S L 1 123 [.agg ⟨BV e⟩,AG b 0] h λw J=>∃b,w=.bool b:=
 Cn f123 λd f _=>by
  let⟨g,y,x,o⟩:=PF e h;exact⟨_,_,y,_,ld B (o.cell B),_,ld B (c.C x),_,B,x,_,B⟩
def ACg {D:Dt} (A:DT h b D) (l:LB D.ps<=100000000):iB S L 2 115 [AG b 0] h λw J=>∃z:Nat,w=Vi z/\(z=0\/z<LB D.ps):=
 Cn f115 λd m n=>by
  refine⟨λc f g=>∃k:Nat,f=[(0,AG b 0),(3,Vi k)]/\k<=LB D.ps+1/\c=LB D.ps+1-k/\AA h g,
   ⟨_,_,Sq,G,1,B,G,B,AA.refl _⟩,?_⟩
  rintro c f g ⟨k,rfl,o,rfl,x⟩ p;have i:=A.C x;refine⟨_,AEj i d G,?_⟩;rintro _ _ ⟨rfl,rfl⟩;apply Bz<;>intro e
  .refine⟨_,vX i d G,?_⟩
   rintro _ _ ⟨rfl,z,rfl,_⟩;refine Ad (λj=>?_) (λj=>?_)
   .exact⟨x,k,B,.inr G⟩
   .exact⟨Pq,_,_,Sq,G,k+1,B,G,B,x⟩
  .exact⟨x,0,B,.inl B⟩
def Lj (v:Aa):Prop:=∃z:Int,v=.int .i32 z
def LJ:∀(n:Nat) (l:Bl),(CA n l).length<=n/\∀v∈CA n l,Lj v
 |0,_=>⟨Ae _,λv a=>Jq⟩
 |_+1,[]=>⟨Al _,λv a=>Jq⟩
 |n+1,b::l=>by
  let⟨h1,c⟩:=LJ n ((b::l).drop (FF (b::l)).2);rw[CA];refine⟨Jq,λv a=>?_⟩;rcases bZ.1 a with rfl|a
  .exact⟨_,B⟩
  .exact c v a
def ADp [b:cJ S L] (i:Ce h) (j:aL s<=100000000):iB S L 6 113 [.string s] h λw J=>((FH s=Ah/\w=.tuple #[.slice Z 0 0,.bool Ah])\/∃l:AH,(FH s=Ag/\l=CA s.size (aI s.data))/\w=.tuple #[sL (J.a-1) (LB l) (LB l),.bool Ag]/\aQ J (J.a-1) 21 l/\h.a<=J.a-1/\LB l<=aL s/\∀v∈l,Lj v):=
 Cn f113 λd k _=>by
  refine⟨_,b.valid i j d G,?_⟩;rintro _ m ⟨a,rfl⟩;refine⟨_,_,B,Ad (λe=>?_) (λe=>?_)⟩
  .exact⟨a,.inl ⟨Jq,B⟩⟩
  obtain⟨l,c⟩:∃l,l=CA s.size (aI s.data):=⟨_,B⟩;let⟨f,g⟩:=LJ s.size (aI s.data);rw[←c] at f g;have nx:=Jq
  refine⟨_,_,(by rw[c];rfl:Ea Ax 9 210 (.string s) m=I (sL m.a l.length l.length,HY m 21 l)),a.trans (AA.a4 m 21 l),.inr ⟨l,Jq,?_,?_,?_,f,g⟩⟩
  .rfl
  .exact aQ.a4 m 21 l
  .exact a.a
def Jt (v:Aa):Prop:=∃a b:Bd,v=.agg #[.string a,.string b]/\aL a<=400/\aL b<=400
def CZ (v:Aa):Prop:=∃z:Int,v=.int .i64 z/\0<=z/\z<=30000
def VH (a b c d:Bd):IZ Ax Op.maxDepth 221 (.agg #[Sg a,Sg b]) (.agg #[Sg c,Sg d])=I (Gp (aI a.data) (aI c.data)&&Gp (aI b.data) (aI d.data)):=by
 rw[(by rfl:IZ Ax Op.maxDepth 221 (.agg #[Sg a,Sg b]) (.agg #[Sg c,Sg d])=(match I (Gp a.data.toList c.data.toList) with|some Ag=>(match I (Gp b.data.toList d.data.toList) with|some Ag=>I Ag|some Ah=>I Ah|none=>Z)|some Ah=>I Ah|none=>Z))]
 cases Gp (aI a.data) (aI c.data)<;>cases Gp (aI b.data) (aI d.data)<;>rfl
def XA:K8 Ax 221 Jt:=by
 rintro _ ⟨a,b,rfl,_⟩;refine⟨B,?_⟩;rintro _ ⟨c,d,rfl,_⟩;refine⟨_,VH a b c d,λh=>?_⟩;rw[An] at h;obtain rfl:=CJ.1 h.1;obtain rfl:=CJ.1 h.2;show((Cy (Sg a) (Sg a))&&((Cy (Sg b) (Sg b))&&Ag))=Ag;have e:Cy (Sg a) (Sg a)=true:=h.1;have f:Cy (Sg b) (Sg b)=true:=h.2;rw[e,f];rfl
def ACs {c:List RT} (p:Ls h v c) (hn:LB c<=100000000) (P:∀x∈c,x.1.size<=400/\x.2.size<=400):iB S L 1 114 [v] h λw J=>∃r,w=.map (I r)/\sO J r Jt CZ (LB c)/\h.a<=r:=
 Cn f114 λd ad hL=>by
  have Q:=p;obtain⟨hr,R,T,rfl,ae,af,hA⟩:=p;have V:=(aH.nil h).add (a:=PW h.a Jt CZ 0) (AA.new h (.map [] 0)) ⟨Gy.new h _ _,[],0,by rw[CK,Bi B],Ae _⟩ λi U=>A2 U.symm;refine⟨λC A l=>∃k:Nat,A=[(3,.map (I h.a)),(8,.slice R (LB c) T),(9,Vi (LB c)),(10,Vi k)]/\k<=LB c/\C=LB c-k/\aH h l [PW h.a Jt CZ k],
   ⟨_,_,Sq,G,0,B,Al _,B,V⟩,?_⟩
  rintro C A l ⟨k,rfl,hk,rfl,s⟩ ag;apply Bz<;>intro k1;rotate_left
  .obtain rfl:k=LB c:=G
   exact⟨s.e,h.a,B,(s.2.1 0 _ B).1,Ae _⟩
  have o:k<LB c:=G;obtain⟨a1,y1,W,_,m⟩:=(Rd.C Q s.e).el o;cases W;rw[flatK (f:=Qm) (λ_=>B) c (Ab o)] at m;obtain⟨⟨a,b,n⟩,D⟩:∃q,q=c[k]:=⟨_,B⟩;have E:aL a<=400/\aL b<=400:=by
   have:=P _ (Bu o);rw[←D] at this;exact this
  rw[←D] at m;obtain⟨g1,X,u,z2,F⟩:=s.va 58 [Sg ⟨#[]⟩,Sg ⟨#[]⟩,Vi 0] (Qm ⟨a,b,n⟩);have H:=F.dD 0 B;obtain⟨g3,Z,g,Y,j⟩:=F.va 221 [Sg ⟨#[]⟩,Sg ⟨#[]⟩] [Sg a,Sg b];obtain⟨lv,bb,l1,l2,l3⟩:=QH (t:=213) (et:=3) Kq XA Kq (j.cz 2 B) ⟨a,b,B,E⟩ Ah;obtain⟨x,rfl,K⟩:CZ lv:=by
   cases bb with
   |true=>exact l2 B
   |false=>rw[l3 B];exact⟨0,B,Jq,by decide⟩
  have M:Bw Ax 221 g.ad u.a 0=I (.agg #[Sg a,Sg b]):=EQ Kq ((j.dD 0 B).cells) B;have c2:aC g l.a 2 (Vi n):=j.q 1 _ B B;refine⟨G,_,EQ Kq Jq B,_,_,X _,_,z2,_,ld B (H.cell B),_,ld B (H.cell B),_,_,Z _,_,Y,[],Kq,_,M,_,M,_,_,Cs (CN g.ad) l1,_,ld B c2,λz hz y hy=>?_⟩;obtain⟨h5,N,m5,v5⟩:=nW (h:=g.ad) (et:=3) Kq XA (j.cz 2 B) ⟨a,b,B,E⟩ ⟨y,B,G,G⟩;obtain⟨_,es,ck,ah,ai⟩:=(j.2.1 2 _ B).1;obtain⟨aa,ab,m,q2⟩:=Zj N Jq;have s5:=(j.aZ 2 (a':=PW h.a Jt CZ (k+1)) B v5.O ⟨m5,aa,ab,m,G⟩ (λx K=>.inl K)).drop 2;exact⟨_,_,(by rw[N];rfl:Nb (BH Ax 213 (.map (I h.a)) (.agg #[Sg a,Sg b]) (Vi y) g.ad)=I (.tuple #[],h5)),Pq,_,_,Sq,G,k+1,B,G,B,s5⟩
def kT (a:m<=aL s):C7 Ax 9 (.string s) Z (I (Vi (m:Int))) Z=I (.string (EY ((s.data.toList.drop 0).take (m-0)))):=by
 show(bif Ar 0 m&&Ar m s.size then I (Value.string (EY ((s.data.toList.drop 0).take (m-0)))) else Z)=_
 rw[Aq a];rfl
def zw {t:Bd}:Bk S L 1 203 [.string s,.string t] h λw J=>J=h/\∃b:Bool,w=.bool b/\(b=Ag->aL t<=aL s):=
 Cn f203 λd c _=>by
  refine Bz (λe=>?_) (λe=>?_)
  .exact⟨_,_,Cs (CN _) (kT G),_,B,B,_,B,λ_=>G⟩
  .exact⟨B,Ah,B,λh=>Jq⟩
def AGo {t:Bd}:Bk S L 2 118 [.string s,.string t] h λw J=>J=h/\∃b:Bool,w=.bool b/\(b=Ag->aL t<=aL s):=
 Cn f118 λd c _=>by
  refine⟨_,zw d G,?_⟩;rintro _ _ ⟨rfl,b,rfl,hb⟩;exact⟨B,b,B,hb⟩
def Rd.rune (r:Rd h v 1 n xs) (a:∀u∈xs,Lj u) (b:k<n):∃A c z,v=.slice (I A) n c/\aC h A.block (A.off+k*1+0) (.int .i32 z):=by
 have f:LB xs=n:=by have:=r.1;omega
 let⟨A,c,e,_,q⟩:=r.el b;let⟨z,d⟩:=a xs[k] Jq;refine⟨A,c,z,e,q.at ?_⟩;rw[LS,Bi Jq,Eg,BJ,UL,Ab G,d]
def AAu (Q:n<=100000000) (p:∀u∈xs,Lj u) (U:i<n) (x c:Y->Prop) (s:∀a,c a->Rd a v 1 n xs) (h0:x h) (F:Rd h v 1 n xs)
 (H:∃g first cap,fv=.func (.func g) first cap/\(∀a,x a->Bk S L e g (aI first++[Vi ((i+1:Nat):Int),Vi 10000]++aI cap) a λ_ J=>c J)/\∀(z k:Nat) a,c a->i<z->z<=n->k<=10000->Bk S L e g (aI first++[Vi z,Vi k]++aI cap) a λ_ J=>c J):
 Bk S L (e+3) 124 [v,Vi i,fv] h λ_ J=>c J:=
 Cn f124 λd R T=>by
  obtain⟨g,first,cap,rfl,K,q⟩:=H
  obtain⟨f,M,V,rfl,W⟩:=F.rune p U;refine⟨Pq,_,K h h0 d G,λ_ Z N=>⟨λy A a=>∃k:Nat,A=[(0,.slice (I f) n M),(1,Vi i),(2,.func (.func g) first cap),(6,Vi k)]/\k<=n/\y=n-k/\c a,
   ⟨_,_,Sq,G,i,B,G,B,N⟩,?_⟩⟩
  rintro y A a ⟨k,rfl,X,rfl,j⟩ aa;apply Bz<;>intro b1
  .obtain⟨C,D,r,l,m⟩:=(s a j).rune p (show k<n by omega)
   cases l;refine⟨G,_,ld B m,_,gA d G,?_⟩;rintro _ a ⟨rfl,o,rfl,_⟩;refine Ad (λE=>?_) (λE=>?_)
   .exact⟨Pq,_,_,Sq,G,k+1,B,G,B,j⟩
   .clear E
    refine⟨Pq,Ad (λa1=>?_) (λa1=>?_)⟩
    .apply Bz<;>intro O
     .refine⟨_,q k 9000 a j Jq G G d G,?_⟩
      rintro _ t b;exact b
     .let⟨C,D,r,l,m⟩:=(s a j).rune p (show i-1<n by omega)
      cases l;have P:=show((i:Int)-1).toNat=i-1 by omega▸m
      refine⟨Pq,G,_,ld B P,_,gA d G,?_⟩;rintro _ a ⟨rfl,o,rfl,_⟩;refine Ad (λw=>?_) (λw=>?_)
      .refine⟨_,q k 9000 a j Jq G G d G,?_⟩
       rintro _ t b;exact b
      .exact j
    .exact j
  .refine⟨Pq,Ad (λa1=>?_) (λa1=>?_)⟩
   .apply Bz<;>intro O
    .refine⟨_,q k 9000 a j Jq G G d G,?_⟩
     rintro _ t b;exact b
    .obtain⟨C,D,r,l,m⟩:=(s a j).rune p (show i-1<n by omega)
     cases l;refine⟨Pq,G,_,ld B (show((i:Int)-1).toNat=i-1 by omega▸m),_,gA d G,?_⟩;rintro _ a ⟨rfl,o,rfl,_⟩;refine Ad (λw=>?_) (λw=>?_)
     .refine⟨_,q k 9000 a j Jq G G d G,?_⟩
      rintro _ t b;exact b
     .exact j
   .exact j
end
section
variable{τ:Bb} {call:Be}
def Wq {S:A9} {L n:Nat} {f:Au} {fn:BC} {e:Ai} {i:KR} (r:τ.fn.get f=I fn) (s:S.hk f=Z) (t:S.a f=Z) (u:S.M f=I e) (U:τ.b.get e=I i) {a:AH} {h:Y} {m:Nat} {l:AH}
 (w:Dv l l=Ag) (z:m=0->l=[.pointer Z]) (c:MT Ag τ (B8 τ S L n) L fn a h.ad λv J=>J.lo.C h.a=Ag/\MB J h.a e i.size v=I (m,l)):
 Cd (B8 τ S L (n+1)) (.func f) a h λv J=>(m=0/\v=.slice Z 0 0/\J=h)\/(m≠0/\v=.slice (I ⟨h.a,0,Z⟩) m m/\J=HY h e l):=by
 obtain⟨o,A,C,d⟩:=jZ (W1) (kp:=λ_ _ _=>Z) (k:=λ_ v J=>bif J.lo.C h.a then(match MB J h.a e i.size v with|some (n,l)=>I [.flat n l]|none=>Z) else Z) S L r s c λv J g=>by
  rw[g.1,g.2];exact⟨_,B,by simp,λx D=>bQ.1 D⟩
 have E:fB τ S (λk=>DY τ S (B8 τ S L n) L f a h.ad k (λ_ _=>Z)) f h=J3 h e (I o):=by
  unfold fB;simp only[u,U];exact Cs (J3 h e) A
 cases o with
 |nil=>exact Cf B C
 |
  cons x o=>
  obtain rfl:=d x Av;have F:o.all (λx=>match x with|.flat n' l'=>Am n' m&&Dv l l'|_=>Ah)=true:=Jf.2 λy H=>by
   obtain rfl:=d y (Az _ H);simp only[w,Mh];exact Mi m
  have j:J3 h e (I (.flat m l::o))=(bif Am m 0 then(match l with|[.pointer Z]=>I (.slice Z 0 0,h)|_=>Z) else I (.slice (I ⟨h.a,0,Z⟩) m m,HY h e l)):=by
   have K:J3 h e (I (.flat m l::o))=(bif o.all (λx=>match x with|.flat n' l'=>Am n' m&&Dv l l'|_=>Ah) then(bif Am m 0 then(match l with|[.pointer Z]=>I (.slice Z 0 0,h)|_=>Z) else I (.slice (I ⟨h.a,0,Z⟩) m m,HY h e l)) else Z):=B
   rw[K,F];rfl
  have q:∀v J,J3 h e (I (.flat m l::o))=I (v,J)->∀k kp,B8 τ S L (n+1) (.func f) a h k kp=k v J:=λv J M k kp=>by
   simp only[B8,t,E,M]
  by_cases b:m=0
  .have N:=z b
   subst b N;exact⟨_,_,.inl ⟨B,B,B⟩,q _ _ Jq⟩
  .refine⟨_,_,.inr ⟨b,B,B⟩,q _ _ ?_⟩
   rw[j,MK.2 λe=>b (Af e)];rfl
end
section
variable{S:A9} {L:Nat} {d:Nat} {h:Y} [aF S L]
def YC:Nat->DC->Code:=UE (λ_=>.skip) λ_ d c=>match c with
 |.seq a b=>.seq a (d b)
 |c=>c
def Vf:Nat->DC->Code:=UE (λc=>c) λ_ a c=>match c with
 |.seq _ b=>a b
 |_=>.skip
def S1 {τ:Bb} {d:Be} {L:Nat} {ro:Option Nat}:∀(n:Nat) (c:DC) (K:Kt) (fr:Fr) (h:Y),
 B7 τ d L ro c K fr h=B7 τ d L ro (YC n c) {n:=λfr h=>B7 τ d L ro (Vf n c) K fr h,x:=K.x,r:=K.r,p:=K.p} fr h
 |0,_,_,_,_=>rfl
 |n+1,c,K,fr,h=>by
  cases c with
  |seq a b=>
   show B7 τ d L ro a {n:=λfr h=>B7 τ d L ro b K fr h,x:=K.x,r:=K.r,p:=K.p} fr h=B7 τ d L ro a {n:=λfr h=>B7 τ d L ro (YC n b) {n:=λfr h=>B7 τ d L ro (Vf n b) K fr h,x:=K.x,r:=K.r,p:=K.p} fr h,x:=K.x,r:=K.r,p:=K.p} fr h;congr 2;funext fr h;exact S1 n b K fr h
  |_=>rfl
def vy (τ:Bb) (a:Be) (L:Nat) (fn:BC) (n:Nat) (b:As->Y->Prop) (d:AH) (h:Y) (Q:Aa->Y->Prop):Prop:=
 match fn.body with
 |I c=>(LB d<=fn.ntmps)/\J2 τ a L fn.ntmps (YC n c)
  (kp (λA h=>∃e,Sub e A/\b e h) (λ_ _ _=>False) (λA h=>Ex τ A h (aI fn.results) (λvs=>Q (Ff vs) h))) (PJ d 0) h/\
  ∀A h,b A h->J2 τ a L fn.ntmps (Vf n c) (kp (λA h=>Ex τ A h (aI fn.results) (λvs=>Q (Ff vs) h)) (λ_ _ _=>False) (λA h=>Ex τ A h (aI fn.results) (λvs=>Q (Ff vs) h))) A h
 |Z=>False
def Nu [g:aF S L] {f:Au} {fn:BC} {b:AH} {Q:Aa->Y->Prop} (i:Ax.fn.get f=I fn) (k:Nf.contains f=Ah) (m:Nat) (l:As->Y->Prop)
 (H:∀n,d<=n->vy Ax (B8 Ax S L n) L fn m l b h Q):Bk S L (d+1) f b h Q:=by
 intro n D;obtain⟨q,rfl⟩:∃q,n=q+1:=⟨n-1,G⟩;obtain⟨o,p,s⟩:=g.plain f k;have c:=H q G;unfold vy at c;split at c
 case h_2=>cases c
 rename_i u;obtain⟨a,c,w⟩:=c;refine P1.C o p ?_;simp only[QM i s u a];rw[funext λy:(Aa->Y->RR)×(Aa->Y->RR)=>S1 m _ (Qt Ax S fn y.1 y.2) _ _];exact La W0 R3 L _ _ _ _ _ () _ h c (TB a) B B ⟨λfr h _ A x z r ⟨e,C,j⟩=>La W0 R3 L _ _ _ _ e () fr h (w e h j) (λt v a=>r t v (C t v a)) x z iw,λ_ _ _ _ _ _ _ _ c=>c.elim,iw.r,λ_ _ _ _ _ _ _ _ c=>c.elim⟩
def PE (S:A9) (L:Nat) (d:Nat) (f:Au) (a:AH) (h:Y) (Q:Aa->Y->Prop):Prop:=∀n,d<=n->jX (B8 Ax S L n) (.func f) a h Q
def Bk.any {f:Au} {a:AH} {Q:Aa->Y->Prop} (c:Bk S L d f a h Q):PE S L d f a h Q:=λn b=>(c n b).any
def pY {f:FuncId} {fn:Func} {args:AH} {Q:Value->Y->Prop} (i:∀call,(match S.a f with|some g=>g call args h|none=>none)=none) (hk:S.M f=none/\S.hk f=none) (b:Ax.fn.get f=some fn)
 (H:∀n,d<=n->MT true Ax (B8 Ax S L n) L fn args h Q):PE S L (d+1) f args h Q:=by
 intro n l;obtain⟨q,rfl⟩:∃q,n=q+1:=⟨n-1,G⟩;cases e0:S.a f with
 |none=>exact vw b hk.2 e0 hk.1 (H q G)
 |some g=>
  intro k kp p c;have j:g (B8 Ax S L q) args h=none:=by
   have:=i (B8 Ax S L q);rw[e0] at this;exact this
  have e:B8 Ax S L (q+1) (.func f) args h k kp=DY Ax S (B8 Ax S L q) L f args h k kp:=by simp only[B8,e0,j,fB,hk.1]
  rw[e];exact jZ (W1) S L b hk.2 (H q G) (k:=λ_=>k) (kp:=λ_=>kp) c
def GU [B:aF S L] {f:FuncId} {fn:Func} {args:AH} {Q:Value->Y->Prop} (b:Ax.fn.get f=some fn) (a:Nf.contains f=false)
 (H:∀n,d<=n->MT true Ax (B8 Ax S L n) L fn args h Q):PE S L (d+1) f args h Q:=pY (λ_=>by rw[(B.plain f a).1]) (B.plain f a).2 b H
end
section
variable {h J h0 h1 H:Y} {v fv nv pv cv ev lv u v':Aa} {xs args vs ys:AH} {n b N i k e r j x m c q d a p t2 st sb mo ck lp rm b0 sz off:Nat} {t:Ai} {f:Au} {fn:BC} {s:Bd} {bs:Bl} {ws:Bo} {W:Nat->Prop} {Q:Aa->Y->Prop} {A:Option BD} {z df day:Int} {ss:BZ} {τ:Bb}
variable{S:A9} {L:Nat} {es sn:List Ap} {α:Type} {g:Au} [aF S L]
def TV:∀{es:List Ap} {b lo:Nat},Fc b lo es=Ag->∀e∈es,lo<=e.born/\e.born<b
 |[],_,_,_,e,a=>Jq
 |x::es,b,lo,h,e,a=>by
  simp only[Fc,An,AK] at h;have c:=Ac h.1.1;rcases bZ.1 a with rfl|a
  .exact⟨c,h.1.2⟩
  .have:=TV h.2 e a
   exact⟨G,this.2⟩
def P3:∀{es:List Ap} {l lo:Nat},Fc l lo es=Ag->es.Nodup/\∀e∈es,∀a∈es,e.born=a.born->e=a
 |[],_,_,_=>⟨Jg,λe b=>Jq⟩
 |x::es,l,lo,h=>by
  simp only[Fc,An] at h;let⟨f,g⟩:=P3 h.2;have d:=λe b=>(TV h.2 e b).1;refine⟨List.nodup_cons.2 ⟨λi=>W7 _ (d x i),f⟩,λe b a j hb=>?_⟩;rcases bZ.1 b with k|k<;>rcases bZ.1 j with c|c
  .rw[k,c]
  .have:=d a c;rw[k] at hb;omega
  .have:=d e k;rw[c] at hb;omega
  .exact g e k a c hb
structure It (h:Y) (r m:Nat) (es sn:List Ap):Prop where
 lt:r<h.a
 m:m<h.a/\∃ck last,h.t.get m=I (.map es ck)/\Fc ck 0 es=Ag/\h.t.get r=I (.ay (I m) ck (sn.map (·.born)) last)/\(sn≠[]->last=ck)
 sub:∀e∈sn,e∈es
 M:sn.Nodup
def It.new {kt et:Ai} (a:τ.ds.get t=I (.map kt et)) (d:m<h.a) (f:h.t.get m=I (.map es ck)) (b:Fc ck 0 es=Ag):
 ∃J,Gh τ t (.map (I m)) h=I (AG h.a 0,J)/\AA h J/\It J h.a m es []/\J.a=h.a+1:=by
 refine⟨h.new (.ay (I m) ck [] ck),?_,AA.new _ _,⟨by rw[Ck];omega,⟨by rw[Ck];omega,ck,ck,by rw[CK,Bm G];exact f,b,by rw[CK,Bi B];rfl,λ_=>B⟩,(λe c=>Jq),Jg⟩,Ck _ _⟩;unfold Gh;rw[a];simp only[f]
def It.O (i:It h r m es sn) (c:B0 W h J) (f:¬W r) (g:¬W m):It J r m es sn:=by
 let⟨a,⟨b,ck,j,c1,k,c3,c4⟩,d,e⟩:=i;exact⟨AC a c.a,⟨AC b c.a,ck,j,c.t m b g▸c1,k,c.t r a f▸c3,c4⟩,d,e⟩
def It.len (i:It h r m es sn):LB sn<=LB es:=i.M.length_le_of_subset i.sub
def It.all (i:It h r m es sn) (a:∀e∈es,e∈sn):sn.Perm es:=by
 let⟨_,ck,c,_,b,_⟩:=i.m;exact(List.perm_ext_iff_of_nodup i.M (P3 b).1).2 λe=>⟨i.sub e,a e⟩
def tT (i:It h r m es sn) {k:Aa->Y->Prop} (R:(∀e∈es,e∈sn)->k (.tuple #[.bool Ah]) h)
 (w:∀e,e∈es->e∉sn->∀J,Er r h J->It J r m es (sn++[e])->k (.tuple #[.bool Ag,e.key,e.val]) J):∃x l,FT (AG r 0) Ah h=I (x::l)/\∀u J,(u,J)∈x::l->k u J:=by
 obtain⟨a,⟨b,G,y,c1,o,Q,S⟩,d,e⟩:=i;have H:=(P3 o).2;have K:r≠m:=λg=>by rw[g,c1] at Q;cases Q
 have L:(!(sn.map (·.born)).isEmpty&&!es.isEmpty&&es.all (λe=>Ar y e.born))=false:=by
  cases sn with
  |nil=>rfl
  |
   cons x sn=>
   have z:=d x Av;have O:=S wl;have:es.all (λe=>Ar y e.born)=false:=by
    rw[MK];intro g;have R:=Ac (Jf.1 g x z);have w:=(TV o x z).2;omega
   rw[this,Bool.and_false]
 have M:=Jf.2 λe p=>by rw[AK];exact(TV o e p).2
 have A:∀F,es.filter (λe=>!(sn.map (·.born)).contains e.born)=F->FT (AG r 0) Ah h=(match F with
  |[]=>I [(.tuple #[.bool Ah],h)]
  |l=>I (l.map λe=>(.tuple #[.bool Ag,e.key,e.val],h.put r (.ay (I m) G (sn.map (·.born)++[e.born]) G)))):=λF j=>by
  subst j;unfold FT;simp only[AG,Q,c1,L,M];rfl
 cases j:es.filter (λe=>!(sn.map (·.born)).contains e.born) with
 |
  nil=>
  refine⟨_,[],A _ j,λu J s=>?_⟩;cases bQ.1 s;refine R λe p=>?_;have:=List.filter_eq_nil_iff.1 j e p;simp only[Bool.not_eq_true',Bool.not_eq_false,Ace,decide_eq_true_eq] at this;obtain⟨C,n,t⟩:=dP.1 this;rw[H e p C (d C n) t.symm];exact n
 |
  cons x l=>
  refine⟨_,_,A _ j,λu J s=>?_⟩;rw[←Bp (f:=λe:Ap=>((.tuple #[.bool Ag,e.key,e.val]:Aa),h.put r (.ay (I m) G (sn.map (·.born)++[e.born]) G)))] at s;obtain⟨v,n,c⟩:=dP.1 s;cases c;rw[←j] at n;obtain⟨t,D⟩:=List.mem_filter.1 n;have E:v∉sn:=λg=>by
   have:(sn.map (·.born)).contains v.born=true:=Jq
   rw[this] at D;cases D
  refine w v t E _ (Er.put _ _ _) ⟨Jq,⟨Jq,G,G,by rw[BQ,Bm K.symm];exact c1,o,by rw[BQ,Bi B,BS];rfl,λ_=>B⟩,λq c=>?_,?_⟩
  .rcases dF.1 c with c|c
   .exact d q c
   .rw[bQ.1 c];exact t
  .rw[List.nodup_append]
   refine⟨e,Jq,λq c P N g=>?_⟩;rw[g,bQ.1 N] at c;exact E c
def QO {e:Ap} (i:It h r m es (sn++[e])):Ou (AG r 0) h=I (.tuple #[e.key,e.val]):=by
 let⟨a,⟨b,ck,c,c1,j,c3,c4⟩,d,_⟩:=i;have g:=d e Jq;have k:=c4 Jq;subst k;have l:es.find? (λx=>x.born==e.born)=I e:=by
  cases f:es.find? (λx=>x.born==e.born) with
  |none=>have:=im.1 f e g;simp at this
  |some x=>
   have o:=List.find?_some f;have n:=List.mem_of_find?_eq_some f;rw[(P3 j).2 x n e g Jq]
 unfold Ou;simp only[AG,c3,BS,Bp,List.map_nil,List.getLast?_concat,c1];rw[Mi c];simp only[D1,l]
def Yu (r m:Nat) (es g:List Ap):Ct:={
 C:=λi=>i=r\/i=m
 holds:=λh=>It h r m es g
 a:=λc f o=>o.O c (f r (.inl B)) (f m (.inr B))
 lt:=λo i U=>by rcases U with rfl|rfl;exact o.lt;exact o.m.1
 M:=λ{h J} o=>by
  let⟨a,⟨b,c⟩,d,e⟩:=o;exact⟨Jq,⟨Jq,Jq⟩,d,e⟩}
section
variable{h0 h:Y} {l:List Ct} {i r m:Nat} {es sn:List Ap}
def aH.it (s:aH h0 h l) (i:Nat) (U:l[i]?=I (Yu r m es sn)):It h r m es sn:=(s.2.1 i _ U).1
def aH.cN {kt et:Ai} (c:τ.ds.get t=I (.map kt et)) (s:aH h0 h l) {a:Ct} (U:l[i]?=I a) (b:∀x,a.C x↔x=m) (k:h.t.get m=I (.map es ck)) (d:Fc ck 0 es=Ag):
 ∃J,Gh τ t (.map (I m)) h=I (AG h.a 0,J)/\aH h0 J (l.set i (Yu h.a m es [])):=by
 let⟨J,e,f,g,_⟩:=It.new c (a.lt (s.2.1 i _ U).1 m ((b m).2 B)) k d;exact⟨J,e,s.ah _ U (f.O _) g λx j=>by rcases j with rfl|rfl;exact .inr (Ae _);exact .inl ((b _).2 B)⟩
def aH.cO (s:aH h0 h l) (U:l[i]?=I (Yu r m es sn)) {k:Aa->Y->Prop} (g:(∀e∈es,e∈sn)->k (.tuple #[.bool Ah]) h)
 (b:∀e,e∈es->e∉sn->∀J,aH h0 J (l.set i (Yu r m es (sn++[e])))->k (.tuple #[.bool Ag,e.key,e.val]) J):∃x l,FT (AG r 0) Ah h=I (x::l)/\∀u J,(u,J)∈x::l->k u J:=
 tT (s.it _ U) g λe c d J u f=>b e c d J (s.ah _ U (u.O.mono λx a=>.inl a) f λx a=>.inl a)
end
structure Cm {α:Type} (c:α->α->Int):Prop where
 cD:∀a,c a a=0
 a:∀a b,c a b<0↔0<c b a
 tr:∀a b d,c a b<=0->c b d<=0->c a d<=0
def Cm.lt {c:α->α->Int} (C:Cm c) {a b d:α} (i:c a b<=0) (e:c b d<=0) (h:c a b<0\/c b d<0):c a d<0:=by
 have a1:=C.a a d;have g:=C.a a b;have j:=C.a b d;have t2:=C.tr d a b;have f:=C.tr b d a;omega
def Cm.C {e:Type} {c:e->e->Int} (C:Cm c) (f:α->e):Cm λa b=>c (f a) (f b):=⟨λa=>C.cD _,λa b=>C.a _ _,λa b d=>C.tr _ _ _⟩
def fZ (x y:Int):Int:=if x=0 then y else x
def Cm.or {c1 f:α->α->Int} (c:Cm c1) (e:Cm f):Cm λa b=>fZ (c1 a b) (f a b):=by
 refine⟨λa=>?_,λa b=>?_,λa b d=>?_⟩
 .simp[fZ,c.cD,e.cD]
 .have a1:=c.a a b;have g:=c.a b a;have h:=e.a a b
  simp[fZ];split<;>split<;>omega
 .have j:=c.tr a b d;have t2:=e.tr a b d
  have i:=@Cm.lt α c1 c a b d;simp[fZ];split<;>split<;>split<;>omega
def fC:Cm Dx:=by
 refine⟨λa=>?_,λa b=>?_,λa b d=>?_⟩<;>simp[Dx]<;>(repeat' split)<;>omega
def Lw:∀a b:Bl,KJ a b=Ag->KJ b a=Ag->False
 |_,[],h,_=>by cases‹Bl›<;>cases h
 |[],_::_,_,h=>Jq
 |x::a,y::b,h1,c=>by
  rw[KJ] at h1 c;cases d:AD x.toNat y.toNat<;>cases f:AD y.toNat x.toNat<;>rw[d] at h1<;>rw[f] at c
  .cases hb:Am x.toNat y.toNat
   .rw[hb] at h1;cases h1
   .rw[hb] at h1
    have e:=Af hb;rw[←e,Mi _] at c;exact Lw a b h1 c
  .have:=Ac f
   cases hb:Am x.toNat y.toNat
   .rw[hb] at h1;cases h1
   .have e:=Af hb;omega
  .have:=Ac d
   cases hb:Am y.toNat x.toNat
   .rw[hb] at c;cases c
   .have e:=Af hb;omega
  .have:=Ac d;have:=Ac f;omega
def vL:∀a b d:Bl,KJ a d=Ag->KJ a b=Ag\/KJ b d=Ag
 |a,_,[],h=>by cases a<;>cases h
 |[],[],_::_,_=>.inr B
 |[],_::_,_::_,_=>.inl B
 |_::_,[],_::_,_=>.inr B
 |
  x::a,y::b,z::d,h=>by
  have st:∀(m n:Nat) r,(bif AD m n then Ag else bif Am m n then r else Ah)=Ag↔m<n\/(m=n/\r=Ag):=λm n r=>by
   cases hb:AD m n
   .have:¬m<n:=λc=>by rw[←AK] at c;rw[c] at hb;cases hb
    cases e:Am m n
    .have:m≠n:=λc=>by rw[c,Mi n] at e;cases e
     simp;omega
    .obtain rfl:=Af e
     simp
   .rw[AK] at hb;simp[hb]
  rw[KJ,st] at h;rw[KJ,KJ,st,st];rcases h with h|⟨h,f⟩
  .omega
  .rcases vL a b d f with g|g
   .rcases FD x.toNat y.toNat with c|c|c
    .exact .inl (.inl c)
    .exact .inl Jq
    .exact .inr (.inl G)
   .rcases FD y.toNat z.toNat with c|c|c
    .exact .inr (.inl c)
    .exact .inr Jq
    .exact .inl (.inl G)
def Gd (a b:Bd):Int:=if KJ (aI a.data) (aI b.data)=Ag then-1 else if KJ (aI b.data) (aI a.data)=Ag then 1 else 0
def nA:Cm Gd:=by
 refine⟨λa=>?_,λa b=>?_,λa b d=>?_⟩
 .have:=Lw (aI a.data) (aI a.data)
  unfold Gd;split
  .rename_i h;exact(this h h).elim
  .rfl
 .have:=Lw (aI a.data) (aI b.data)
  unfold Gd;split<;>split<;>simp_all
 .have f:=vL (aI d.data) (aI b.data) (aI a.data)
  have c:=Lw (aI a.data) (aI b.data);have e:=Lw (aI b.data) (aI d.data);unfold Gd;split<;>split<;>split<;>simp_all<;>(repeat' split)<;>simp_all
section
variable{α:Type} (c:α->α->Int)
def UW (x:α):List α->List α
 |[]=>[x]
 |y::l=>if c x y<0 then x::y::l else y::UW x l
def H0:List α->List α
 |[]=>[]
 |x::l=>UW c x (H0 l)
variable{c}
def OG (x:α):∀l,(UW c x l).Perm (x::l)
 |[]=>.refl _
 |y::l=>by
  rw[UW];split
  .exact .refl _
  .exact((OG x l).cons y).trans (.swap x y l)
def DO:∀l,(H0 c l).Perm l
 |[]=>.refl _
 |x::l=>(OG x _).trans ((DO l).cons x)
def Y6 (C:Cm c) (x:α):∀l,(∀y∈l,c x y≠0)->l.Pairwise (λa b=>c a b<0)->(UW c x l).Pairwise λa b=>c a b<0
 |[],_,_=>List.pairwise_singleton _ _
 |y::l,g,f=>by
  let⟨h1,h⟩:=dY.1 f;rw[UW];split
  .rename_i e
   refine dY.2 ⟨λz d=>?_,f⟩;rcases bZ.1 d with rfl|d
   .exact e
   .exact C.lt (Int.le_of_lt e) (Int.le_of_lt (h1 z d)) (.inl e)
  .rename_i i
   refine dY.2 ⟨λz d=>?_,Y6 C x l Jq h⟩;rcases bZ.1 ((OG x l).subset d) with rfl|d
   .have:=g y Av;have j:=C.a y z;omega
   .exact h1 z d
def PX (C:Cm c):∀l,l.Pairwise (λa b=>c a b≠0)->(H0 c l).Pairwise λa b=>c a b<0
 |[],_=>List.Pairwise.nil
 |x::l,h=>by
  let⟨h1,d⟩:=dY.1 h;exact Y6 C x _ (λy e=>h1 y ((DO l).subset e)) (PX C l d)
def Alc (C:Cm c) {l m:List α} (d:l.Perm m) (f:l.Pairwise λa b=>c a b<0) (e:m.Pairwise λa b=>c a b<0):l=m:=
 d.eq_of_pairwise (λa b _ _ x y=>by have:=C.a a b;omega) f e
variable{Cr:α->AH} {LU:AH->AH->Option Int}
def Zx (x:α):∀l:List α,(∀y∈l,LU (Cr x) (Cr y)=I (c x y))->Xk LU (Cr x) (l.map Cr)=I ((UW c x l).map Cr)
 |[],_=>rfl
 |y::l,h=>by
  rw[Bp,Xk,h y Av,UW];simp[];by_cases a:c x y<0
  .rw[Bi a,GJ.2 a];rfl
  .rw[Bm a,MK.2 λe=>a (GJ.1 e)]
   rw[I0,Zx x l λz b=>h z Jq];rfl
def Wa:∀l:List α,(∀x∈l,∀y∈l,LU (Cr x) (Cr y)=I (c x y))->Pc LU (l.map Cr)=I ((H0 c l).map Cr)
 |[],_=>rfl
 |x::l,h=>by
  rw[Bp,Pc,Wa l λa e b hb=>h a Jq b Jq];exact Zx x _ λy d=>h x Av y (Az _ ((DO l).subset d))
def Tq (C:Cm c) (x:α):∀l:List α,(∀y∈l,LU (Cr x) (Cr y)=I (c x y)/\LU (Cr y) (Cr x)=I (c y x)/\c x y<0)->Ot LU (Cr x) (l.map Cr)=Ag
 |[],_=>rfl
 |y::l,h=>by
  let⟨h1,a,b⟩:=h y Av;have a1:=C.a x y;rw[Bp,Ot,h1,a];simp only[];rw[GJ.2 b,show Nr (c y x)=Ah from MK.2 λe=>by have:=GJ.1 e;omega,Tq C x l λz d=>h z Jq];rfl
def Th (C:Cm c):∀l:List α,(∀x∈l,∀y∈l,LU (Cr x) (Cr y)=I (c x y))->l.Pairwise (λa b=>c a b<0)->MQ LU (l.map Cr)=Ag
 |[],_,_=>rfl
 |x::l,h,d=>by
  let⟨h1,e⟩:=dY.1 d;rw[Bp,MQ,h x Av x Av,C.cD];rw[Tq C x l λy f=>Jq,
   Th C l Jq e];rfl
def S2 {b:T Aa} (d:∀a:α,(Cr a).length=k):∀(l:List α) (off:Nat),(∀(i:Nat) v,(l.flatMap Cr)[i]?=I v->b.get (off+i)=I v)->HF k b off (LB l)=I (l.map Cr)
 |[],_,_=>rfl
 |
  x::l,off,h=>by
  have e:=d x;have j:DV b k off=I (Cr x):=by
   have p:∀(ys:AH) o,(∀(i:Nat) v,ys[i]?=I v->b.get (o+i)=I v)->DV b (LB ys) o=I ys:=by
    intro ys
    induction ys with
    |nil=>intro o _;rfl
    |cons y ys m=>
     intro o f;show(match b.get o with|I v=>(match DV b (LB ys) (o+1) with|I l=>I (v::l)|Z=>Z)|Z=>Z)=_
     have h0:=f 0 y B;rw[UL] at h0;rw[h0,m (o+1) λi v c=>show o+1+i=o+(i+1) by omega▸f (i+1) v (by simpa using c)]
   have:=p (Cr x) off (λi v c=>h i v Jq:∀(i:Nat) v,(Cr x)[i]?=I v->b.get (off+i)=I v)
   rwa [e] at this
  have n:=S2 d l (off+k) λi v c=>by
   rw[DD];exact h (k+i) v (by rw[Dg,Bq G,e,Ds];exact c)
  show(match DV b k off,HF k b (off+k) (LB l) with|I g,I l=>I (g::l)|_,_=>Z)=_
  rw[j,n];rfl
end
def sj (S:A9) (L d:Nat) (g:Au) (nx:Nat) (a b:AH) (z:Int):Prop:=Bk S L d g [.agg ⟨a⟩,.agg ⟨b⟩] ⟨.nil,nx,.no⟩ λw J=>w=.int .i64 z/\AA ⟨.nil,nx,.no⟩ J
def Zu {nx:Nat} {a b:AH} (H:sj S L d g nx a b z) (c:d<=n):Nd (B8 Ax S L n) g nx a b=I z:=by
 obtain⟨v,J,⟨rfl,x⟩,e⟩:=H n c;unfold Nd;rw[e];have:=x.lo nx Jq B;simp[this]
def SU {c:α->α->Int} {Cr:α->AH} (C:Cm c) {d:Be} {i:KR} (hb:EV Ax g=Ag) (U:Ax.b.get e=I i)
 (q:∀a,(Cr a).length=i.size/\(Cr a).all aJ=Ag) {l:List α} (K:LB l=n+1) (r:n+1<=1000000) (s:l.Pairwise λa b=>c a b≠0)
 (k:∀x∈l,∀y∈l,Nd d g h.a (Cr x) (Cr y)=I (c x y)) {f:T Aa} {m:Bool} (u:h.t.get b=I (.cells f N e 0 0 m)) (v:(n+1)*i.size<=N) (w:HF i.size f 0 (n+1)=I (l.map Cr)) {z:Nat}:
 IA Ax e d [.slice (I ⟨b,0,Z⟩) (n+1) z,.func (.func g) #[] #[]] h=I (.tuple #[],h.put b (.cells (T.laid ((H0 c l).map Cr).flatten 0 f) N e 0 0 m)):=by
 have A:=Wa l k;have D:=Th C (H0 c l) (λx j y E=>k x ((DO l).subset j) y ((DO l).subset E)) (PX C l s);have F:((l.map Cr).all (λg=>g.all aJ)&&Ar ((n+1)*i.size) N&&Am e e&&AD 0 (n+1)&&Ar (n+1) 1000000&&EV Ax g)=Ag:=by
  have:(l.map Cr).all (λg=>g.all aJ)=true:=Jf.2 λx j=>by
   obtain⟨a,_,rfl⟩:=dP.1 j;exact(q a).2
  rw[this,hb,Aq r,Aq v];simp[AK]
 show(match h.t.get b,Ax.b.get e with
  |I (.cells c n' H 0 0 x),I i=>(match HF i.size c 0 (n+1) with
   |I o=>bif o.all (λg=>g.all aJ)&&Ar ((n+1)*i.size) n'&&Am H e&&AD 0 (n+1)&&Ar (n+1) 1000000&&EV Ax g then
    (match Pc (Nd d g h.a) o with
    |I p=>bif MQ (Nd d g h.a) p then I (C4 #[],h.put b (.cells (T.laid p.flatten 0 c) n' e 0 0 x)) else Z
    |Z=>Z) else Z
   |Z=>Z)
  |_,_=>Z)=_
 rw[u,U];simp only[w,F,D1,A,D]
def QS {c:α->α->Int} {Cr:α->AH} (C:Cm c) (P:S.a f=I (IA Ax e)) (hb:EV Ax g=Ag) (U:(match Ax.b.get e with|some i=>Am i.size k|none=>Ah)=Ag)
 (z:∀a,(Cr a).length=k/\(Cr a).all aJ=Ag) {l:List α} (o:AS h N e k v n (l.flatMap Cr)) (r:LB l=n) (Q:n<=1000000) (R:l.Pairwise λa b=>c a b≠0)
 (V:∀x∈l,∀y∈l,sj S L d g h.a (Cr x) (Cr y) (c x y)):
 Bk S L (d+1) f [v,.func (.func g) #[] #[]] h λw J=>w=.tuple #[]/\AS J N e k v n ((H0 c l).flatMap Cr)/\B0 (BY v) h J:=by
 intro m hm;obtain⟨m,rfl⟩:∃q,m=q+1:=⟨m-1,G⟩;obtain⟨i,W,D⟩:∃i,Ax.b.get e=I i/\i.size=k:=by
  split at U
  .exact⟨_,by assumption,Af U⟩
  .cases U
 suffices H:∃J,IA Ax e (B8 Ax S L m) [v,.func (.func g) #[] #[]] h=I (.tuple #[],J)/\AS J N e k v n ((H0 c l).flatMap Cr)/\B0 (BY v) h J by
  let⟨J,h1,X⟩:=H;exact⟨_,J,⟨B,X⟩,YV P h1⟩
 cases n with
 |zero=>
  obtain rfl:l=[]:=BO r;obtain⟨_,A,cc,rfl,_⟩:=o.rd;exact⟨h,by cases A<;>rfl,o,(AA.refl h).O _⟩
 |
  succ n=>
  obtain⟨E,⟨rfl,h0⟩|⟨b,cp,sp,rfl,hN,aa,ab,ad,cc,Y,hg,F⟩⟩:=o
  .cases h0
  have s:(H0 c l).length=n+1:=by rw[(DO l).length_eq,r]
  have p:∀l:List α,LB l=n+1->(l.flatMap Cr).length=(n+1)*k:=λl h=>by rw[HV (λa=>(z a).1),h]
  have K:=S2 (λa=>(z a).1) l 0 λi v M=>by
   rw[Ba];exact F i v (by rw[AB (cG.1 M).1];exact M)
  rw[r] at K;have ae:((H0 c l).map Cr).flatten=(H0 c l).flatMap Cr:=B;refine⟨_,SU C hb W Jq r Q R (λx E y Z=>Zu (V x E y Z) G) hg Jq Jq,⟨p _ s,.inr ⟨b,cp,sp,B,hN,aa,?_,?_⟩⟩,(Er.put h b _).O⟩
  .rw[Aj,p _ s,←ab,Aj,p l r]
  .refine⟨Jq,_,Y,by rw[BQ,Bi B,Aj,Aj,p _ s,p l r],λj u t=>?_⟩
   rw[T.O,ae];by_cases O:0<=j/\j<0+((H0 c l).flatMap Cr).length
   .rw[Bi O,DL]
    rw[AB G] at t;exact t
   .rw[Bm O]
    rw[Bq G] at t;refine F j u ?_;rw[Bq Jq,p l r,←p _ s];exact t
end
open Go Go.Proofs Tryz
section
variable {h J h0 h1 H:Y} {v fv nv pv cv ev lv u v':Aa} {xs args vs ys:AH} {n b N i k e r j x m c q d a p t2 st sb mo ck lp rm b0 sz off:Nat} {t:Ai} {f:Au} {fn:BC} {s:Bd} {bs:Bl} {ws:Bo} {W:Nat->Prop} {Q:Aa->Y->Prop} {A:Option BD} {z df day:Int} {ss:BZ} {τ:Bb}
variable{S:A9} {L:Nat} {l:List BI} [aF S L]
def sU {x:Bd}:Bk S L 1 298 [Sg x] h λw J=>w=.bool Ah/\J=h:=
 Cn f298 λd b _=>by
  refine⟨_,B,?_,B⟩;show CU (!Gp (aI x.data) (aI x.data))=_;rw[CJ.2 B];rfl
def Ul:∀a b:Bl,KJ a b=Ah->(Gp a b=Ah↔KJ b a=Ag)
 |[],[],_=>by decide
 |[],_::_,h=>by cases h
 |_::_,[],_=>⟨λ_=>B,λ_=>B⟩
 |x::a,y::b,h=>by
  rw[KJ] at h;rw[Gp,KJ];cases h1:AD x.toNat y.toNat with
  |true=>rw[h1] at h;cases h
  |false=>
   rw[h1,I0] at h;cases c:Am x.toNat y.toNat with
   |true=>
    rw[c,D1] at h;have e:=Af c;rw[←e,show AD x.toNat x.toNat=Ah by rw[MK,ne_eq,AK];omega,Mi _];exact Ul a b h
   |false=>
    have e:dE x≠dE y:=λe=>by rw[e,Mi _] at c;cases c
    have:dE y<dE x:=by
     have:¬dE x<dE y:=λd=>by rw[←AK] at d;rw[d] at h1;cases h1
     omega
    rw[show AD y.toNat x.toNat=Ag by rw[AK];exact this];exact⟨λ_=>B,λ_=>B⟩
def nG {x y:Bd}:Bk S L 2 210 [Sg x,Sg y] h λw J=>w=Vi (Gd x y)/\J=h:=
 Cn f210 λd g _=>by
  refine cl (sU) ?_;rintro _ h ⟨rfl,rfl⟩;refine cl (sU) ?_;rintro _ h ⟨rfl,rfl⟩;refine⟨_,B,Ad (λe=>?_) (λe=>?_)⟩
  .exact⟨by rw[Gd,Bi e];rfl,B⟩
  have e:=e;have c:=Ul _ _ e;refine⟨_,B,Ad (λa=>?_) (λa=>?_)⟩
  .have a:=a
   rw[e] at a;exact⟨by rw[Gd,Bm (by rw[e];decide),Bi (c.1 (by simpa using a))];rfl,B⟩
  have a:=a;rw[e] at a;exact⟨by rw[Gd,Bm (by rw[e];decide),Bm (λf=>by rw[c.2 f] at a;cases a)];rfl,B⟩
def fY:List Int->Int
 |[]=>0
 |x::l=>fZ x (fY l)
def nE {xs:List Int} (r:Rd h v 1 (LB xs) (Ew xs)) (s:LB xs<=1000000):Bk S L 1 208 [v] h λw J=>w=Vi (fY xs)/\J=h:=
 Cn f208 λd t u=>by
  have l:=r;obtain⟨_,m,n,rfl,_⟩:=r;refine⟨λf A g=>∃k:Nat,A=[(3,Vi 0),(6,.slice m (LB xs) n),(7,Vi (LB xs)),(8,Vi k)]/\k<=LB xs/\f=LB xs-k/\fY xs=fY (xs.drop k)/\g=h,
   ⟨_,_,Sq,G,0,B,Al _,B,B,B⟩,?_⟩
  rintro f A g ⟨k,rfl,x,rfl,c,rfl⟩ z;apply Bz<;>intro e
  .have i:k<LB xs:=G
   let⟨a,y,o,_,q⟩:=l.at_ G;cases o;have p:=Di i;rw[p,fY,fZ] at c;refine⟨G,_,Dz (ld B (q k (Vi xs[k]) (by rw[Ew,AX,Ab i];rfl))) xU,Ad (λb=>?_) (λb=>?_)⟩
   .have b:¬xs[k]=0:=Jq
    rw[Bm b] at c;exact⟨by rw[c];rfl,B⟩
   .have b:xs[k]=0:=Jq
    rw[Bi b] at c;exact⟨Pq,_,_,Sq,G,k+1,B,G,B,c,B⟩
  .obtain rfl:k=LB xs:=G
   exact⟨by rw[c,List.drop_length];rfl,B⟩
def ZY (t:Ai) (cs:AH) (h:Y):∃g,K7 Ax t (.agg ⟨cs⟩) h=I (AG h.a 0,g)/\AA h g/\aQ g h.a t cs:=by
 let⟨g,y,s⟩:=(aH.nil h).box Ax t (.agg ⟨cs⟩);exact⟨g,y,s.e,s.dD 0 B⟩
def Ty (a b:BI):Int:=fY [Dx a.f b.f,Dx b.t a.t,Dx a.c b.c,Gd a.s b.s,Dx a.l b.l,Dx a.r b.r]
def ln {a:Type}:Cm λ_ _:a=>0:=⟨λ_=>B,λ_ _=>⟨λh=>h,λh=>h⟩,λ_ _ _ h _=>h⟩
def Cm.flip {e:Type} {c:e->e->Int} (C:Cm c):Cm λa b=>c b a:=⟨C.cD,λa b=>C.a b a,λa b d g f=>C.tr d b a f g⟩
def lm:Cm Ty:=(fC.C BI.f).or ((fC.C BI.t).flip.or ((fC.C BI.c).or ((nA.C BI.s).or ((fC.C BI.l).or ((fC.C BI.r).or ln)))))
def Mu {x y:Int} (h:Dx x y=0):x=y:=by unfold Dx at h;split at h<;>first|omega|(split at h<;>omega)
def Ob {x y:Int} (h:fZ x y=0):x=0/\y=0:=by unfold fZ at h;split at h<;>omega
def zk (xs:List Int) (b:LB xs<=6) (ps:List (Nat×Aa)) (h:Y) (a:Jw (λk=>I (k*1,1)) ps (Dy [Vi 0] (LB xs))=I (Ew xs)):Bs Ax 50 (LB xs) ps h=I (sL h.a (LB xs) (LB xs),BN h 3 (Ew xs)):=by
 show(bif(AD 0 1&&Am 1 1&&Ar (LB xs*1) 16777216) then(match Jw (λk=>I (k*1,1)) ps (Dy [Vi 0] (LB xs)) with
  |I cs=>I (sL h.a (LB xs) (LB xs),BN h 3 cs)
  |Z=>Z) else Z)=_
 rw[a,Aq G];rfl
def XK {xs:List Int} {ps:List (Nat×Aa)} (a:LB xs=n) (b:n<=6) (c:Jw (λk=>I (k*1,1)) ps (Dy [Vi 0] n)=I (Ew xs)):∃g,Bs Ax 50 n ps h.ad=I (sL h.a n n,g)/\AA h (h.M g)/\Rd (h.M g) (sL h.a n n) 1 (LB xs) (Ew xs):=by
 subst a;refine⟨BN h.ad 3 (Ew xs),zk xs b ps h.ad c,(AA.row h.ad 3 _).M,?_⟩;have o:=aQ.row h.ad 3 (Ew xs);exact(aQ.bN o (by simp[Ew]) (Al _)).rd.M
def sk {a b:BI}:Bk S L 3 127 [.agg ⟨Bt a⟩,.agg ⟨Bt b⟩] h λw J=>w=Vi (Ty a b)/\AA h J:=
 Cn f127 λd R _=>by
  obtain⟨A,D,E,F⟩:=ZY 109 (Bt a) h;obtain⟨m,K,C,M⟩:=ZY 109 (Bt b) A;have j:∀H,AA m H->∀i v,(Bt a)[i]?=I v->aC H h.a i v:=λH x i v e=>((F.C C).C x).cell e;have k:∀H,AA m H->∀i v,(Bt b)[i]?=I v->aC H A.a i v:=λH x i v e=>(M.C x).cell e;have o:=AA.refl m;have p:=AT o;have q:=AT p;have u:=AT q;have y:=AT u;have z:=AT y;have N:=AT z;refine⟨_,_,D,_,_,K,[],Kq,_,ld B (j _ o 0 _ B),_,ld B (k _ o 0 _ B),_,Qo (h:=Y.ad _) d G,?_⟩;rintro _ _ ⟨rfl,rfl⟩;refine⟨B,_,ld B (k _ p 1 _ B),_,ld B (j _ p 1 _ B),_,Qo (h:=Y.ad _) d G,?_⟩;rintro _ _ ⟨rfl,rfl⟩;refine⟨B,_,ld B (j _ q 5 _ B),_,ld B (k _ q 5 _ B),_,Qo (h:=Y.ad _) d G,?_⟩;rintro _ _ ⟨rfl,rfl⟩;refine⟨B,_,ld B (j _ u 2 _ B),_,ld B (k _ u 2 _ B),_,nG (h:=Y.ad _) d G,?_⟩;rintro _ _ ⟨rfl,rfl⟩;refine⟨B,_,ld B (j _ y 3 _ B),_,ld B (k _ y 3 _ B),_,Qo (h:=Y.ad _) d G,?_⟩;rintro _ _ ⟨rfl,rfl⟩;refine⟨B,_,ld B (j _ z 4 _ B),_,ld B (k _ z 4 _ B),_,Qo (h:=Y.ad _) d G,?_⟩;rintro _ _ ⟨rfl,rfl⟩;obtain⟨T,O,P,Q⟩:=XK (h:=nb (nb (nb (nb (nb (nb m)))))) (xs:=[Dx a.f b.f,Dx b.t a.t,Dx a.c b.c,Gd a.s b.s,Dx a.l b.l,Dx a.r b.r]) (n:=6)
   (ps:=[(0,Vi (Dx a.f b.f)),(1,Vi (Dx b.t a.t)),(2,Vi (Dx a.c b.c)),(3,Vi (Gd a.s b.s)),(4,Vi (Dx a.l b.l)),(5,Vi (Dx a.r b.r))]) B xc B
  refine⟨B,_,_,O,_,nE (h:=Y.ad _) Q (Ac B) d G,?_⟩;rintro _ _ ⟨rfl,rfl⟩;exact⟨B,B,(E.trans C).trans (AT (N.trans P))⟩
def Xd (a b:CI):Int:=fY [Gd a.rd b.rd,Dx a.c b.c,Gd a.b b.b,Dx a.l b.l,Dx a.r b.r]
def pn:Cm Xd:=(nA.C CI.rd).or ((fC.C CI.c).or ((nA.C CI.b).or ((fC.C CI.l).or ((fC.C CI.r).or ln))))
def ACb {a b:CI}:Bk S L 3 165 [.agg ⟨BV a⟩,.agg ⟨BV b⟩] h λw J=>w=Vi (Xd a b)/\AA h J:=
 Cn f165 λd N _=>by
  obtain⟨t,y,z,A⟩:=ZY 90 (BV a) h;obtain⟨k,C,u,D⟩:=ZY 90 (BV b) t;have g:∀H,AA k H->∀i v,(BV a)[i]?=I v->aC H h.a i v:=λH x i v e=>((A.C u).C x).cell e;have j:∀H,AA k H->∀i v,(BV b)[i]?=I v->aC H t.a i v:=λH x i v e=>(D.C x).cell e;have m:=AA.refl k;have o:=AT m;have p:=AT o;have q:=AT p;have s:=AT q;have E:=AT s;refine⟨_,_,y,_,_,C,[],Kq,_,ld B (g _ m 0 _ B),_,ld B (j _ m 0 _ B),_,nG (h:=Y.ad _) d G,?_⟩;rintro _ _ ⟨rfl,rfl⟩;refine⟨B,_,ld B (g _ o 4 _ B),_,ld B (j _ o 4 _ B),_,Qo (h:=Y.ad _) d G,?_⟩;rintro _ _ ⟨rfl,rfl⟩;refine⟨B,_,ld B (g _ p 1 _ B),_,ld B (j _ p 1 _ B),_,nG (h:=Y.ad _) d G,?_⟩;rintro _ _ ⟨rfl,rfl⟩;refine⟨B,_,ld B (g _ q 2 _ B),_,ld B (j _ q 2 _ B),_,Qo (h:=Y.ad _) d G,?_⟩;rintro _ _ ⟨rfl,rfl⟩;refine⟨B,_,ld B (g _ s 3 _ B),_,ld B (j _ s 3 _ B),_,Qo (h:=Y.ad _) d G,?_⟩;rintro _ _ ⟨rfl,rfl⟩;obtain⟨O,F,K,M⟩:=XK (h:=nb (nb (nb (nb (nb k))))) (xs:=[Gd a.rd b.rd,Dx a.c b.c,Gd a.b b.b,Dx a.l b.l,Dx a.r b.r]) (n:=5)
   (ps:=[(0,Vi (Gd a.rd b.rd)),(1,Vi (Dx a.c b.c)),(2,Vi (Gd a.b b.b)),(3,Vi (Dx a.l b.l)),(4,Vi (Dx a.r b.r))]) B xc B
  refine⟨B,_,_,F,_,nE (h:=Y.ad _) M (Ac B) d G,?_⟩;rintro _ _ ⟨rfl,rfl⟩;exact⟨B,B,(z.trans u).trans (AT (E.trans K))⟩
def UY (a b:Int×Int):Int:=fY [Dx a.1 b.1,Dx a.2 b.2]
def ph:Cm UY:=(fC.C Eh).or ((fC.C fS).or ln)
def ACr {a b:Int×Int}:Bk S L 3 272 [.agg ⟨E4 a⟩,.agg ⟨E4 b⟩] h λw J=>w=Vi (UY a b)/\AA h J:=
 Cn f272 λd C _=>by
  obtain⟨k,p,q,r⟩:=ZY 321 (E4 a) h;obtain⟨f,s,l,t⟩:=ZY 321 (E4 b) k;have m:∀H,AA f H->∀i v,(E4 a)[i]?=I v->aC H h.a i v:=λH x i v e=>((r.C l).C x).cell e;have o:∀H,AA f H->∀i v,(E4 b)[i]?=I v->aC H k.a i v:=λH x i v e=>(t.C x).cell e;have g:=AA.refl f;have j:=AT g;have u:=AT j;refine⟨_,_,p,_,_,s,[],Kq,_,ld B (m _ g 0 _ B),_,ld B (o _ g 0 _ B),_,Qo (h:=Y.ad _) d G,?_⟩;rintro _ _ ⟨rfl,rfl⟩;refine⟨B,_,ld B (m _ j 1 _ B),_,ld B (o _ j 1 _ B),_,Qo (h:=Y.ad _) d G,?_⟩;rintro _ _ ⟨rfl,rfl⟩;obtain⟨D,y,z,A⟩:=XK (h:=nb (nb f)) (xs:=[Dx a.1 b.1,Dx a.2 b.2]) (n:=2) (ps:=[(0,Vi (Dx a.1 b.1)),(1,Vi (Dx a.2 b.2))]) B xc B;refine⟨B,_,_,y,_,nE (h:=Y.ad _) A (Ac B) d G,?_⟩;rintro _ _ ⟨rfl,rfl⟩;exact⟨B,B,(q.trans l).trans (AT (u.trans z))⟩
def bm (x:Bool) (r:Option Bool):Option Bool:=match I x with
 |I Ag=>r
 |I Ah=>I Ah
 |Z=>Z
def L1 (x y:Bool):bm x (I y)=I (x&&y):=by cases x<;>rfl
def BI.key (n:BI):BI:=⟨n.f,n.t,n.s,n.l,n.r,0,0⟩
def Xl (a b:BI):Bool:=a.f==b.f&&(a.t==b.t&&(Gp (aI a.s.data) (aI b.s.data)&&(a.l==b.l&&(a.r==b.r&&Ag))))
def NO {a b:BI}:Xl a b=Ag↔a.key=b.key:=by
 unfold Xl;rw[An,An,An,An,Mh,CJ];simp[BI.key]
def TK (a b:BI):IZ Ax Op.maxDepth 109 (.agg ⟨Bt a.key⟩) (.agg ⟨Bt b.key⟩)=I (Xl a b):=by
 have e:IZ Ax Op.maxDepth 109 (.agg ⟨Bt a.key⟩) (.agg ⟨Bt b.key⟩)=bm (a.f==b.f) (bm (a.t==b.t) (bm (Gp (aI a.s.data) (aI b.s.data)) (bm (a.l==b.l) (bm (a.r==b.r) (bm ((0:Int)==0) (bm ((0:Int)==0) (I Ag))))))):=B;rw[e];simp[L1];simp[Xl]
def Gb (n:BI):Value:=.agg ⟨Bt n.key⟩
def Agw (n:BI):Cy (Gb n) (Gb n)=true:=by
 have e:Cy (Gb n) (Gb n)=((Ag&&decide (n.f=n.f))&&((Ag&&decide (n.t=n.t))&&(Gp (aI n.s.data) (aI n.s.data)&&((Ag&&decide (n.l=n.l))&&((Ag&&decide (n.r=n.r))&&((Ag&&decide ((0:Int)=0))&&((Ag&&decide ((0:Int)=0))&&Ag))))))):=B;rw[e,CJ.2 B];simp
def I4 (h:Y) (r:Nat) (l:List BI):Prop:=r<h.a/\∃es b,h.t.get r=I (.map es b)/\Fc b 0 es=Ag/\es.map (λe:Ap=>(e.key,e.val))=l.map λn=>(Gb n,(.agg ⟨Bt n⟩))
def aN (r:Nat) (l:List BI):Ct:={
 C:=λi=>i=r
 holds:=λh=>I4 h r l
 a:=λc a o=>⟨AC o.1 c.a,c.t r o.1 (a r B)▸o.2⟩
 lt:=λo i U=>U▸o.1
 M:=λo=>by unfold I4;rw[CL,DF];exact o}
def Mp (n:BI):List BI->List BI
 |[]=>[n]
 |m::l=>if Xl n m=Ag then n::l else m::Mp n l
def Q8 {n m:BI}:∀{l},m∈Mp n l->m=n\/m∈l
 |[],h=>.inl (bQ.1 h)
 |x::l,h=>by
  rw[Mp] at h;split at h
  .rcases bZ.1 h with h|h
   .exact .inl h
   .exact .inr (Az _ h)
  .rcases bZ.1 h with h|h
   .exact .inr (h▸Av)
   .rcases Q8 h with h|h
    .exact .inl h
    .exact .inr (Az _ h)
def SZ (n:BI):∀l,n∈Mp n l
 |[]=>bQ.2 B
 |x::l=>by
  rw[Mp];split
  .exact Av
  .exact Az _ (SZ n l)
def VY {n m:BI}:∀{l},m∈l->∃x∈Mp n l,x.key=m.key
 |x::l,h=>by
  rw[Mp];rcases bZ.1 h with rfl|h
  .split
   .rename_i a;exact⟨n,Av,NO.1 a⟩
   .exact⟨m,Av,B⟩
  .split
   .exact⟨m,Az _ h,B⟩
   .obtain⟨y,c,b⟩:=VY h;exact⟨y,Az _ c,b⟩
def SI {n:BI}:∀{l:List BI},l.Pairwise (λa b=>a.key≠b.key)->(Mp n l).Pairwise λa b=>a.key≠b.key
 |[],_=>List.pairwise_singleton _ _
 |x::l,h=>by
  let⟨h1,f⟩:=dY.1 h;rw[Mp];split
  .rename_i d
   exact dY.2 ⟨λy c=>NO.1 d▸h1 y c,f⟩
  .rename_i d
   refine dY.2 ⟨λy c=>?_,SI f⟩;rcases Q8 c with rfl|c
   .exact λe=>d (NO.2 e.symm)
   .exact h1 y c
def VI {n:BI}:∀l:List BI,(Mp n l).length<=LB l+1
 |[]=>Ae _
 |x::l=>by rw[Mp];split<;>simp[AO]<;>have:=VI (n:=n) l<;>omega
def oY (n:BI):∀(es:List Ap) (l:List BI) (i g:Nat),es.map (λe:Ap=>(e.key,e.val))=l.map (λn=>(Gb n,(.agg ⟨Bt n⟩:Aa)))->
 (CE Ax 109 (Gb n) es i=I Z/\(es++[({key:=Gb n,val:=.agg ⟨Bt n⟩,born:=g}:Ap)]).map (λe:Ap=>(e.key,e.val))=(Mp n l).map λn=>(Gb n,(.agg ⟨Bt n⟩:Aa)))\/
 ∃j e m,CE Ax 109 (Gb n) es i=I (I (i+j,e))/\e.val=.agg ⟨Bt m⟩/\m∈l/\m.key=n.key/\Cy e.key (Gb n)=Ag/\(Cu es j λe=>{e with key:=Gb n,val:=.agg ⟨Bt n⟩}).map (λe:Ap=>(e.key,e.val))=(Mp n l).map λn=>(Gb n,(.agg ⟨Bt n⟩:Aa))
 |[],[],i,g,_=>.inl ⟨B,B⟩
 |[],_::_,_,_,h=>Jq
 |_::_,[],_,_,h=>Jq
 |e::es,m::l,i,g,h=>by
  simp[Bp,eV.injEq,eD.injEq] at h;let⟨⟨h1,a⟩,b⟩:=h;rw[CE,h1,show IZ Ax Op.maxDepth 109 (Gb n) (Gb m)=I (Xl n m) from TK n m,Mp];cases d:Xl n m with
  |true=>
   have c:=NO.1 d;refine .inr ⟨0,e,m,B,a,Av,c.symm,?_,?_⟩
   .rw[h1,show Gb m=Gb n by unfold Gb;rw[c]];exact Agw n
   .simp[Cu,b]
  |false=>
   rcases oY n es l (i+1) g b with⟨o,k⟩|⟨j,f,m',o,k,s,r,q,p⟩
   .refine .inl ⟨o,?_⟩
    simp[BE,if_false,KB,Bp,h1,a,k]
   .refine .inr ⟨j+1,f,m',Jq,k,Az _ s,r,q,?_⟩
    simp[BE,if_false,Cu,Bp,h1,a,p]
def DS:BI:=⟨0,0,⟨#[]⟩,0,0,0,0⟩
def jY (m:I4 h r l) (n:BI):∃x b,BW Ax 216 (.map (I r)) (Gb n) Ag h=I (.tuple #[.agg ⟨Bt x⟩,.bool b])/\(b=Ag->x∈l/\x.key=n.key):=by
 let⟨_,es,ck,h1,_,d⟩:=m;have a:Ax.ds.get 216=I (.map 109 109):=B
 have c:Do Ax 5 109 (Gb n)=Ag:=B
 unfold BW;rcases oY n es l 0 0 d with⟨f1,_⟩|⟨j,e,m,f1,f2,f3,f4,_⟩
 .exact⟨DS,Ah,by simp only[a,c,D1,h1,f1,Kq];rfl,λh=>Jq⟩
 .exact⟨m,Ag,Jq,λ_=>⟨f3,f4⟩⟩
def Q7 (m:I4 h r l) (n:BI):∃J,BH Ax 216 (.map (I r)) (Gb n) (.agg ⟨Bt n⟩) h=I J/\I4 J r (Mp n l)/\Er r h J:=by
 let⟨a,es,ck,h1,b,g⟩:=m;have c:Ax.ds.get 216=I (.map 109 109):=B
 have d:Do Ax 5 109 (Gb n)=Ag:=B
 unfold BH;rcases oY n es l 0 ck g with⟨i,o⟩|⟨j,e,m,i,_,_,_,p,k⟩
 .refine⟨h.put r (.map (es++[({key:=Gb n,val:=.agg ⟨Bt n⟩,born:=ck})]) (ck+1)),Jq,⟨Jq,_,_,by rw[BQ,Bi B],Kd _ _ es ck 0 b (Al _),o⟩,Er.put _ _ _⟩
 .rw[Ba] at i
  refine⟨h.put r (.map (Cu es j λe=>{e with key:=Gb n,val:=.agg ⟨Bt n⟩}) ck),Jq,⟨Jq,_,_,by rw[BQ,Bi B],Kc (f:=λe=>{e with key:=Gb n,val:=.agg ⟨Bt n⟩}) (λ_=>B) es _ ck 0 b,k⟩,Er.put _ _ _⟩
def jA [a:cJ S L] (b:Ce h) (c:aL s<=100000000):iB S L 6 119 [Sg s] h λw J=>w=.bool (FH s):=
 Cn f119 λd f _=>by
  refine cl (a.valid b c) ?_;rintro _ g ⟨e,rfl⟩;exact⟨e,B⟩
def I4.C (m:I4 h r l) (x:AA h J):I4 J r l:=(aN r l).a (x.O λ_=>False) (λ_ _ h=>h) m
structure PH (l:List BI) (n:BI) (l':List BI):Prop where
 sub:∀m∈l',m∈l\/m.key=n.key/\(0<=m.c/\(m.c=n.c\/m.c=0))/\m.k=n.k
 du:∀m∈l,∃x∈l',x.key=m.key
 new:∃x∈l',x.key=n.key
 b:l.Pairwise (λa b=>a.key≠b.key)->l'.Pairwise λa b=>a.key≠b.key
 len:LB l'<=LB l+1
def PH.ah {n m:BI} (b:m.key=n.key) (d:0<=m.c/\(m.c=n.c\/m.c=0)) (f:m.k=n.k):PH l n (Mp m l):=
 ⟨λx a=>(Q8 a).elim (λe=>.inr (e▸⟨b,d,f⟩)) .inl,λx a=>VY a,⟨m,SZ m l,b⟩,SI,VI l⟩
def PH.same {n x:BI} (a:x∈l) (b:x.key=n.key):PH l n l:=
 ⟨λ_ h=>.inl h,λm h=>⟨m,h,B⟩,⟨x,a,b⟩,λh=>h,G⟩
def nO {n:BI} (c:aC h b 0 (.map (I r))) (M:I4 h r l):Bk S L 1 116 [.agg ⟨Bt n⟩,AG b 0] h λ_ J=>∃l',PH l n l'/\I4 J r l'/\B0 (·=r) h J:=
 Cn f116 λd aa _=>by
  obtain⟨g1,P,F⟩:=(aH.nil h).box Ax 109 (.agg ⟨Bt n⟩);refine⟨_,_,P,_,ld B (F.q 0 _ B B),?_⟩;intro z hz;obtain⟨j,Q,m⟩:=F.sT 3 0 _ (Vi z) B (by show 5<7;decide) B;obtain⟨n',o⟩:∃n':BI,n'=⟨n.f,n.t,n.s,n.l,n.r,z,n.k⟩:=⟨_,B⟩;have m:aH h j [aO h.a 109 (Bt n')]:=by rw[o];exact m
  have H:n'.key=n.key:=by rw[o];rfl
  obtain⟨g3,R,g4,T,V⟩:=m.va 109 (Bt DS) (Bt n');obtain⟨W,X,s5⟩:=V.sT 3 0 _ (Vi 0) B (by show 5<7;decide) B;obtain⟨w,U,p⟩:=s5.sT 3 0 _ (Vi 0) B (by show 6<7;decide) B;obtain⟨x,K,l1,N⟩:=jY (M.C p.e) n';obtain⟨g7,G,a,v,g⟩:=p.va 109 (Bt DS) (Bt x);have q:=g.dD 2 B;have o1:=g.dD 1 B;have y:=g.dD 0 B;have Z:∃(v1 v2:Aa) (J:Y),Bw Ax 216 a b 0=I (.map (I r))/\Bw Ax 109 a j.a 0=I (Gb n')/\Bw Ax 109 a h.a 0=I (.agg ⟨Bt n'⟩)/\BH Ax 216 (.map (I r)) (Gb n') (.agg ⟨Bt n'⟩) a=I J/\∃l',PH l n l'/\I4 J r l'/\B0 (·=r) h J:=by
   obtain⟨J,u1,u2,u3⟩:=Q7 (M.C g.e) n';exact⟨.nilFunc,.nilFunc,J,ld B (c.C g.e),EQ (k:=7) Kq (show BK a j.a 0 (Bt n'.key) from o1.cells) B,EQ (k:=7) Kq (show BK a h.a 0 (Bt n') from q.cells) B,u1,_,PH.ah H (by rw[o];exact⟨by show 0<=z;omega,by show z=n.c\/z=0;omega⟩) (by rw[o]),u2,(g.e.O _).trans u3.O⟩
  obtain⟨_,_,J,a1,A,C,a4,D⟩:=Z;have E:Nb (BH Ax 216 (.map (I r)) (Gb n') (.agg ⟨Bt n'⟩) a)=I (.tuple #[],J):=by rw[a4];rfl
  have u:K=Ag->∃l',PH l n l'/\I4 a r l'/\B0 (·=r) h a:=λhb=>⟨l,PH.same (N hb).1 ((N hb).2.trans H),M.C g.e,g.e.O _⟩;refine⟨j,Q,_,EQ (k:=7) Kq (show BK j h.a 0 (Bt n') from(m.dD 0 B).cells) B,_,_,R _,_,T,W,X,w,U,_,ld B (c.C p.e),_,EQ (k:=7) Kq (show BK w j.a 0 (Bt n'.key) from(p.dD 0 B).cells) B,_,_,Cs (CN w) l1,_,_,G _,_,v,_,_,B,?_⟩;cases K with
  |false=>exact⟨_,a1,_,A,_,C,_,_,E,D⟩
  |
   true=>
   have u:=u B;refine⟨_,ld B (q.cell (i:=5) B),_,ld B (y.cell (i:=5) B),Ad (λ_=>?_) (λ_=>?_)⟩
   .exact⟨_,a1,_,A,_,C,_,_,E,D⟩
   refine⟨_,ld B (q.cell (i:=5) B),_,ld B (y.cell (i:=5) B),Ad (λ_=>?_) (λ_=>?_)⟩
   .refine⟨_,ld B (q.cell (i:=6) B),_,ld B (y.cell (i:=6) B),Ad (λ_=>?_) (λ_=>?_)⟩
    .exact⟨_,a1,_,A,_,C,_,_,E,D⟩
    .exact u
   .exact u
def Nz (z:Int):(Yqa z).size<=4:=by
 unfold Yqa;dsimp only
 repeat' split
 all_goals exact Ac B
def NS:∀xs:AH,(∀u∈xs,Lj u)->∃bs,FU xs=I bs/\LB bs<=4*LB xs
 |[],_=>Jq
 |x::xs,h=>by
  obtain⟨z,rfl⟩:=h x Av;let⟨bs,h1,a⟩:=NS xs λu b=>h u Jq;refine⟨(Yqa z).data.toList++bs,by rw[FU,h1],?_⟩;rw[Aj,AO];have:(Yqa z).data.toList.length<=4:=Nz z;omega
def Zi (r:Rd h v 1 n xs) (e:∀u∈xs,Lj u):∃s:Bd,Ea Ax 210 9 v h=I (.string s,h)/\aL s<=4*n/\(n≠0->FU xs=I (aI s.data)):=by
 let⟨bs,b1,f⟩:=NS xs e;obtain⟨b,A,c,rfl,l,g,i⟩:=r;rw[BJ] at b;cases A with
 |none=>
  exact⟨.empty,B,Jq,λo=>Jq⟩
 |some a=>
  let⟨p,q,m,w,lo,U,x,j,k⟩:=i a B;have d:=HQ k;rw[b] at d;refine⟨⟨⟨bs⟩⟩,?_,b▸f,λ_=>b1⟩;show(match Ax.ds.get 21,h.t.get a.block with
   |I (.int .u8),I (.cells c _ _ _ _ _)=>_
   |I (.int .i32),I (.cells c _ _ _ _ _)=>_
   |_,_=>_)=_
  rw[j,show Ax.ds.get 21=I (.int .i32) from B];simp[d,b1]
def VW (r:Rd h v 1 n xs) (a:∀u∈xs,Lj u) {lo U:Option Aa} {l:Nat} (b:RO 0 lo=I l) (d:RO n U=I m) (e:l<=m) (f:m<=n):
 ∃o,C7 Ax 210 v lo U Z=I o/\∃s:Bd,Ea Ax 210 9 o h=I (.string s,h)/\aL s<=4*(m-l):=by
 obtain⟨_,A,c,rfl,_⟩:=id r;obtain⟨o,p,g,_⟩:=Rd.slice Kq r b d e f;obtain⟨s,i,j,_⟩:=Zi g λu k=>a u Jq;exact⟨o,p,s,i,j⟩
def AGq {bM:Nat} {f t c o:Int} (F:aC h j 0 (.func (.func 116) #[] #[AG bM 0])) (T:aC h bM 0 (.map (I r))) (M:I4 h r l)
 (x:aC h m 0 (Vi f)) (H:aC h p 0 v) (K:aC h q 0 (Vi o)) (y:Rd h v 1 n xs) (N:∀u∈xs,Lj u) (V:0<=f/\f<=t/\t<=n):
 Bk S L 2 125 [Vi t,Vi c,AG j 0,AG m 0,AG p 0,AG q 0] h λ_ J=>∃(s:Bd) (l':List BI),aL s<=4*n/\PH l ⟨f,t,s,o,o,c,3⟩ l'/\I4 J r l'/\B0 (·=r) h J:=
 Cn f125 λd W _=>by
  obtain⟨a,rfl⟩:∃a:Nat,f=a:=⟨bH f,G⟩;obtain⟨b,rfl⟩:∃b:Nat,t=b:=⟨bH t,G⟩;obtain⟨v',h1,s,O,h3⟩:=VW (h:=h.ad) Jq N (lo:=I (Vi a)) (U:=I (Vi b)) B B G G;obtain⟨_,A,cc,rfl,_⟩:=id y;have X:=AT (AA.refl h);have z:=K.C X;have P:=M.C X;obtain⟨g,C,c1,rfl⟩:∃g C c1,v'=.slice g C c1:=by
   obtain⟨w,D,⟨_,g,c1,e,_⟩,_⟩:=Rd.slice Kq y (lo:=I (Vi a)) (U:=I (Vi b)) B B G G;rw[h1] at D;cases D;exact⟨g,_,c1,e⟩
  refine⟨[.w 12],Kq,_,(ld B F:Bw Ax 218 h.ad j 0=I (.func (.func 116) #[] #[AG bM 0])),_,ld B x,_,ld B H,_,ld B x,_,_,Cs (CN _) h1,_,O,_,ld B z,_,ld B z,_,nO (h:=(nb h).ad) (n:=⟨a,b,s,o,o,c,3⟩) Jq Jq d G,?_⟩;rintro w h5 ⟨l',st,Q,E⟩;refine⟨E.ok (λi U=>U) ?_,?_⟩
  .obtain⟨_,es,ck,R,_⟩:=P
   exact⟨_,R,B⟩
  .refine⟨s,l',G,st,?_,(X.O _).trans E.M⟩
   unfold I4;rw[CL,DF];exact Q
end
section
variable{S:A9} {L:Nat} {a b n:BI} {N k r:Nat} {l l':List BI} {h:Y} [aF S L]
class Sy (S:A9) (L:Nat):Prop extends d9 S L where
 cB:S.a 126=I (IA Ax 109)
def tD (N:Nat) (n:BI):Prop:=(0<=n.f/\n.f<N)/\(n.f<n.t/\n.t<=1000000)/\(0<=n.c/\n.c<=40000)/\aL n.s<=256
def Xx (h:a.key=b.key):a.f=b.f/\a.t=b.t:=⟨(Cs BI.f h:a.key.f=b.key.f),(Cs BI.t h:a.key.t=b.key.t)⟩
def zY (h:a.key=b.key):a.s=b.s:=(Cs BI.s h:a.key.s=b.key.s)
structure Mq (N k:Nat) (l:List BI):Prop where
 b:l.Pairwise λa b=>a.key≠b.key
 ok:∀m∈l,tD N m
 a:∀i:Nat,i<k->∃m∈l,m.f=i/\m.t=i+1
def Mq.step (i:Mq N k l) (s:PH l n l') (q:0<=n.f/\n.f<N) (r:n.f<n.t/\n.t<=1000000) (u:n.c<=40000) (d:aL n.s<=256):Mq N k l':=by
 refine⟨s.b i.b,λm a=>?_,λj g=>?_⟩
 .rcases s.sub m a with a|⟨b,v,_⟩
  .exact i.ok m a
  .let⟨h,o⟩:=Xx b
   exact⟨G,G,G,zY b▸d⟩
 .let⟨m,a,e⟩:=i.a j g
  let⟨x,p,b⟩:=s.du m a;let⟨h,o⟩:=Xx b;exact⟨x,p,G,G⟩
def Mq.next (i:Mq N k l) (s:PH l n l') (a:0<=n.f/\n.f<N) (b:n.f<n.t/\n.t<=1000000) (d:n.c<=40000) (e:aL n.s<=256) (o:n.f=k) (p:n.t=k+1):Mq N (k+1) l':=by
 have j:=i.step s a b d e;refine⟨j.b,j.ok,λx q=>?_⟩;rcases A8 x k with h|h
 .exact j.a x h
 .let⟨y,g,m⟩:=s.new
  let⟨r,u⟩:=Xx m;exact⟨y,g,G,G⟩
def Aid {s:Bd} (h:FH s=Ag) (a:Gp (aI s.data) []=Ah):1<=El s:=by
 rw[El,Bi h,H5];have:aL s=LB s.data.toList:=B;rw[this];cases c:aI s.data with
 |nil=>rw[c] at a;cases a
 |cons b l=>rw[AO,CA,AO];omega
def AEk (m:I4 h r l):Bx Ax .len [216] [.map (I r)] h=I (Vi (LB l:Int),h):=by
 let⟨_,es,c,a,_,b⟩:=m;rw[(B:Bx Ax .len [216] [.map (I r)] h=(match(match h.t.get r with|some (.map es _)=>I (Vi (AQ (LB es)))|_=>Z) with|some v=>I (v,h)|none=>Z)),a,(by have:=Cs HD b;simpa using this.symm:l.length=es.length)];rfl
def Xt {a b:Bd} (h:Gd a b=0):a=b:=by
 unfold Gd at h;split at h
 .omega
 .rename_i c
  split at h
  .omega
  .rename_i d
   refine CJ.1 ?_;cases e:Gp (aI a.data) (aI b.data) with
   |true=>rfl
   |false=>exact Cf ((Ul (aI a.data) (aI b.data) Jq).1 e) d
def zM (h:Ty a b=0):a.key=b.key:=by
 let⟨c,h⟩:=Ob h;let⟨d,h⟩:=Ob h;let⟨_,h⟩:=Ob h;let⟨e,h⟩:=Ob h;let⟨f,h⟩:=Ob h;let⟨g,_⟩:=Ob h;unfold BI.key;rw[Mu c,←Mu d,Xt e,Mu f,Mu g]
def zV {D:Dt} (b:∀i:Nat,i<D.p5.n->(D.C (i:Int)).ok (LB D.ps)) {e:CI} (h:D.has e):aL e.rd<=256/\aL e.b<=256/\(0<=e.c/\e.c<=30000)/\1<=El e.rd/\El e.rd<=256:=by
 let⟨⟨⟨d,f⟩,_⟩,g,j,k⟩:=h;have a:=b g j;rw[←k] at a;let⟨_,_,l,m⟩:=a;have:=YZ e.rd;exact⟨d,f,l,m,G⟩
def Abq (m:Gy h r Jt CZ) {a b:Bd} (c:aL a<=400) (hb:aL b<=400):∃x:Int,BW Ax 213 (.map (I r)) (.agg #[Sg a,Sg b]) Ah h.ad=I (Vi x)/\0<=x/\x<=30000:=by
 obtain⟨d,e,f,g,i⟩:=QH (t:=213) (et:=3) Kq XA (z:=Vi 0) Kq Jq ⟨a,b,B,c,hb⟩ Ah;obtain⟨x,rfl,j⟩:CZ d:=by
  cases e with
  |true=>exact g B
  |false=>rw[i B];exact⟨0,B,by decide,by decide⟩
 exact⟨x,f,j⟩
end
end
end Go.Ev
