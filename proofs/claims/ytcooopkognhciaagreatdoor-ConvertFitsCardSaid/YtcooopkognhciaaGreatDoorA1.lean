/-
  Part of the proof.
-/
import Derived.Test.YtcooopkognhciaaGreatDoorA0
import Derived.Test.YtcooopkognhciaaGreatDoorProg
set_option maxRecDepth 100000
set_option maxHeartbeats 40000000
set_option linter.all false
open Bool renaming false->Ah,true->Ag
open Go renaming BinOp->CT,FuncId->Au,IntKind->Cq,MapEntry->Ap,Oper->C0,Program->AN,TypeId->Ai,Value->Aa,World->AM,Act->FP,Ending->ZG,Next->RM
open Option renaming none->Z,some->I
open Nat renaming rec->UE,div->Qe,beq->Am,mod->Zy,ble->Ar
open List renaming length->LT
open Go.Region renaming before->Df
open Prod renaming mk->eD
namespace Go.Ev
noncomputable section
def KB:=@List.cons_append
def IW:=@List.nil_append
def xT {a b:Nat} (h:a*1=b:=by omega):a*1=b:=h
def xU {c a b:Nat} (h:c+a*1=b:=by omega):c+a*1=b:=h
variable {a:Type} {k k':Cq} {n x y:Nat} {u:Aa} {op:CT} {t:Ai}
section
variable {h J h0:Y} {v v' u x x' z y:Aa} {vs D0 l l' args AP:AH} {t e:Ai} {fr Ec:Fr} {ρ C2 FS:Ren} {w w':AM} {n i id m j off nx b r k U:Nat} {a:FP} {pl:Pl} {outs:List EO} {es C3:List Ap} {kp:Aa->Y->RR} {f:Au} {call:Be} {lo s:WS} {o:Op} {hb:HB} {op:CT} {τ:Bb} {P:AN} {S:Nat->Prop} {nx' p:Nat} {fr1:Fr}
section
section
variable{τ:Bb}
def NV {kt:Ai} {k:Aa} {e:Ap} {b:Bool} (hb:IZ τ Op.maxDepth kt k e.key=I b):∀(es:List Ap) (j:Nat),
 CE τ kt k (es++[e]) j=(match CE τ kt k es j with|some (I x)=>I (I x)|some Z=>if b then I (I (j+LT es,e)) else I Z|none=>Z)
 |
  [],j=>by
  simp only[IW,CE,hb];cases b<;>rfl
 |
  a::es,j=>by
  simp only[KB,CE];cases h0:IZ τ Op.maxDepth kt k a.key with
  |none=>rfl
  |
   some c=>
   cases c with
   |true=>rfl
   |
    false=>
    simp only[];rw[NV hb es (j+1)];simp only[AO];rw[show j+1+LT es=j+(LT es+1) by omega]
def Wu {B:Aa} (a:D6 τ t (.map (I r)) B h=I (v,J)):I3 τ t r (h.t.get r) (J.t.get r):=by
 unfold D6 at a;split at a
 case h_2=>cases a
 rename_i kt et F m q;cases q;let⟨s,a⟩:=C1 a;split at a
 case h_2=>cases a
 rename_i es d u;intro x H g f j;rw[u] at f;simp only[BW,m];cases w:Do τ 5 kt x with
 |false=>rfl
 |true=>
 simp only[D1];split at a
 .rename_i i e y
  let⟨A,a⟩:=C1 a;simp only[I.injEq,eD.injEq] at a;obtain⟨_,rfl⟩:=a;let⟨n,k,C⟩:=VO y;have k:i=n:=G;subst k;have l:=(NX A).1;have D:Cu es i (λe=>{e with key:=B})=es:=Rs C (by cases e;simp at l;simp[l]);have c:(h.t.ins r (.map (Cu es i (λe=>{e with key:=B})) d)).get r=g.t.get r:=j.symm
  rw[T.ao,D] at c;rw[f,←c]
 .split at a
  case h_2=>cases a
  rename_i z E;simp only[I.injEq,eD.injEq] at a;obtain⟨_,rfl⟩:=a;have c:(h.t.ins r (.map (es++[{key:=B,val:=z,born:=d}]) (d+1))).get r=g.t.get r:=j.symm;rw[T.ao] at c;rw[f,←c];simp only[];let⟨b,hb⟩:=Aab 5 Op.maxDepth kt x B Jq w s;rw[NV hb];cases CE τ kt x es 0 with
  |none=>rfl
  |some o=>
   cases o with
   |some p=>rfl
   |none=>
    cases b with
    |true=>simp[E]
    |false=>rfl
 .cases a
end
def Ws (E:Nat->Hi) (j:Nat) (s:WS):Prop:=∃a,E j=.wr s a
def Wr (H:Nat->Y) (E:Nat->Hi) (j id:Nat):Prop:=id<(H j).a/\∃s,Ws E j s/\s.has id
def WT (AU:Array C0) (j t:Nat):Prop:=∃o,AU[j]?=I o/\o.dst=I t
structure mu (τ:Bb) (H:Nat->Y) (E:Nat->Hi) (j:Nat):Prop where
 a:(H j).a<=(H (j+1)).a
 lo:(H (j+1)).lo<=(H j).lo
 wr:∀s,Ws E j s->(H (j+1)).lo<=s
 same:∀id,id<(H j).a->¬Wr H E j id->(H (j+1)).t.get id=(H j).t.get id
 rd:∀a,E j=.rd a->(H (j+1)).a=(H j).a
 lk:∀a t,E j=.lk a t->(H (j+1)).a=(H j).a
 live:∀b s,Ws E j s->s.top=I b->∃hb,(H j).t.get b=I hb/\hb.live=Ag
 me:∀s t,E j=.wr s (I t)->∃r,s=.one r/\I3 τ t r ((H j).t.get r) ((H (j+1)).t.get r)
 ok:(E j).ok=Ag
section
variable{P:AN} {τ:Bb} {call:Be} {AU:Array C0} {F:Nat->Fr} {H:Nat->Y} {E:Nat->Hi}
def Hk.cp {s:Sem RM} {R:ZG->AM->Prop} (h:Hk P s w R):∃e w',R e w':=by
 unfold Hk at h;split at h
 .exact⟨_,_,h⟩
 .exact⟨_,_,h⟩
 .let⟨e,w',_,r,_⟩:=h.2 [] (room_wide _)
  exact⟨e,w',r⟩
 .rename_i l f b c d w' _
  let⟨e,a,r,_⟩:=h.2 (Frame.enter P f #[] .normal) [] (room_wide _);exact⟨e,a,r⟩
 .exact⟨_,_,h⟩
 .exact h.elim
abbrev DK (fr:Fr) (o:C0):Aa->Y->RR:=λv J=>match fr.set o.dst v with|some Ec=>I [.aE Ec J]|none=>Z
abbrev DP:Aa->Y->RR:=λ_ _=>Z
def P4 {o:C0} {b:Y} {c:List EO} (a:DK fr o v b=I c) (d:c⊆[.aE fr1 J]):fr.set o.dst v=I fr1/\b=J:=by
 simp only[DK] at a;split at a
 case h_2=>cases a
 rename_i f e;cases a;have:=d (bQ.2 B);have:=bQ.1 this;cases this;exact⟨e,B⟩
def Qw {o:C0} {a:Y} (b:DK fr o v a=I [.aE fr1 J]):fr.set o.dst v=I fr1/\a=J:=P4 b λ_ h=>h
def JG {d:Option Tmp} (h:fr.set d v=I Ec):Ec.sz=fr.sz/\Ec.ds=fr.ds/\(∀t,d≠I t->Ec.M.get t=fr.M.get t)/\∀t,d=I t->t<fr.sz/\Ec.M.get t=I v:=by
 unfold Fr.set at h;cases d with
 |none=>cases h;exact⟨B,B,λ_ _=>B,λt a=>Jq⟩
 |some d=>
  simp only at h;let⟨b,h⟩:=C1 h;cases h;refine⟨B,B,λt a=>T.aP _ _ λc=>a Jq,λt a=>?_⟩;cases a;exact⟨Jq,T.ao _ _ _⟩
def vH {o:C0} (d:F9 τ call fr h.ad o.op (DK fr o) DP=I [.aE fr1 J]) (i:(CF τ fr o.op h J.lo).ok=Ag):
 ((∀s g,CF τ fr o.op h J.lo≠.wr s g)->∀id,id<h.a->¬J.lo.has id)/\(∀a,CF τ fr o.op h J.lo=.rd a->J.a=h.a)/\(∀a t,CF τ fr o.op h J.lo=.lk a t->J.a=h.a):=by
 have j:∀a,CF τ fr o.op h J.lo=.rd a->J=h.ad:=by
  intro a c;let⟨v,f⟩:=uY c d;have b:=f h.ad (DK fr o) DP B;rw[d] at b;exact(Qw b.symm).2.symm
 have k:∀a t,CF τ fr o.op h J.lo=.lk a t->J=h.ad:=by
  intro a t c;let⟨v,f⟩:=vJ c d;have b:=f h.ad (DK fr o) DP (I3.refl _ _ _);rw[d] at b;exact(Qw b.symm).2.symm
 refine⟨λl id m=>?_,λa c=>by rw[j a c];rfl,λa t c=>by rw[k a t c];rfl⟩;cases e:CF τ fr o.op h J.lo with
 |aK=>
  let⟨v,nb,f⟩:=Zl e d;have b:=f h.ad (DK fr o) DP B;rw[d] at b;let⟨_,n⟩:=Qw b.symm;rw[←n];cases nb<;>exact λh=>h
 |rd a=>rw[j a e];exact λh=>h
 |lk a t=>rw[k a t e];exact λh=>h
 |aD=>exact GO (Aly e) m
 |wr s g=>exact Cf e (l s g)
 |bad=>rw[e] at i;cases i
def Abb (T:BM P τ) (W:C8 P τ call) {o:C0} (st:St P τ ρ (F j) (H j) a w) (l:OA τ call AU F H E j o):
 mu τ H E j/\(∃v,(F j).set o.dst v=I (F (j+1)))/\∃B a' w',St P τ B (F (j+1)) (H (j+1)) a' w'/\∀id,id<(H j).a->B id=ρ id:=by
 obtain⟨ai,⟨X,J,c,d,f,K⟩|⟨X,n,d,f⟩⟩:=l
 .have aa:=ND T W (C5.ad st.hk) st.b c
  let⟨e,w',h⟩:=aa.cp;cases e with
  |outgrown=>exact h.elim
  |panicked ch=>let⟨_,_,_,_,_,_,_,_,_,hb,_⟩:=h;cases hb
  |returned v'=>
   let⟨ab,v,u,o1,ad,ae,y,hK,af⟩:=h;obtain⟨n,rfl⟩:=P4 hK af;let⟨L,M,N⟩:=vH c (f▸K);have O:∀s,Ws E j s->s=u.lo:=λs l=>let⟨p,i⟩:=l;(Xz (f.symm.trans i)).1;rw[←f] at L M N;have Q:=y.b;have R:=Ahj (H j).lo u.lo;refine⟨⟨?_,?_,λlo g=>?_,λid z ag=>?_,λb hb=>?_,λb t hb=>?_,λb s hb G=>?_,λs t h=>?_,K⟩,⟨v,n⟩,?_⟩
   .rw[d];exact Q.1
   .rw[d];exact R.1
   .rw[d,O lo g];exact R.2
   .rw[d]
    refine Q.2.2 id z ?_;by_cases S:∃lo,Ws E j lo
    .let⟨lo,g⟩:=S
     rw[←O lo g];exact λq=>ag ⟨z,lo,g,q⟩
    .exact L (λlo p g=>S ⟨lo,p,g⟩) id z
   .rw[d];exact M b hb
   .rw[d];exact N b t hb
   .let⟨p,i⟩:=hb
    exact(Xz (f.symm.trans i)).2 b G
   .let⟨m,k,r,ho,hm,l⟩:=Ark (f.symm.trans h)
    refine⟨r,l,?_⟩;rw[d];show I3 τ t r ((H j).t.get r) (u.t.get r);rw[ho,Gk Jq Jq Jq] at c;simp only[Ch,iH,hm] at c;cases V:ev τ (F j) k with
    |none=>rw[V] at c;cases c
    |some Cw=>
     rw[V] at c;simp only[] at c;cases i:D6 τ t (.map (I r)) Cw (H j).ad with
     |none=>rw[i] at c;cases c
     |some x=>
      rw[i] at c;simp only[] at c;let⟨_,h2⟩:=Qw c;have:=Wu i;rw[h2] at this;exact this
   .have q:=y.le (C5.ad st.hk)
    let⟨A,C,D⟩:=L6 (st.b.mono q) ad n;refine⟨ab,a.put o.dst v',w',⟨?_,A,C▸D▸st.ds.mono q⟩,y.a.C⟩;rw[d];exact ae
 .refine⟨⟨Jq,d▸WS.le_refl _,λlo g=>(by obtain⟨p,g⟩:=g;rw[f] at g;cases g),λid _ _=>Jq,λb hb=>Jq,λb t hb=>Jq,
   λb s hb=>(by obtain⟨p,hb⟩:=hb;rw[f] at hb;cases hb),λs t h=>Jq,by rw[f];rfl⟩,⟨_,n⟩,?_⟩
  let⟨A,C,D⟩:=L6 st.b (OR) n;exact⟨ρ,a.put o.dst undef,w,⟨d▸st.hk,A,C▸D▸st.ds⟩,λ_ _=>B⟩
structure G0 (P:AN) (τ:Bb) (call:Be) (AU:Array C0) (F:Nat->Fr) (H:Nat->Y) (E:Nat->Hi) (R:Nat->Ren):Prop where
 step:∀j o,AU[j]?=I o->OA τ call AU F H E j o
 sep:∀x y,x<y->y<AU.size->MF (E y) (E x) (H x).a (H (x+1)).a=Ag->Hy (Df AU).toList y x=Ag
 aE:∀j,j<AU.size->mu τ H E j
 set:∀j o,AU[j]?=I o->∃v,(F j).set o.dst v=I (F (j+1))
 a:τ.a<=(H 0).a
 st:∀j,j<=AU.size->∃a w,St P τ (R j) (F j) (H j) a w
 C:∀j,j<AU.size->∀id,id<(H j).a->R (j+1) id=R j id
def ACp (T:BM P τ) (l:C8 P τ call) (st:St P τ ρ (F 0) (H 0) a w) (i:∀j o,AU[j]?=I o->OA τ call AU F H E j o)
 (n:∀x y,x<y->y<AU.size->MF (E y) (E x) (H x).a (H (x+1)).a=Ag->Hy (Df AU).toList y x=Ag):∃R,R 0=ρ/\G0 P τ call AU F H E R:=by
 have Cw:∀m,m<=AU.size->∃R:Nat->Ren,R 0=ρ/\(∀j,j<=m->∃a w,St P τ (R j) (F j) (H j) a w)/\(∀j,j<m->mu τ H E j/\(∀o,AU[j]?=I o->∃v,(F j).set o.dst v=I (F (j+1)))/\∀id,id<(H j).a->R (j+1) id=R j id):=by
  intro m
  induction m with
  |zero=>intro _;exact⟨λ_=>ρ,B,λj b=>by(have:j=0:=G);subst this;exact⟨a,w,st⟩,λj b=>G⟩
  |succ m p=>
   intro A;let⟨R,g,e,c⟩:=p G;let⟨a1,C,q⟩:=e m (Ae _);have d:AU[m]?=I AU[m]:=By G;obtain⟨J,D,C2,a',w',r,s⟩:=Abb T l q (i m _ d);refine⟨λj=>if j=m+1 then C2 else R j,by simp[g],λj b=>?_,λj b=>?_⟩
   .by_cases f:j=m+1
    .subst f;simp only[Bi];exact⟨a',w',r⟩
    .simp only[Bm f];exact e j G
   .by_cases f:j=m
    .subst f
     refine⟨J,λo' k=>?_,λid h=>?_⟩
     .rw[d] at k;cases k;exact D
     .simp only[Bi,Bm (show¬j=j+1 by omega)];exact s id h
    .obtain⟨t,u,z⟩:=c j G
     refine⟨t,u,λid h=>?_⟩;simp only[Bm (show¬j+1=m+1 by omega),Bm (show¬j=m+1 by omega)];exact z id h
 let⟨R,g,e,c⟩:=Cw AU.size (Ae _);exact⟨R,g,i,n,λj b=>(c j b).1,λj o d=>(c j (dM.1 d).1).2.1 o d,st.hk.2,e,λj b=>(c j b).2.2⟩
section
variable{R:Nat->Ren}
def G0.O (r:G0 P τ call AU F H E R) (h:p<=m) (c:m<=AU.size):(H p).a<=(H m).a:=by
 induction m with
 |zero=>
  have:p=0:=G;subst this;exact Ae _
 |succ m a=>
  by_cases b:p=m+1
  .subst b;exact Ae _
  .exact Ao (a G G) (r.aE m G).a
def G0.lo_le (r:G0 P τ call AU F H E R) (h:p<=m) (c:m<=AU.size):(H m).lo<=(H p).lo:=by
 induction m with
 |zero=>
  have:p=0:=G;subst this;exact WS.le_refl _
 |succ m a=>
  by_cases b:p=m+1
  .subst b;exact WS.le_refl _
  .exact WS.le_trans (r.aE m G).lo (a G G)
def G0.same (r:G0 P τ call AU F H E R) (h:p<=m) (f:m<=AU.size) (b:id<(H p).a) (a:∀j,p<=j->j<m->¬Wr H E j id):(H m).t.get id=(H p).t.get id:=by
 induction m with
 |zero=>
  have:p=0:=G;subst this;rfl
 |succ m c=>
  by_cases d:p=m+1
  .subst d;rfl
  .rw[(r.aE m G).same id (AC b (r.O G G)) (a m G G)]
   exact c G G λj e g=>a j e G
def G0.M (r:G0 P τ call AU F H E R) (h:p<=m) (i:m<=AU.size) {t:Nat} (a:∀j,p<=j->j<m->¬WT AU j t):(F m).M.get t=(F p).M.get t:=by
 induction m with
 |zero=>
  have:p=0:=G;subst this;rfl
 |succ m c=>
  by_cases d:p=m+1
  .subst d;rfl
  .have b:AU[m]?=I AU[m]:=By G
   let⟨v,e⟩:=r.set m _ b;rw[(JG e).2.2.1 t λf=>a m G G ⟨_,b,f⟩];exact c G G λj g k=>a j g G
def G0.sz (r:G0 P τ call AU F H E R) (e:m<=AU.size):(F m).sz=(F 0).sz/\(F m).ds=(F 0).ds:=by
 induction m with
 |zero=>exact⟨B,B⟩
 |succ m a=>
  have c:AU[m]?=I AU[m]:=By G;let⟨v,d⟩:=r.set m _ c;have b:=JG d;exact⟨b.1.trans (a G).1,b.2.1.trans (a G).2⟩
def G0.cX (r:G0 P τ call AU F H E R) (h:p<=m) (d:m<=AU.size) (a:id<(H p).a):R m id=R p id:=by
 induction m with
 |zero=>
  have:p=0:=G;subst this;rfl
 |succ m b=>
  by_cases c:p=m+1
  .subst c;rfl
  .rw[r.C m G id (AC a (r.O G G))]
   exact b G G
def G0.bi (r:G0 P τ call AU F H E R) (b:m<=AU.size) (h:R m id=I pl):id<(H m).a:=by
 let⟨a,w,st⟩:=r.st m b;exact BB λc=>by rw[st.hk.1.fresh id c] at h;cases h
def G0.bK (r:G0 P τ call AU F H E R) (U:i<AU.size) (d:j<AU.size) (e:(H i).a<=id) (f:id<(H (i+1)).a) (g:(H j).a<=id) (h:id<(H (j+1)).a):i=j:=by
 rcases FD i j with a|b|c
 .have:=r.O (p:=i+1) (m:=j) a G;omega
 .exact b
 .have:=r.O (p:=j+1) (m:=i) c G;omega
end
end
end
end
open Go Go.Proofs Tryz
def wm:T KS:=((((T.nil.ins 358 KS.aU).ins 426 KS.indexByte).ins 371 KS.count).ins 396 (KS.makeNoZero 5))
def Ax:Bb:=ug prog wm [48,109,271,88,90,151,221,321] 10
structure BI where
 f:Int
 t:Int
 s:Bd
 l:Int
 r:Int
 c:Int
 k:Int
 deriving DecidableEq
def Bt (n:BI):AH:=[.int .i64 n.f,.int .i64 n.t,.string n.s,.int .i64 n.l,.int .i64 n.r,.int .i64 n.c,.int .i64 n.k]
def mI (n:Nat):Value:=.int .i64 (.ofNat n)
def mJ (n:Nat):Value:=.int .u64 (.ofNat n)
def mG (n:Nat):Value:=.int .u32 (.ofNat n)
def mD (k:Nat):Nat->Bl->Bl:=UE (motive:=λ_=>Nat->Bl->Bl) (λ_ l=>l) (λ_ f n l=>f (Qe n 256) (UInt8.ofNat (Zy n 256)::l)) k
def mE (k:Nat):Nat->AH->AH:=UE (motive:=λ_=>Nat->AH->AH) (λ_ l=>l) (λ_ f n l=>f (Qe n 256) (.int .u8 (.ofNat (Zy n 256))::l)) k
def mS (k n:Nat):Value:=.string ⟨⟨mD k n []⟩⟩
def mB (k n:Nat):AH:=mE k n []
def mP (n:Nat):Value:=.pointer (I ⟨n,0,Z⟩)
def mL (n l c:Nat):Value:=.slice (I ⟨n,0,Z⟩) l c
def mT (l:AH) (t:Nat):CB:=.cells l t 0 0 Ag
def mF (l:AH) (t:Nat):CB:=.cells l t 0 0 Ah
def Ft:CB:=mT (mB 256 0xf0f0f0f0f0f0f0f0f0f0f0f0f0f0f0f0f0f0f0f0f0f0f0f0f0f0f0f0f0f0f0f0f0f0f0f0f0f0f0f0f0f0f0f0f0f0f0f0f0f0f0f0f0f0f0f0f0f0f0f0f0f0f0f0f0f0f0f0f0f0f0f0f0f0f0f0f0f0f0f0f0f0f0f0f0f0f0f0f0f0f0f0f0f0f0f0f0f0f0f0f0f0f0f0f0f0f0f0f0f0f0f0f0f0f0f0f0f0f0f0f0f0f0f0f0f0f0f0f1f1f1f1f1f1f1f1f1f1f1f1f1f1f1f1f1f1f1f1f1f1f1f1f1f1f1f1f1f1f1f1f1f1f1f1f1f1f1f1f1f1f1f1f1f1f1f1f1f1f1f1f1f1f1f1f1f1f1f1f1f1f1f1f1f1020202020202020202020202020202020202020202020202020202020202130303030303030303030303032303033404040444f1f1f1f1f1f1f1f1f1f1f1) 230
def Fu:CB:=mT (mB 32 0x80bfa0bf809f90bf808f00000000000000000000000000000000000000000000) 233
def Hu:CB:=mT [mG 0,mG 498536548,mG 997073096,mG 651767980,mG 1994146192,mG 1802195444,mG 1303535960,mG 1342533948,mG 3988292384,mG 4027552580,mG 3604390888,mG 3412177804,mG 2607071920,mG 2262029012,mG 2685067896,mG 3183342108] 465
def iz:List CB:=[mT [mL 11 3 3,mP 12,mP 13,mP 14,mP 15,mP 16,mP 17,mP 18,mP 19,mP 20,mP 21] 136,mF [mS 3 4345683,mI 0,mS 4 1852798318,mI 0,mS 8 0x7061727469636c65,mI 1] 88,mT [mI 3,mI 0,(.map (I 22))] 319,mT [mP 23,mP 24,mL 25 10 10,mP 26,mL 27 2 2] 297,mT [mP 28,mP 29,mL 30 9 9,mP 31,mL 32 2 2] 297,mT [mI 2,mI 1,mL 33 1 1] 340,mT [mI 2,mI 1,mL 34 1 1] 340,mT [mI 2,mI 2,mL 35 1 1] 340,mT [mI 2,mI 2,mL 36 1 1] 340,mT [mI 2,mI 7,mL 37 1 1] 340,mT [mI 2,mI 1,mL 38 1 1] 340,mT [mI 2,mI 1,mL 39 1 1] 340,.map [] 0,mT [mI 23,mL 40 1 1,mL 41 1 1] 401,mT [mI 11,mL 42 1 1,mL 43 1 1] 401,mF (mB 10 0xe3818dafe38287e38186) 5,mT [mI 2,mI 1,mL 44 1 1] 340,mT [mI 10,mI 4] 3,mT [mI 21,mL 45 1 1,mL 46 1 1] 401,mT [mI 10,mL 47 1 1,mL 48 1 1] 401,mF (mB 9 0xe3e481bbaf8ae697a5) 5,mT [mI 2,mI 1,mL 49 1 1] 340,mT [mI 5,mI 9] 3,mT [mJ 2] 194,mT [mJ 1] 194,mT [mJ 9] 194,mT [mJ 9] 194,mT [mJ 6500] 194,mT [mJ 1] 194,mT [mJ 2] 194,mT [mJ 1397461] 194,mF [mI 0] 3,mT [mJ 1040] 194,mF [mI 0] 3,mT [mJ 1] 194,mT [mJ 346797] 194,mF [mI 0] 3,mT [mJ 544] 194,mF [mI 0] 3,mT [mJ 2] 194]
def ju:List CB:=[mF (mB 283 0x484e4b310b03706f7316066d6174726978030872656164696e677340056669727374060873757266616365733f077375726661636506046c656674060572696768740604636f737407056f7264657206026174060303424f5300046e6f756e00087061727469636c65010300001000000017000000d552150000000000000000000a000000e3818dafe38287e38186100000000b000000100400000000000000000000060000000200000001010200000001021000000015000000ad4a0500000000000000000009000000e3e481bbaf8ae697a5100000000a000000200200000000000000000000060000000200000001020200000001010200000002090200000002090200000007641902000000010102000000010247da3468) 5]
def kX:List CB:=[mF [mI 0,mI 3,mS 6 0xe4bb8ae697a5,mI 1,mI 1,mI 100,mI 1,mI 0,mI 1,mS 3 14909837,mI 1,mI 1,mI 10000,mI 3,mI 1,mI 2,mS 3 14910087,mI 1,mI 1,mI 10000,mI 3,mI 2,mI 3,mS 3 14909830,mI 1,mI 1,mI 10000,mI 3,mI 3,mI 4,mS 3 14909871,mI 2,mI 2,mI 50,mI 1,mI 3,mI 4,mS 3 14909871,mI 1,mI 1,mI 10000,mI 3] 109]
def pf:List CB:=[mT [mS 3 4345683,mI 0,mS 4 1852798318,mI 0,mS 8 0x7061727469636c65,mI 1] 88,mT [mS 9 0xe3818de38287e38186,mS 6 0xe4bb8ae697a5,mI 1,mI 1,mI 100,mS 3 14909871,mS 3 14909871,mI 2,mI 2,mI 50] 90]
def pe:List CB:=[mT [mJ 1397461] 194,mF [mI 0] 3,mT [mJ 1040] 194,mF [mI 0] 3,mT [mJ 1] 194,mT [mJ 346797] 194,mF [mI 0] 3,mT [mJ 544] 194,mF [mI 0] 3,mT [mJ 2] 194]
def kW:List CB:=[mF [mS 3 4345683,mI 0,mS 4 1852798318,mI 0,mS 8 0x7061727469636c65,mI 1] 88]
def pd:List CB:=[mT [mI 5,mI 9] 3,mT [mJ 2] 194,mT [mJ 1] 194,mT [mJ 9] 194,mT [mJ 9] 194,mT [mJ 6500] 194,mT [mJ 1] 194,mT [mJ 2] 194]
def m1:E2:=⟨[(0,Ft),(1,Fu),(4,Hu)],[(.agg ⟨[mL 10 3 3,mI 0,(.slice Z 0 0),mL 11 2 2]⟩)],pf,(.tuple ⟨[mL 12 283 283,mI 0]⟩),ju⟩
def m2:E2:=⟨[(4,Hu)],[mL 10 283 283],ju,(.tuple ⟨[mL 11 11 11,mI 0]⟩),[mT [mS 3 7368563,mL 12 22 22,mS 6 0x6d6174726978,mL 13 3 3,mS 8 0x72656164696e6773,mL 14 64 64,mS 5 439855772532,mL 15 6 6,mS 8 0x7375726661636573,mL 16 63 63,mS 7 0x73757266616365,mL 17 6 6,mS 4 1818584692,mL 18 6 6,mS 5 491394656372,mL 19 6 6,mS 4 1668248436,mL 20 7 7,mS 5 478660552050,mL 21 6 6,mS 2 24948,mL 22 6 6] 184,mF (mB 22 0x303424f5300046e6f756e00087061727469636c6501) 5,mF (mB 3 196608) 5,mF (mB 64 0x1000000017000000d552150000000000000000000a000000e3818dafe38287e38186100000000b00000010040000000000000000000006000000020000000101) 5,mF (mB 6 2199023255810) 5,mF (mB 63 0x1000000015000000ad4a0500000000000000000009000000e3e481bbaf8ae697a5100000000a00000020020000000000000000000006000000020000000102) 5,mF (mB 6 2199023255809) 5,mF (mB 6 2199023256073) 5,mF (mB 6 2199023256073) 5,mF (mB 7 562949953905689) 5,mF (mB 6 2199023255809) 5,mF (mB 6 2199023255810) 5]⟩
def m5:E2:=⟨[(0,Ft),(1,Fu),(4,Hu)],[mL 10 3 3,mP 11,mL 12 2 2],(kW++[mT [mI 3,mI 0,(.map (I 13))] 319,mF [mS 9 0xe3818de38287e38186,mS 6 0xe4bb8ae697a5,mI 1,mI 1,mI 100,mS 3 14909871,mS 3 14909871,mI 2,mI 2,mI 50] 90,.map [] 0]),(.tuple ⟨[mL 14 283 283,mI 0]⟩),ju⟩
def m6:E2:=⟨[(0,Ft),(1,Fu),(4,Hu)],[mL 10 283 283],ju,(.tuple ⟨[mP 11,mI 0]⟩),([mT [mL 12 3 3,mP 13,mP 14,mP 15,mP 16,mP 17,mP 18,mP 19,mP 20,mP 21,mP 22] 136]++kW++[mT [mI 3,mI 0,(.map (I 23))] 319,mT [mP 24,mP 25,mL 26 10 10,mP 27,mL 28 2 2] 297,mT [mP 29,mP 30,mL 31 9 9,mP 32,mL 33 2 2] 297,mT [mI 2,mI 1,mL 34 1 1] 340,mT [mI 2,mI 1,mL 35 1 1] 340,mT [mI 2,mI 2,mL 36 1 1] 340,mT [mI 2,mI 2,mL 37 1 1] 340,mT [mI 2,mI 7,mL 38 1 1] 340,mT [mI 2,mI 1,mL 39 1 1] 340,mT [mI 2,mI 1,mL 40 1 1] 340,.map [] 0,mT [mI 23,mL 41 1 1,mL 42 1 1] 401,mT [mI 11,mL 43 1 1,mL 44 1 1] 401,mF (mB 10 0xe3818dafe38287e38186) 5,mT [mI 2,mI 1,mL 45 1 1] 340,mT [mI 10,mI 4] 3,mT [mI 21,mL 46 1 1,mL 47 1 1] 401,mT [mI 10,mL 48 1 1,mL 49 1 1] 401,mF (mB 9 0xe3e481bbaf8ae697a5) 5,mT [mI 2,mI 1,mL 50 1 1] 340]++pd++pe)⟩
def m7:E2:=⟨[],[mP 10,mS 12 0xe3818de38287e38186e381af],iz,(mL 50 1 1),[mF [mS 9 0xe3818de38287e38186,mS 6 0xe4bb8ae697a5,mI 1,mI 1,mI 100] 90]⟩
def m8:E2:=⟨[],[mP 10,mS 9 0xe38287e38186e381af],iz,(.slice Z 0 0),[]⟩
def m9:E2:=⟨[],[mP 10,mS 6 0xe38186e381af],iz,(.slice Z 0 0),[]⟩
def kY:E2:=⟨[],[mP 10,mS 3 14909871],iz,(mL 50 1 1),[mF [mS 3 14909871,mS 3 14909871,mI 2,mI 2,mI 50] 90]⟩
def jv:E2:=⟨[(0,Ft),(1,Fu)],[mP 10,mS 12 0xe3818de38287e38186e381af,(.slice Z 0 0)],iz,(.tuple ⟨[mL 50 6 6,mI 0]⟩),kX⟩
def wc:E2:=⟨[(0,Ft),(1,Fu),(4,Hu)],[(.agg ⟨[mL 10 3 3,mI 0,(.slice Z 0 0),mL 11 2 2,mS 12 0xe3818de38287e38186e381af,(.slice Z 0 0),(.slice Z 0 0)]⟩),mI 0],pf,(.tuple ⟨[mP 12,mI 0]⟩),([mT [mP 13,mP 14,mL 15 6 6,mI 0,mL 16 2 2,mL 17 1 1,mL 18 1 1,mI 0] 75,mT [mL 19 3 3,mP 20,mP 21,mP 22,mP 23,mP 24,mP 25,mP 26,mP 27,mP 28,mP 29] 136,mT [mP 13,mS 12 0xe3818de38287e38186e381af,mL 30 6 6,mL 31 4 4,(.map (I 32))] 114]++kX++[mF [mI 0,mI 4] 3,mF [(.bool Ah)] 4,mF [mL 33 2 2,mI 150,mS 9 0xe4bb8ae697a5e381af,mL 34 4 4,mI 0] 79]++kW++[mT [mI 3,mI 0,(.map (I 35))] 319,mT [mP 36,mP 37,mL 38 10 10,mP 39,mL 40 2 2] 297,mT [mP 41,mP 42,mL 43 9 9,mP 44,mL 45 2 2] 297,mT [mI 2,mI 1,mL 46 1 1] 340,mT [mI 2,mI 1,mL 47 1 1] 340,mT [mI 2,mI 2,mL 48 1 1] 340,mT [mI 2,mI 2,mL 49 1 1] 340,mT [mI 2,mI 7,mL 50 1 1] 340,mT [mI 2,mI 1,mL 51 1 1] 340,mT [mI 2,mI 1,mL 52 1 1] 340]++kX++[mT [mL 53 2 2,mL 54 1 1,mL 55 1 1,mL 56 2 2] 50,.map [] 0,mF [mI 0,mI 4] 3,mF [mS 9 0xe4bb8ae697a5e381af,mI 1,mS 12 0xe3818de38287e38186e381af,mI 1,mS 12 0xe382ade383a7e382a6e3838f,mI 3,mS 12 0xefbdb7efbdaeefbdb3efbe8a,mI 3] 48,.map [] 0,mT [mI 23,mL 57 1 1,mL 58 1 1] 401,mT [mI 11,mL 59 1 1,mL 60 1 1] 401,mF (mB 10 0xe3818dafe38287e38186) 5,mT [mI 2,mI 1,mL 61 1 1] 340,mT [mI 10,mI 4] 3,mT [mI 21,mL 62 1 1,mL 63 1 1] 401,mT [mI 10,mL 64 1 1,mL 65 1 1] 401,mF (mB 9 0xe3e481bbaf8ae697a5) 5,mT [mI 2,mI 1,mL 66 1 1] 340]++pd++[mF [mI 0,mI 1] 3,mF [mI 2] 3,mF [mI 3] 3,mF [mI 4,mI 5] 3]++pe)⟩
def iC:E2:=⟨[(0,Ft),(1,Fu),(4,Hu)],[],[],(.bool Ag),[]⟩
def dL:AH→AH→Bool
 |[],[]=>true
 |.int .i64 (.ofNat a)::l,.int .i64 (.ofNat b)::m=>Am a b&&dL l m
 |.string a::l,.string b::m=>Gp a.data.toList b.data.toList&&dL l m
 |_,_=>false
def dT (x:AH):List BI→Option (List BI)
 |[]=>none
 |d::D=>bif dL x (Bt d) then some D else(match dT x D with|some r=>some (d::r)|none=>none)
def eG:List AH→List BI→Bool
 |[],[]=>true
 |x::l,D=>(match dT x D with|some r=>eG l r|none=>false)
 |_,_=>false
def fI (D:List BI) (_:Be) (args:AH) (h:Y):Jl:=match args with
 |
  [.slice (some ⟨id,0,none⟩) len _,.func (.func g) ⟨[]⟩ ⟨[]⟩]=>(match h.t.get id with
  |
   some (.cells c N e 0 0 x)=>(match HF 7 c 0 len with
   |some gs=>bif Am g 127&&Am e 109&&Nat.blt 0 len&&Ar len 1000000&&Ar (len*7) N&&eG gs D then some (.tuple #[],h.put id (.cells (T.laid (D.map Bt).flatten 0 .nil) N 109 0 0 x)) else none
   |none=>none)
  |_=>none)
 |_=>none
def dU (f t k n l c e:Nat):BI:=⟨.ofNat f,.ofNat t,⟨⟨mD k n []⟩⟩,.ofNat l,.ofNat l,.ofNat c,.ofNat e⟩
def eZ:List BI:=[dU 0 3 6 0xe4bb8ae697a5 1 100 1,dU 0 1 3 14909837 1 10000 3,dU 1 2 3 14910087 1 10000 3,dU 2 3 3 14909830 1 10000 3,dU 3 4 3 14909871 2 50 1,dU 3 4 3 14909871 1 10000 3]
def lI:A9:={a:=λf=>bif Am f 117 then I (Vh Ax [m7,m8,m9,kY]) else bif Am f 126 then I (fI eZ) else Z,M:=λ_=>Z,b:=λ_=>Z,hk:=λ_=>Z,c:=λ_=>Z}
end
end Go.Ev
