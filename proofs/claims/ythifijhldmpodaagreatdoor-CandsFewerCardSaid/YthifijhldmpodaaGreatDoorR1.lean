/-
  Part of the proof.
-/
import Derived.Test.YthifijhldmpodaaGreatDoorR0
import Derived.Shelf.SlSortCmp.WholeK
import Derived.Shelf.SlSortCmp.NoneTotal
import Derived.Lib.MakeNoZero
import Derived.Lib.Bytealg
import Derived.RecoverIn
import Derived.TacticsInMore
import Derived.OpenShut
import Derived.ChangeArms
import Derived.Stop.Joined
import Derived.Handed
import GoSem.ClaimGoes
import Derived.Shelf.SlGeneric
import Derived.Ground.NamesProg
import Derived.Ground.SlsfProg
import Derived.Shelf.SlLaysF0
import Derived.Shelf.Slices.In.SortAlone
import Derived.Test.YthifijhldmpodaaGreatDoorProg
import Derived.Test.YthifijhldmpodaaGreatDoorChecked
set_option maxRecDepth 100000
set_option maxHeartbeats 40000000
set_option linter.all false
open Bool renaming false->Ah,true->Ag,rec->B1,and_eq_true->An,or_eq_true->Dm,true_and->Abz,false_eq_true->BE,not_true->Qf,not_false->Kz,and_true->Mh,or_eq_false_iff->Iy
open Go renaming BinOp->CT,Code->DC,Deferred->Hh,Func->BC,FuncId->Au,IntKind->Cq,MapEntry->Ap,Oper->C0,Operand->BU,Program->AN,TypeDesc->Apj,TypeId->Ai,TypeInfo->KR,Value->Aa,World->AM,Act->FP,Addr->BD,Ending->ZG,Next->RM,DataW->JO,MemPlace->IY
open Option renaming none->Z,some->I,map_some->Ek,bind_some->CC
open Nat renaming rec->UE,div->Qe,beq->Am,mod->Zy,succ->A3,eq_of_beq_eq_true->Af,ble->Ar,blt->AD,lt_trichotomy->FD,le_refl->Ae,lt_of_lt_of_le->AC,le_trans->Ao,lt_or_ge->A8,le_of_ble_eq_true->Ac,ble_eq_true_of_le->Aq,le_of_eq->A2,le_succ->Yr,blt_eq->AK,mod_eq_of_lt->JQ,lt_of_not_le->BB,lt_or_gt_of_ne->Sk,sub_zero->DL,zero_add->Ba,add_assoc->DD,add_mul->Dw,mod_lt->Je,zero_mul->Qg,mul_le_mul_right->Ci,mul_assoc->Ajd,zero_le->Al,le_of_not_lt->Aci,le_of_lt->Bf,min_eq_right->Apf,max_eq_right->KZ,min_eq_left->N4,eq_zero_or_pos->KQ,mul_comm->UI,le_add_right->GW,add_sub_cancel_left->Ds,add_comm->UK,not_lt_zero->F5,mul_le_mul->Cj,add_zero->UL,mul_one->BJ,testBit_and->Tt,testBit_two_pow_mul_add->IX,lt_of_le_of_lt->Ji,and_le_left->Ms,mul_add->EG,and_two_pow_sub_one_eq_mod->EH,add_mul_mod_self_left->WY
open List renaming rec->Hg,length_cons->AO,getElem?_cons_succ->B5,all_cons->Jh,map_cons->Bp,drop_eq_getElem_cons->Di,drop_drop->GR,drop_zero->Ajb,getElem?_append_left->AB,mem_cons_of_mem->Az,mem_cons_self->Av,foldr_cons->Apa,foldl_cons->F7,replicate->AE,length_append->Aj,length_map->A4,getElem?_append_right->Bq,getElem?_eq_none->CD,mem_of_getElem?->AZ,take_of_length_le->Bj,append_nil->Fb,getD_eq_getElem?_getD->Ak,nil_append->IW,cons_append->KB,all_eq_true->Jf,mk_mem_zipIdx_iff_getElem?->Qh,mem_append_left->DW,range->BG,countP_cons->Amu,flatten_cons->JR,getElem?_eq_getElem->Ab,finRange->KC,getElem?_map->AX,pairwise_iff_getElem->F8,getElem!_eq_getElem?_getD->UJ,nodup_nil->Jg,getElem?_inj->Ajk,not_mem_nil->KX,getElem_mem->Bu,take_append_drop->FO,take_length->CS,getElem?_set_self->O4,getElem?_set_ne->Amv,length_singleton->Br,length_drop->AV,length_take->Cg,getElem?_take->LS,getElem?_drop->Eg,sum_cons->Amw,count_le_length->HM,map_map->O5,count_append->K0,ext_getElem->Amx,getElem_map->EU,getElem_range->Ajg,getElem?_range->Jj,take_succ_eq_append_getElem->A5,map_append->BS,sum_append->PC
open Int renaming ofNat->AQ,toNat_of_nonneg->UQ,ofNat_eq_natCast->M9
open Go.Region renaming before->Df,binds->ET,ready->CQ
open Array renaming getElem?_push->Ajj,getElem?_setIfInBounds_ne->AY,ext_getElem?->JN,getElem?_modify->B3,replicate->Cz,map->ZA,getElem?_append_left->KP,getD_eq_getD_getElem?->Bh,getElem?_eq_getElem->By,getElem?_eq_none->Dr,getElem?_toList->Is,getElem?_mapIdx->Acj,size_append->Ajf,size_replicate->ZB
open Go.Value renaming int->AL,bool->CU,slice->PA
open Go.World renaming cell?->WX
open Go.Sem renaming run_bind->AI,run->Amr
open Go.Result renaming andThen_ok->Aw
open Go.Oper renaming looksAt->Ys
namespace Go.Ev
noncomputable section
section
variable {h J h0:Y} {v v' u x x' z y:Aa} {vs D0 l l' args AP:AH} {t e:Ai} {fr Ec:Fr} {ρ C2 FS:Ren} {w w':AM} {n i id m j off nx b r k U:Nat} {a:FP} {pl:Pl} {outs:List EO} {es C3:List Ap} {kp:Aa->Y->RR} {f:Au} {call:Be} {lo s:WS} {o:Op} {hb:HB} {op:CT} {τ:Bb} {P:AN}
section
variable{τ:Bb} {call:Be} {fr:Fr}
def Ark {o:Op} {h:Y} {lo s:WS} {t:Ai} (c:CF τ fr o h lo=.wr s (I t)):∃m k r,o=.mapEntry t m k/\ev τ fr m=I (.map (I r))/\s=.one r:=by
 have g:Fe h lo=.wr s (I t)->False:=by
  intro d;rcases JD h lo with⟨e,_⟩|⟨e,n⟩|e<;>rw[e] at d<;>cases d
 rcases OW with d|⟨a,d⟩|⟨a,i,d⟩|d|⟨i,m,k,r,j,l,d⟩<;>rw[d] at c
 .cases c
 .cases c
 .cases c
 .exact(g c).elim
 .rcases NH i r (Fe h lo) with f|⟨b,p,e,f|⟨hb,f⟩⟩<;>rw[f] at c
  .exact(g c).elim
  .cases c
  .cases c;subst hb;exact⟨m,k,b,j,l,B⟩
def Gk {o:Op} {h:Y} {k kp:Aa->Y->RR} (a:∀c,o≠.call c) (b:∀it s,o≠.next it s) (d:∀x,o≠.panic x):
 F9 τ call fr h o k kp=(match Ch τ fr h o with|some (v,J)=>k v J|none=>Z):=by
 cases o<;>first
  |rfl
  |exact Cf rfl (a _)
  |exact Cf rfl (b _ _)
  |exact Cf rfl (d _)
def Zl {o:Op} {h0:Y} {lo:WS} (g:CF τ fr o h0 lo=.aK) {h:Y} {k kp:Aa->Y->RR} {outs:List EO} (y:F9 τ call fr h o k kp=I outs):
 ∃v nb,∀(f:Y) (j m:Aa->Y->RR),f.nx=h.nx->F9 τ call fr f o j m=j v (Adb f nb):=by
 have p:(∀c,o≠.call c)->(∀it s,o≠.next it s)->(∀x,o≠.panic x)->R1 (λh=>Ch τ fr h o) h.nx->∃v nb,∀(f:Y) (j m:Aa->Y->RR),f.nx=h.nx->F9 τ call fr f o j m=j v (Adb f nb):=by
  intro E f K A;rw[Gk E f K] at y;rcases A with A|⟨v,nb,A⟩
  .have:=A h B
   simp[] at this;rw[this] at y;cases y
  .refine⟨v,nb,λJ j m M=>?_⟩
   rw[Gk E f K];have:=A J M;simp[] at this;rw[this]
 unfold CF at g;cases C:Dj o with
 |true=>exact p (λc q=>by subst q;cases C) (λi s q=>by subst q;cases C) (λx q=>by subst q;cases C) (XQ C _)
 |
  false=>
  rw[C] at g;simp[I0] at g;split at g
  .rename_i t
   refine p (by simp) (by simp) (by simp) ?_;simp[Ch];split
   .exact .new (λn=>AG n 0) _ λ_=>rfl
   .exact .no λ_=>rfl
  .rename_i t x
   refine p (by simp) (by simp) (by simp) ?_;simp[Ch];split
   .exact .new (λn=>AG n 0) _ λ_=>rfl
   .exact .no λ_=>rfl
  .rename_i t ps
   refine p (by simp) (by simp) (by simp) ?_;simp[Ch];split
   .exact .dC _ λ_=>rfl
   .exact .no λ_=>rfl
  .rename_i t n ps
   refine p (by simp) (by simp) (by simp) ?_;simp[Ch];split
   .rename_i vs R
    unfold Bs;split
    case h_2=>exact .no λ_=>rfl
    split
    case h_2=>exact .no λ_=>rfl
    rename_i i z _ _;cases q:(AD 0 i.size&&Am (AJ z).length i.size&&Ar (n*i.size) 16777216) with
    |false=>simp[I0];exact .no λ_=>rfl
    |
     true=>
     simp[D1];split
     .exact .new (λn=>.slice (I ⟨n,0,Z⟩) _ _) _ λ_=>rfl
     .exact .no λ_=>rfl
   .exact .no λ_=>rfl
  .rename_i t l c
   refine p (by simp) (by simp) (by simp) ?_;simp[Ch];split
   .unfold Dk
    split
    case h_2=>exact .no λ_=>rfl
    split
    case h_2=>exact .no λ_=>rfl
    rename_i e l c _ _ _ _ _ i z _ _;cases q:(Ar l c&&E3 (c*i.bytes)&&E3 c&&AD 0 i.size&&Am (AJ z).length i.size) with
    |false=>simp[I0];exact .no λ_=>rfl
    |true=>simp[D1];exact .new (λn=>.slice (I ⟨n,0,Z⟩) _ _) _ λ_=>rfl
   .exact .no λ_=>rfl
  .rename_i t r
   refine p (by simp) (by simp) (by simp) ?_;simp[Ch];split
   .exact .new (λn=>.map (I n)) _ λ_=>rfl
   .split
    .exact .new (λn=>.map (I n)) _ λ_=>rfl
    .exact .no λ_=>rfl
   .exact .no λ_=>rfl
  .split at g
   .cases g
   .exact(B2.2.2 g).elim
  .rename_i N
   split at g
   .cases N<;>cases g
   .exact(B2.2.2 g).elim
  .split at g
   .exact(L4.2.2 g).elim
   .exact(B2.2.2 g).elim
  .rename_i s d x
   refine p (by simp) (by simp) (by simp) ?_;simp[Ch];split at g
   .rename_i k n w;rw[w];exact Rq (.inl ⟨_,_,rfl⟩) _
   .rename_i s w;rw[w];exact Rq (.inr ⟨_,rfl⟩) _
   .exact(B2.2.2 g).elim
  .rename_i args D
   have Cw:∀v vs,O8 τ fr args.toList=I [v]->(∀f,I7 τ D.toList [v] f=vs)->∃v nb,∀(f:Y) (j m:Aa->Y->RR),f.nx=h.nx->F9 τ call fr f (.call ⟨.builtin .len,args,D⟩) j m=j v (Adb f nb):=by
    intro v vs O P;have L:∀(f:Y) (j m:Aa->Y->RR),F9 τ call fr f (.call ⟨.builtin .len,args,D⟩) j m=(match vs with|some u=>j u f|none=>Z):=by
     intro f j m;simp[F9,Ju,O,Bx,P f];cases vs<;>rfl
    rw[L] at y;cases vs with
    |none=>cases y
    |some u=>exact⟨u,Z,λf j m _=>L f j m⟩
   split at g
   .rename_i a b c w
    refine Cw _ (I7 τ D.toList [.slice a b c] h) w λf=>?_;unfold I7;split
    .rename_i t Q x xs E F
     cases F;split
     .rfl
     .rename_i H _
      cases H<;>rfl
    .rfl
   .rename_i s w
    refine Cw _ (I7 τ D.toList [.string s] h) w λf=>?_;unfold I7;split
    .rename_i t Q x xs E F
     cases F;split
     .rfl
     .rename_i H _
      cases H<;>rfl
    .rfl
   .exact(B2.2.2 g).elim
  .exact(B2.2.2 g).elim
def Agg {o:Op} {h0:Y} {lo:WS} {a:Nat} (b:CF τ fr o h0 lo=.rd a) {h:Y} {k kp:Aa->Y->RR} {outs:List EO} (j:F9 τ call fr h o k kp=I outs):
 ∃v,∀(d:Y) (e g:Aa->Y->RR),d.t.get a=h.t.get a->F9 τ call fr d o e g=e v d:=by
 have n:(∀c,o≠.call c)->(∀it s,o≠.next it s)->(∀x,o≠.panic x)->(∃X:Y->Option Aa,(∀d,Ch τ fr d o=CN d (X d))/\∀d,d.t.get a=h.t.get a->X d=X h)->
  ∃v,∀(d:Y) (e g:Aa->Y->RR),d.t.get a=h.t.get a->F9 τ call fr d o e g=e v d:=by
  rintro p d q ⟨X,u,z⟩;rw[Gk p d q,u] at j;cases w:X h with
  |none=>rw[w] at j;cases j
  |
   some v=>
   refine⟨v,λJ e g f=>?_⟩;rw[Gk p d q,u,z J f,w];rfl
 unfold CF at b;cases y:Dj o with
 |true=>rw[y] at b;cases b
 |
  false=>
  rw[y] at b;simp[I0] at b;split at b
  .cases b
  .cases b
  .cases b
  .cases b
  .cases b
  .cases b
  .rename_i t x
   split at b
   .rename_i id off l
    cases b;refine n (by simp) (by simp) (by simp) ⟨λd=>Bw τ t d a off,λd=>?_,λd f=>?_⟩
    .simp[Ch,l]
    .simp[Bw,f]
   .exact(B2.1 _ b).elim
  .rename_i t m x A
   split at b
   .rename_i r l
    cases A with
    |false=>cases b
    |true=>
    cases b;refine n (by simp) (by simp) (by simp) ⟨λd=>(match ev τ fr x with|some i=>BW τ t (.map (I a)) i Ag d|none=>Z),λd=>?_,λd f=>?_⟩
    .simp[Ch,l]
     cases ev τ fr x<;>rfl
    .simp[]
     split
     .simp[BW,f]
     .rfl
   .exact(B2.1 _ b).elim
  .split at b
   .exact(L4.1 _ b).elim
   .exact(B2.1 _ b).elim
  .split at b
   .cases b
   .cases b
   .exact(B2.1 _ b).elim
  .split at b
   .cases b
   .cases b
   .exact(B2.1 _ b).elim
  .exact(B2.1 _ b).elim
def I3 (τ:Bb) (t:Ai) (a:Nat) (c b:Option HB):Prop:=∀(x:Aa) (h J:Y),h.t.get a=c->J.t.get a=b->BW τ t (.map (I a)) x Ah h=BW τ t (.map (I a)) x Ah J
def I3.refl (t:Ai) (a:Nat) (c:Option HB):I3 τ t a c c:=λx h J e b=>by simp[BW,e,b]
def I3.symm {t:Ai} {a:Nat} {c b:Option HB} (h:I3 τ t a c b):I3 τ t a b c:=λx d f e g=>(h x f d g e).symm
def I3.trans {t:Ai} {a:Nat} {c d f:Option HB} (h:I3 τ t a c d) (J:I3 τ t a d f):I3 τ t a c f:=λx g i e j=>by
 cases d with
 |none=>exact(h x g ⟨.nil,0,.no⟩ e B).trans (J x ⟨.nil,0,.no⟩ i B j)
 |some b=>exact(h x g ⟨T.nil.ins a b,0,.no⟩ e (T.ao b T.nil a)).trans (J x ⟨T.nil.ins a b,0,.no⟩ i (T.ao b T.nil a) j)
def Afa {o:Op} {h0:Y} {lo:WS} {a t:Nat} (b:CF τ fr o h0 lo=.lk a t) {h:Y} {k kp:Aa->Y->RR} {outs:List EO} (d:F9 τ call fr h o k kp=I outs):
 ∃v,∀(c:Y) (e f:Aa->Y->RR),I3 τ t a (c.t.get a) (h.t.get a)->F9 τ call fr c o e f=e v c:=by
 unfold CF at b;cases g:Dj o with
 |true=>rw[g] at b;cases b
 |
  false=>
  rw[g] at b;simp[I0] at b;split at b
  .cases b
  .cases b
  .cases b
  .cases b
  .cases b
  .cases b
  .split at b
   .cases b
   .exact(B2.2.1 _ _ b).elim
  .rename_i t m x n
   split at b
   .rename_i r p
    cases n with
    |true=>cases b
    |false=>
    cases b;have j:∀(c:Y) (e f:Aa->Y->RR),F9 τ call fr c (.lookup t m x Ah) e f=(match ev τ fr x with|some i=>(match BW τ t (.map (I a)) i Ah c with|some v=>e v c|none=>Z)|none=>Z):=by
     intro c e f;rw[Gk (by simp) (by simp) (by simp)];simp[Ch,p];cases ev τ fr x with
     |none=>rfl
     |
      some i=>
      simp[];cases BW τ t (.map (I a)) i Ah c<;>rfl
    rw[j] at d;cases U:ev τ fr x with
    |none=>rw[U] at d;cases d
    |
     some i=>
     rw[U] at d;simp[] at d;cases l:BW τ t (.map (I a)) i Ah h with
     |none=>rw[l] at d;cases d
     |
      some v=>
      refine⟨v,λc e f q=>?_⟩;rw[j,U];simp[];rw[q i c h B B,l]
   .exact(B2.2.1 _ _ b).elim
  .split at b
   .exact(L4.2.1 _ _ b).elim
   .exact(B2.2.1 _ _ b).elim
  .split at b
   .cases b
   .cases b
   .exact(B2.2.1 _ _ b).elim
  .split at b
   .cases b
   .cases b
   .exact(B2.2.1 _ _ b).elim
  .exact(B2.2.1 _ _ b).elim
def L9 {Ec:Fr}:∀{l:List BU},(∀x∈l,ev τ fr x=ev τ Ec x)->O8 τ fr l=O8 τ Ec l
 |[],_=>rfl
 |
  x::l,h=>by
  simp[O8];rw[h x Av,L9 λy a=>h y (Az _ a)]
def M1 {Ec:Fr}:∀{l:List (Nat×BU)},(∀x∈l.map (·.2),ev τ fr x=ev τ Ec x)->Ql τ fr l=Ql τ Ec l
 |[],_=>rfl
 |
  (i,x)::l,h=>by
  simp[Ql];rw[h x (by simp),M1 λy a=>h y (by simp only[Bp];exact Az _ a)]
def Mf {Ec:Fr} {x:Option BU} (h:∀y∈x,ev τ fr y=ev τ Ec y):ZK τ fr x=ZK τ Ec x:=by
 cases x with
 |none=>rfl
 |some x=>simp[ZK];rw[h x B]
def WR {Ec:Fr} {o:Op} {h:Y} (d:∀x∈o.operands,ev τ fr x=ev τ Ec x):Ch τ fr h o=Ch τ Ec h o:=by
 cases o<;>simp only[Op.operands] at d<;>simp[Ch]
 case build t ps=>rw[M1 λx f=>d x (by simpa using f)]
 case buildSlice t n ps=>rw[M1 λx f=>d x (by simpa using f)]
 case makeFunc fn a b=>
  rw[L9 λx f=>d x (by simp at f;simp[f]),L9 λx f=>d x (by simp at f;simp[f])]
 case makeMap t r=>rw[Mf λy e=>d y (by simp at e;simp[e])]
 case slice t x lo U g=>
  rw[d x (by simp),Mf λy e=>d y (by simp at e;simp[e]),Mf λy e=>d y (by simp at e;simp[e]),
   Mf λy e=>d y (by simp at e;simp[e])]
 case pick c a b=>
  rw[d c (by simp)];split
  .rename_i t _;cases t
   .rw[Bm (by simp),d b (by simp)]
   .rw[Bi B,d a (by simp)]
  .rfl
 all_goals first
  |rfl
  |(rename_i x y;rw[d x (by simp),d y (by simp)];done)
  |simp_all
def L7 {Ec:Fr} {o:Op} {h:Y} {k kp:Aa->Y->RR} (d:∀x∈o.operands,ev τ fr x=ev τ Ec x):F9 τ call fr h o k kp=F9 τ call Ec h o k kp:=by
 by_cases e:∃c,o=.call c
 .obtain⟨c,rfl⟩:=e
  simp[Op.operands] at d;simp[F9,Ju];rw[L9 λx l=>d x (by simp at l;simp[Call.operands,l])];cases a:c.callee with
  |builtin b=>rfl
  |invoke r n=>simp[];rw[d r (by simp[Call.operands,a])]
  |value f=>simp[];rw[d f (by simp[Call.operands,a])]
 by_cases g:∃it s,o=.next it s
 .obtain⟨it,s,rfl⟩:=g
  simp[F9];rw[d it (by simp[Op.operands])]
 by_cases j:∃x,o=.panic x
 .obtain⟨x,rfl⟩:=j
  simp[F9];rw[d x (by simp[Op.operands])]
 rw[Gk (λc a=>e ⟨c,a⟩) (λi s a=>g ⟨i,s,a⟩) (λx a=>j ⟨x,a⟩),Gk (λc a=>e ⟨c,a⟩) (λi s a=>g ⟨i,s,a⟩) (λx a=>j ⟨x,a⟩),WR d]
end
section
def Ren.cut (ρ σ:Ren):Ren:=λid=>if(σ id).isSome then ρ id else Z
def Ren.aN {ρ σ:Ren} {pl':Pl} (h:ρ id=I pl) (J:σ id=I pl'):ρ.cut σ id=I pl:=by simp[Ren.cut,h,J]
def Ren.bO (ρ σ:Ren):(ρ.cut σ).le ρ:=λid pl h=>by
 unfold Ren.cut at h;split at h
 .exact h
 .cases h
def Ren.aM {ρ σ:Ren} (h:ρ.cut σ id=I pl):ρ id=I pl/\∃pl',σ id=I pl':=by
 unfold Ren.cut at h;split at h
 .rename_i a;exact⟨h,Option.isSome_iff_exists.1 a⟩
 .cases h
section
variable{ρ σ:Ren}
def Yw.cut {f a b:Fn} (h:Yw ρ f a) (J:Yw σ f b):Yw (ρ.cut σ) f a:=by
 cases h with
 |func f=>exact .func f
 |yield e=>cases J with|yield c=>exact .yield (Ren.aN e c)
mutual
def VR.cut {v v' g:Aa} (h:VR ρ v v') (J:VR σ v g):VR (ρ.cut σ) v v':=
 match v,v',g,h,J with
 |_,_,_,.bool b,_=>.bool b
 |_,_,_,.int k n,_=>.int k n
 |_,_,_,.float k n,_=>.float k n
 |_,_,_,.complex k n m,_=>.complex k n m
 |_,_,_,.string s,_=>.string s
 |_,_,_,.bn,_=>.bn
 |_,_,_,.ptr e,.ptr d=>.ptr (Ren.aN e d)
 |_,_,_,.az l c,_=>.az l c
 |_,_,_,.slice e f,.slice d _=>.slice (Ren.aN e d) f
 |_,_,_,.bw,_=>.bw
 |_,_,_,.map e,.map d=>.map (Ren.aN e d)
 |_,_,_,.bj,_=>.bj
 |_,_,_,.func f a c,.func i a' j=>.func (f.cut i) (LR.cut a a') (LR.cut c j)
 |_,_,_,.nilFunc,_=>.nilFunc
 |_,_,_,.iface r,.iface o=>.iface (VR.cut r o)
 |_,_,_,.nilIface,_=>.nilIface
 |_,_,_,.agg l,.agg l'=>.agg (LR.cut l l')
 |_,_,_,.tuple l,.tuple l'=>.tuple (LR.cut l l')
def LR.cut {l l' c:AH} (h:LR ρ l l') (J:LR σ l c):LR (ρ.cut σ) l l':=
 match l,l',c,h,J with
 |_,_,_,.nil,_=>.nil
 |_,_,_,.cons a b,.cons a' d=>.cons (VR.cut a a') (LR.cut b d)
end
def ER.cut:∀{l l' d:List Ap},ER ρ l l'->ER σ l d->ER (ρ.cut σ) l l'
 |_,_,_,.nil,_=>.nil
 |_,_,_,.cons a b c r,.cons a' e _ f=>.cons (a.cut a') (b.cut e) c (r.cut f)
def BR.cut {P:AN} {pl pl':Pl} {w w':AM} {hb:HB} (h:BR P ρ pl w hb) (J:BR P σ pl' w' hb):BR P (ρ.cut σ) pl w hb:=by
 cases hb with
 |
  cells c n e lo U x=>
  obtain⟨C,u,f,g,j,k,l,o⟩:=h;obtain⟨O,Q,p,q,R,y,S,k6⟩:=J;exact⟨C,u,f,g,j,λi v e=>let⟨a,v',b,c⟩:=k i v e;let⟨_,_,_,z⟩:=y i v e;⟨a,v',b,c.cut z⟩,l,o⟩
 |
  map es T=>
  obtain⟨C3,f,g⟩:=h;obtain⟨_,_,q⟩:=J;exact⟨C3,f,g.cut q⟩
 |str s V=>exact h
 |
  ay m W seen X=>
  cases m with
  |none=>exact h
  |
   some m=>
   obtain⟨A,f,g,j⟩:=h;obtain⟨_,p,_,_⟩:=J;exact⟨A,Ren.aN f p,g,j⟩
 |
  loop st aa tm sz ps ab ad d=>
  obtain⟨L,f,g,j,k,l,o,r,D,E,F,H,K⟩:=h;obtain⟨_,_,_,_,_,_,_,M,_,_,_,k8,_⟩:=J;exact⟨L,f,g,j,k,l,o,⟨r.1,λi v e=>let⟨v',a,b⟩:=r.2 i v e;let⟨_,_,N⟩:=M.2 i v e;⟨v',a,b.cut N⟩⟩,D,E,F,Ren.aN H k8,K⟩
 |aq t=>exact h
 |dead=>trivial
end
section
variable{τ:Bb}
def Aab:∀(d n:Nat) (t:Ai) (x y:Aa),d<=n->Do τ d t x=Ag->Do τ d t y=Ag->∃b,IZ τ n t x y=I b:=by
 intro d
 induction d with
 |zero=>intro n t x y _ h;cases h
 |
  succ d z=>
  intro n t x y F j g;obtain⟨n,rfl⟩:∃m,n=m+1:=⟨n-1,G⟩;simp only[Do] at j;split at j
  .rename_i k k' a i
   simp only[Do,i] at g;split at g
   .rename_i H K b e
    cases e;have o:=Ly j;have s:=Ly g;subst o;subst s;exact⟨_,by simp[IZ,i];rfl⟩
   .rename_i e;cases e
   .rename_i e;cases e
   .rename_i e;cases e
   .cases g
  .rename_i a i
   simp only[Do,i] at g;split at g
   .rename_i e;cases e
   .exact⟨_,by simp[IZ,i];rfl⟩
   .rename_i e;cases e
   .rename_i e;cases e
   .cases g
  .rename_i a i
   simp only[Do,i] at g;split at g
   .rename_i e;cases e
   .rename_i e;cases e
   .exact⟨_,by simp[IZ,i];rfl⟩
   .rename_i e;cases e
   .cases g
  .rename_i DU cs i
   simp only[Do,i] at g;split at g
   .rename_i e;cases e
   .rename_i e;cases e
   .rename_i e;cases e
   .rename_i L v e
    cases e;cases u:τ.bv t with
    |false=>rw[u] at j;cases j
    |true=>
    rw[u] at j g;simp only[D1] at j g;simp only[IZ,i,u,D1];have Cw:∀l:List Field,(l.all (λf=>match Le τ f.type cs.toList f.offset with|some p=>Do τ d f.type p|none=>Ah))=Ag->
     (l.all (λf=>match Le τ f.type v.toList f.offset with|some p=>Do τ d f.type p|none=>Ah))=Ag->
     ∃b,l.foldr (λf r=>if f.name= "_" then r else match Le τ f.type cs.toList f.offset,Le τ f.type v.toList f.offset with
      |some a,I b=>(match IZ τ n f.type a b with|some Ag=>r|some Ah=>I Ah|none=>Z)
      |_,_=>Z) (I Ag)=I b:=by
     intro l
     induction l with
     |nil=>intro _ _;exact⟨Ag,B⟩
     |
      cons f l A=>
      intro o s;simp only[Jh,An] at o s;obtain⟨b,hb⟩:=A o.2 s.2;rw[Apa,hb];by_cases w:f.name= "_"
      .rw[Bi w];exact⟨b,B⟩
      .rw[Bm w]
       have o:=o.1;have s:=s.1;split at o
       case h_2=>cases o
       rename_i p C;split at s
       case h_2=>cases s
       rename_i q D;obtain⟨c,E⟩:=z n f.type p q G o s;simp only[C,D,E];cases c
       .exact⟨Ah,B⟩
       .exact⟨b,B⟩
    exact Cw _ j g
   .cases g
  .cases j
def VO {kt:Ai} {k:Aa}:∀{es:List Ap} {j i:Nat} {e:Ap},CE τ kt k es j=I (I (i,e))->∃n,i=j+n/\es[n]?=I e
 |[],j,i,e,h=>by cases h
 |
  b::es,j,i,e,h=>by
  simp only[CE] at h;split at h
  .cases h;exact⟨0,B,B⟩
  .obtain⟨n,c,a⟩:=VO h
   exact⟨n+1,G,by simpa using a⟩
  .cases h
def Rs {f:Ap->Ap}:∀{es:List Ap} {i:Nat} {e:Ap},es[i]?=I e->f e=e->Cu es i f=es
 |[],_,_,_,_=>rfl
 |b::es,0,e,h,a=>by cases h;simp[Cu,a]
 |b::es,i+1,e,h,a=>by simp at h;simp[Cu,Rs h a]
def NV {kt:Ai} {k:Aa} {e:Ap} {b:Bool} (hb:IZ τ Op.maxDepth kt k e.key=I b):∀(es:List Ap) (j:Nat),
 CE τ kt k (es++[e]) j=(match CE τ kt k es j with|some (I x)=>I (I x)|some Z=>if b then I (I (j+es.length,e)) else I Z|none=>Z)
 |
  [],j=>by
  simp only[IW,CE,hb];cases b<;>rfl
 |
  a::es,j=>by
  simp only[KB,CE];cases h0:IZ τ Op.maxDepth kt k a.key with
  |none=>rfl
  |
   some c=>
   cases c with
   |true=>rfl
   |
    false=>
    simp only[];rw[NV hb es (j+1)];simp only[AO];rw[show j+1+es.length=j+(es.length+1) by omega]
def Wu {Cw:Aa} (a:D6 τ t (.map (I r)) Cw h=I (v,J)):I3 τ t r (h.t.get r) (J.t.get r):=by
 unfold D6 at a;split at a
 case h_2=>cases a
 rename_i kt et F m q;cases q;obtain⟨s,a⟩:=C1 a;split at a
 case h_2=>cases a
 rename_i es d u;intro x H g f j;rw[u] at f;simp only[BW,m];cases w:Do τ 5 kt x with
 |false=>rfl
 |true=>
 simp only[D1];split at a
 .rename_i i e y
  obtain⟨A,a⟩:=C1 a;simp only[Option.some.injEq,Prod.mk.injEq] at a;obtain⟨_,rfl⟩:=a;obtain⟨n,k,C⟩:=VO y;have k:i=n:=G;subst k;have l:=(NX A).1;have D:Cu es i (λe=>{e with key:=Cw})=es:=Rs C (by cases e;simp at l;simp[l]);have c:(h.t.ins r (.map (Cu es i (λe=>{e with key:=Cw})) d)).get r=g.t.get r:=j.symm
  rw[T.ao,D] at c;rw[f,←c]
 .split at a
  case h_2=>cases a
  rename_i z E;simp only[Option.some.injEq,Prod.mk.injEq] at a;obtain⟨_,rfl⟩:=a;have c:(h.t.ins r (.map (es++[{key:=Cw,val:=z,born:=d}]) (d+1))).get r=g.t.get r:=j.symm;rw[T.ao] at c;rw[f,←c];simp only[];obtain⟨b,hb⟩:=Aab (τ:=τ) 5 Op.maxDepth kt x Cw (by decide) w s;rw[NV (e:={key:=Cw,val:=z,born:=d}) hb];cases CE τ kt x es 0 with
  |none=>rfl
  |
   some o=>
   cases o with
   |some p=>rfl
   |
    none=>
    cases b with
    |true=>simp[E]
    |false=>rfl
 .cases a
end
def Ws (E:Nat->Hi) (j:Nat) (s:WS):Prop:=∃a,E j=.wr s a
def Wr (H:Nat->Y) (E:Nat->Hi) (j id:Nat):Prop:=id<(H j).nx/\∃s,Ws E j s/\s.has id
def WT (AU:Array C0) (j t:Nat):Prop:=∃o,AU[j]?=I o/\o.dst=I t
structure Frm (τ:Bb) (H:Nat->Y) (E:Nat->Hi) (j:Nat):Prop where
 nx:(H j).nx<=(H (j+1)).nx
 lo:(H (j+1)).lo<=(H j).lo
 wr:∀s,Ws E j s->(H (j+1)).lo<=s
 same:∀id,id<(H j).nx->¬Wr H E j id->(H (j+1)).t.get id=(H j).t.get id
 rd:∀a,E j=.rd a->(H (j+1)).nx=(H j).nx
 lk:∀a t,E j=.lk a t->(H (j+1)).nx=(H j).nx
 live:∀b s,Ws E j s->s.top=I b->∃hb,(H j).t.get b=I hb/\hb.live=Ag
 me:∀s t,E j=.wr s (I t)->∃r,s=.one r/\I3 τ t r ((H j).t.get r) ((H (j+1)).t.get r)
 ok:(E j).ok=Ag
section
variable{P:AN} {τ:Bb} {call:Be} {AU:Array C0} {F:Nat->Fr} {H:Nat->Y} {E:Nat->Hi}
def Hk.cp {s:Sem RM} {R:ZG->AM->Prop} (h:Hk P s w R):∃e w',R e w':=by
 unfold Hk at h;split at h
 .exact⟨_,_,h⟩
 .exact⟨_,_,h⟩
 .obtain⟨e,w',_,r,_⟩:=h.2 [] (room_wide _)
  exact⟨e,w',r⟩
 .rename_i l f b c d w' _
  obtain⟨e,a,r,_⟩:=h.2 (Frame.enter P f #[] .normal) [] (room_wide _);exact⟨e,a,r⟩
 .exact⟨_,_,h⟩
 .exact h.elim
abbrev DK (fr:Fr) (o:C0):Aa->Y->RR:=λv J=>match fr.set o.dst v with|some Ec=>I [.aE Ec J]|none=>Z
abbrev DP:Aa->Y->RR:=λ_ _=>Z
def P4 {fr1:Fr} {o:C0} {b:Y} {c:List EO} (a:DK fr o v b=I c) (d:c⊆[.aE fr1 J]):fr.set o.dst v=I fr1/\b=J:=by
 simp only[DK] at a;split at a
 case h_2=>cases a
 rename_i f e;cases a;have:=d (List.mem_singleton.2 rfl);have:=List.mem_singleton.1 this;cases this;exact⟨e,B⟩
def Qw {fr1:Fr} {o:C0} {a:Y} (b:DK fr o v a=I [.aE fr1 J]):fr.set o.dst v=I fr1/\a=J:=P4 b λ_ h=>h
def JG {d:Option Tmp} (h:fr.set d v=I Ec):Ec.sz=fr.sz/\Ec.ds=fr.ds/\(∀t,d≠I t->Ec.tm.get t=fr.tm.get t)/\∀t,d=I t->t<fr.sz/\Ec.tm.get t=I v:=by
 unfold Fr.set at h;cases d with
 |none=>cases h;exact⟨B,B,λ_ _=>rfl,λt a=>by cases a⟩
 |
  some d=>
  simp only at h;obtain⟨b,h⟩:=C1 h;cases h;refine⟨B,B,λt a=>T.aP _ _ λc=>a (by rw[c]),λt a=>?_⟩;cases a;exact⟨by simpa[AK] using b,T.ao _ _ _⟩
def Afd {fr1:Fr} {o:C0} (d:F9 τ call fr h.ad o.op (DK fr o) DP=I [.aE fr1 J]) (i:(CF τ fr o.op h J.lo).ok=Ag):
 ((∀s g,CF τ fr o.op h J.lo≠.wr s g)->∀id,id<h.nx->¬J.lo.has id)/\(∀a,CF τ fr o.op h J.lo=.rd a->J.nx=h.nx)/\(∀a t,CF τ fr o.op h J.lo=.lk a t->J.nx=h.nx):=by
 have j:∀a,CF τ fr o.op h J.lo=.rd a->J=h.ad:=by
  intro a c;obtain⟨v,f⟩:=Agg c d;have b:=f h.ad (DK fr o) DP B;rw[d] at b;exact(Qw b.symm).2.symm
 have k:∀a t,CF τ fr o.op h J.lo=.lk a t->J=h.ad:=by
  intro a t c;obtain⟨v,f⟩:=Afa c d;have b:=f h.ad (DK fr o) DP (I3.refl _ _ _);rw[d] at b;exact(Qw b.symm).2.symm
 refine⟨λl id m=>?_,λa c=>by rw[j a c];rfl,λa t c=>by rw[k a t c];rfl⟩;cases e:CF τ fr o.op h J.lo with
 |
  aK=>
  obtain⟨v,nb,f⟩:=Zl e d;have b:=f h.ad (DK fr o) DP B;rw[d] at b;obtain⟨_,n⟩:=Qw b.symm;rw[←n];cases nb<;>exact λh=>h
 |rd a=>rw[j a e];exact λh=>h
 |lk a t=>rw[k a t e];exact λh=>h
 |aD=>exact GO (Aly e) m
 |wr s g=>exact Cf e (l s g)
 |bad=>rw[e] at i;cases i
def Abb (T:BM P τ) (W:C8 P τ call) {ρ:Ren} {o:C0} (st:St P τ ρ (F j) (H j) a w) (l:OA τ call AU F H E j o):
 Frm τ H E j/\(∃v,(F j).set o.dst v=I (F (j+1)))/\∃C2 a' w',St P τ C2 (F (j+1)) (H (j+1)) a' w'/\∀id,id<(H j).nx->C2 id=ρ id:=by
 obtain⟨ai,⟨X,J,c,d,f,K⟩|⟨X,n,d,f⟩⟩:=l
 .have aa:=ND T W (C5.ad st.hk) st.aF c
  obtain⟨e,w',h⟩:=aa.cp;cases e with
  |outgrown=>exact h.elim
  |panicked ch=>obtain⟨_,_,_,_,_,_,_,_,_,hb,_⟩:=h;cases hb
  |
   returned v'=>
   obtain⟨ab,v,u,o1,ad,ae,y,hK,af⟩:=h;obtain⟨n,rfl⟩:=P4 hK af;obtain⟨L,M,N⟩:=Afd c (f▸K);have O:∀s,Ws E j s->s=u.lo:=λs l=>let⟨p,i⟩:=l;(Xz (f.symm.trans i)).1;rw[←f] at L M N;have Q:=y.af;have R:=Ahj (H j).lo u.lo;refine⟨⟨?_,?_,λlo g=>?_,λid z ag=>?_,λb hb=>?_,λb t hb=>?_,λb s hb ah=>?_,λs t h=>?_,K⟩,⟨v,n⟩,?_⟩
   .rw[d];exact Q.1
   .rw[d];exact R.1
   .rw[d,O lo g];exact R.2
   .rw[d]
    refine Q.2.2 id z ?_;by_cases S:∃lo,Ws E j lo
    .obtain⟨lo,g⟩:=S
     rw[←O lo g];exact λq=>ag ⟨z,lo,g,q⟩
    .exact L (λlo p g=>S ⟨lo,p,g⟩) id z
   .rw[d];exact M b hb
   .rw[d];exact N b t hb
   .obtain⟨p,i⟩:=hb
    exact(Xz (f.symm.trans i)).2 b ah
   .obtain⟨m,k,r,ho,hm,l⟩:=Ark (f.symm.trans h)
    refine⟨r,l,?_⟩;rw[d];show I3 τ t r ((H j).t.get r) (u.t.get r);rw[ho,Gk (by simp) (by simp) (by simp)] at c;simp only[Ch,hm] at c;cases V:ev τ (F j) k with
    |none=>rw[V] at c;cases c
    |
     some Cw=>
     rw[V] at c;simp only[] at c;cases i:D6 τ t (.map (I r)) Cw (H j).ad with
     |none=>rw[i] at c;cases c
     |
      some x=>
      rw[i] at c;simp only[] at c;obtain⟨_,h2⟩:=Qw c;have:=Wu i;rw[h2] at this;exact this
   .have q:=y.le (C5.ad st.hk)
    obtain⟨A,C,D⟩:=L6 (st.aF.mono q) ad n;refine⟨ab,a.put o.dst v',w',⟨?_,A,by rw[C,D];exact st.ds.mono q⟩,y.br.ext⟩;rw[d];exact ae
 .refine⟨⟨by rw[d];exact Ae _,by rw[d];exact WS.le_refl _,λlo g=>(by obtain⟨p,g⟩:=g;rw[f] at g;cases g),λid _ _=>by rw[d],λb hb=>(by rw[f] at hb;cases hb),λb t hb=>(by rw[f] at hb;cases hb),
   λb s hb=>(by obtain⟨p,hb⟩:=hb;rw[f] at hb;cases hb),λs t h=>(by rw[f] at h;cases h),by rw[f];rfl⟩,⟨_,n⟩,?_⟩
  obtain⟨A,C,D⟩:=L6 st.aF (OR (ρ:=ρ)) n;exact⟨ρ,a.put o.dst undef,w,⟨by rw[d];exact st.hk,A,by rw[C,D];exact st.ds⟩,λ_ _=>rfl⟩
structure G0 (P:AN) (τ:Bb) (call:Be) (AU:Array C0) (F:Nat->Fr) (H:Nat->Y) (E:Nat->Hi) (R:Nat->Ren):Prop where
 step:∀j o,AU[j]?=I o->OA τ call AU F H E j o
 sep:∀x y,x<y->y<AU.size->MF (E y) (E x) (H x).nx (H (x+1)).nx=Ag->Hy (Df AU).toList y x=Ag
 aE:∀j,j<AU.size->Frm τ H E j
 set:∀j o,AU[j]?=I o->∃v,(F j).set o.dst v=I (F (j+1))
 ng:τ.ng<=(H 0).nx
 st:∀j,j<=AU.size->∃a w,St P τ (R j) (F j) (H j) a w
 ext:∀j,j<AU.size->∀id,id<(H j).nx->R (j+1) id=R j id
def ACp (T:BM P τ) (l:C8 P τ call) {ρ:Ren} (st:St P τ ρ (F 0) (H 0) a w) (i:∀j o,AU[j]?=I o->OA τ call AU F H E j o)
 (n:∀x y,x<y->y<AU.size->MF (E y) (E x) (H x).nx (H (x+1)).nx=Ag->Hy (Df AU).toList y x=Ag):∃R,R 0=ρ/\G0 P τ call AU F H E R:=by
 have Cw:∀m,m<=AU.size->∃R:Nat->Ren,R 0=ρ/\(∀j,j<=m->∃a w,St P τ (R j) (F j) (H j) a w)/\(∀j,j<m->Frm τ H E j/\(∀o,AU[j]?=I o->∃v,(F j).set o.dst v=I (F (j+1)))/\∀id,id<(H j).nx->R (j+1) id=R j id):=by
  intro m
  induction m with
  |zero=>intro _;exact⟨λ_=>ρ,B,λj b=>by(have:j=0:=G);subst this;exact⟨a,w,st⟩,λj b=>G⟩
  |
   succ m p=>
   intro A;obtain⟨R,g,e,c⟩:=p G;obtain⟨a1,C,q⟩:=e m (Ae _);have d:AU[m]?=I AU[m]:=By G;obtain⟨f1,f2,C2,a',w',r,s⟩:=Abb T l q (i m _ d);refine⟨λj=>if j=m+1 then C2 else R j,by simp[g],λj b=>?_,λj b=>?_⟩
   .by_cases f:j=m+1
    .subst f;simp only[Bi];exact⟨a',w',r⟩
    .simp only[Bm f];exact e j G
   .by_cases f:j=m
    .subst f
     refine⟨f1,λo' k=>?_,λid h=>?_⟩
     .rw[d] at k;cases k;exact f2
     .simp only[Bi,Bm (show¬j=j+1 by omega)];exact s id h
    .obtain⟨t,u,z⟩:=c j G
     refine⟨t,u,λid h=>?_⟩;simp only[Bm (show¬j+1=m+1 by omega),Bm (show¬j=m+1 by omega)];exact z id h
 obtain⟨R,g,e,c⟩:=Cw AU.size (Ae _);exact⟨R,g,i,n,λj b=>(c j b).1,λj o d=>(c j (Array.getElem?_eq_some_iff.1 d).1).2.1 o d,st.hk.2,e,λj b=>(c j b).2.2⟩
section
variable{R:Nat->Ren}
def G0.aA (r:G0 P τ call AU F H E R) {p:Nat} (h:p<=m) (c:m<=AU.size):(H p).nx<=(H m).nx:=by
 induction m with
 |zero=>
  have:p=0:=G;subst this;exact Ae _
 |
  succ m a=>
  by_cases b:p=m+1
  .subst b;exact Ae _
  .exact Ao (a G G) (r.aE m G).nx
def G0.lo_le (r:G0 P τ call AU F H E R) {p:Nat} (h:p<=m) (c:m<=AU.size):(H m).lo<=(H p).lo:=by
 induction m with
 |zero=>
  have:p=0:=G;subst this;exact WS.le_refl _
 |
  succ m a=>
  by_cases b:p=m+1
  .subst b;exact WS.le_refl _
  .exact WS.le_trans (r.aE m G).lo (a G G)
def G0.same (r:G0 P τ call AU F H E R) {p:Nat} (h:p<=m) (f:m<=AU.size) (b:id<(H p).nx) (a:∀j,p<=j->j<m->¬Wr H E j id):(H m).t.get id=(H p).t.get id:=by
 induction m with
 |zero=>
  have:p=0:=G;subst this;rfl
 |
  succ m c=>
  by_cases d:p=m+1
  .subst d;rfl
  .rw[(r.aE m G).same id (AC b (r.aA G G)) (a m G G)]
   exact c G G λj e g=>a j e G
def G0.tm (r:G0 P τ call AU F H E R) {p:Nat} (h:p<=m) (i:m<=AU.size) {t:Nat} (a:∀j,p<=j->j<m->¬WT AU j t):(F m).tm.get t=(F p).tm.get t:=by
 induction m with
 |zero=>
  have:p=0:=G;subst this;rfl
 |
  succ m c=>
  by_cases d:p=m+1
  .subst d;rfl
  .have b:AU[m]?=I AU[m]:=By G
   obtain⟨v,e⟩:=r.set m _ b;rw[(JG e).2.2.1 t λf=>a m G G ⟨_,b,f⟩];exact c G G λj g k=>a j g G
def G0.sz (r:G0 P τ call AU F H E R) (e:m<=AU.size):(F m).sz=(F 0).sz/\(F m).ds=(F 0).ds:=by
 induction m with
 |zero=>exact⟨B,B⟩
 |
  succ m a=>
  have c:AU[m]?=I AU[m]:=By G;obtain⟨v,d⟩:=r.set m _ c;have b:=JG d;exact⟨b.1.trans (a G).1,b.2.1.trans (a G).2⟩
def G0.cX (r:G0 P τ call AU F H E R) {p:Nat} (h:p<=m) (d:m<=AU.size) (a:id<(H p).nx):R m id=R p id:=by
 induction m with
 |zero=>
  have:p=0:=G;subst this;rfl
 |
  succ m b=>
  by_cases c:p=m+1
  .subst c;rfl
  .rw[r.ext m G id (AC a (r.aA G G))]
   exact b G G
def G0.bi (r:G0 P τ call AU F H E R) (b:m<=AU.size) (h:R m id=I pl):id<(H m).nx:=by
 obtain⟨a,w,st⟩:=r.st m b;exact BB λc=>by rw[st.hk.1.fresh id c] at h;cases h
def G0.bK (r:G0 P τ call AU F H E R) (U:i<AU.size) (d:j<AU.size) (e:(H i).nx<=id) (f:id<(H (i+1)).nx) (g:(H j).nx<=id) (h:id<(H (j+1)).nx):i=j:=by
 rcases FD i j with a|b|c
 .have:=r.aA (p:=i+1) (m:=j) a G;omega
 .exact b
 .have:=r.aA (p:=j+1) (m:=i) c G;omega
end
end
end
end
section
variable {h J h0:Y} {v v' u x x' z y:Aa} {vs D0 l l' args AP:AH} {t e:Ai} {fr Ec:Fr} {ρ C2 FS:Ren} {w w':AM} {n i id m j off nx b r k U:Nat} {a:FP} {pl:Pl} {outs:List EO} {es C3:List Ap} {kp:Aa->Y->RR} {f:Au} {call:Be} {lo s:WS} {o:Op} {hb:HB} {op:CT} {τ:Bb} {P:AN}
abbrev On (L:Array Bool) (j:Nat):Prop:=L.getD j Ah=Ag
def I9 {L:Array Bool} {i:Nat} (U:i<L.size):On (L.setIfInBounds i Ag) j↔(On L j\/j=i):=by
 unfold On;by_cases h:i=j
 .subst h;simp[Bh,U]
 .rw[getD_set_ne Ah h]
  exact⟨.inl,λa=>a.resolve_right λe=>h e.symm⟩
section
variable{P:AN} {τ:Bb} {call:Be} {AU:Array C0} {F:Nat->Fr} {H:Nat->Y} {E:Nat->Hi} {R:Nat->Ren}
def Cnd (AU:Array C0) (H:Nat->Y) (E:Nat->Hi) (L:Array Bool) (m id:Nat):Prop:=∀j,j<AU.size->Wr H E j id->(On L j↔j<m)
structure PK (P:AN) (AU:Array C0) (F:Nat->Fr) (H:Nat->Y) (E:Nat->Hi) (R:Nat->Ren) (Yt:Ren) (a0:FP) (w0:AM) (L:Array Bool) (ρ:Ren) (a:FP) (w:AM):Prop where
 size:L.size=AU.size
 closed:LZ AU (On L)
 sz:(F 0).sz=a.tmps.size
 tm:∀t m v,m<=AU.size->(∀j,WT AU j t->(On L j↔j<m))->(F m).tm.get t=I v->∃v',a.tmps[t]?=I v'/\VR ρ v v'
 ds:a.defers=a0.defers
 aC:∀id pl,ρ id=I pl->pl.b<w.heap.size
 made:∀id pl,ρ id=I pl->id<(H 0).nx\/∃j,j<AU.size/\On L j/\(H j).nx<=id/\id<(H (j+1)).nx
 ext:∀id,id<(H 0).nx->ρ id=Yt id
 bi:∀id pl,ρ id=I pl->∃pl',R AU.size id=I pl'
 mem:∀id pl hb m,m<=AU.size->ρ id=I pl->id<(H m).nx->Cnd AU H E L m id->(H m).t.get id=I hb->BR P ρ pl w hb
 ord:∀id id' pl pl' hb m,m<=AU.size->ρ id=I pl->ρ id'=I pl'->id<id'->pl.b=pl'.b->id<(H m).nx->Cnd AU H E L m id->(H m).t.get id=I hb->hb.live=Ah
 cG:∀id id' pl pl' j,j<AU.size->(H j).nx<=id->id<(H (j+1)).nx->(∀lo,¬Ws E j lo)->ρ id=I pl->ρ id'=I pl'->id'<(H j).nx->pl'.b≠pl.b
 bX:w0.heap.size<=w.heap.size
 ae:∀b,b<w0.heap.size->(∀id pl,(H AU.size).lo.has id->Yt id=I pl->pl.b≠b)->w.heap[b]?=w0.heap[b]?
 new:∀id pl,(H 0).nx<=id->ρ id=I pl->w0.heap.size<=pl.b\/∃j pj,(H AU.size).lo.has j/\Yt j=I pj/\pj.b=pl.b
 os:w.os=w0.os
 out:w.output=w0.output
 tape:w.tape=w0.tape
 drawn:w0.drawn<=w.drawn
def NQ {b:Bo} {x y:Nat} (h:y<x):Hy b x y=(b.getD x 0).testBit y:=by
 unfold Hy;rw[Aq (Bf h)];rfl
def Ie {L:Array Bool} {i:Nat} (h:i∈CQ .any AU L):i<L.size/\¬On L i/\∃o,AU[i]?=I o/\∀e∈o.after,ET .any e=Ag->On L e.on:=by
 obtain⟨a,o,d,f⟩:=mem_ready.1 h;have c:i<L.size:=BB λg=>by rw[Bh,Dr g] at a;cases a
 refine⟨c,λb=>?_,o,d,f⟩;rw[Bh,By c] at a;unfold On at b;rw[Bh,By c] at b;simp at a b;rw[a] at b;cases b
def Rv {L:Array Bool} {i:Nat} (d:LZ AU (On L)) (h:i∈CQ .any AU L):LZ AU (λj=>On L j\/j=i):=by
 obtain⟨_,_,o,f,g⟩:=Ie h;intro j k e a c hb b;rcases b with b|rfl
 .exact .inl (d j k e a c hb b)
 .rw[f] at a;cases a;exact .inl (g e c hb)
def Ic {L:Array Bool} {i:Nat} (c:LZ AU (On L)) (d:i∈CQ .any AU L) (e:j≠i) (h:Hy (Df AU).toList (max i j) (min i j)=Ag):(On L j↔j<i):=by
 rcases Sk e with a|b
 .rw[Nat.max_eq_left (Bf a),Apf (Bf a),NQ a] at h
  have:=LD (Rv c d) h (.inr B);exact⟨λ_=>a,λ_=>this.resolve_right e⟩
 .rw[KZ (Bf b),N4 (Bf b),NQ b] at h
  exact⟨λf=>Cf (LD c h f) (Ie d).2.1,λa=>G⟩
def L3 {i:Nat} (h:s.has i):s.hasB i=true:=by
 cases s with
 |no=>exact h.elim
 |one b=>have h:i=b:=h;subst h;show Am i i=Ag;simp
 |rest lo=>exact Aq h
 |
  pair b lo=>
  have h:i=b\/lo<=i:=h;show(Am i b||Ar lo i)=Ag;rcases h with h|h
  .subst h;simp
  .rw[Aq h,Bool.or_true]
def X4 {i nx':Nat} (h:s.has i) (d:nx<=i) (e:i<nx'):s.meets nx nx'=true:=by
 cases s with
 |no=>exact h.elim
 |
  one b=>
  have h:i=b:=h;subst h;show(Ar nx i&&AD i nx')=Ag;have a:AD i nx'=true:=by rw[AK];exact e
  rw[Aq d,a];rfl
 |
  rest lo=>
  have h:lo<=i:=h;show(AD nx nx'&&AD lo nx')=Ag;have c:AD nx nx'=true:=by rw[AK];omega
  have a:AD lo nx'=true:=by rw[AK];omega
  rw[c,a];rfl
 |
  pair b lo=>
  have h:i=b\/lo<=i:=h;show((Ar nx b&&AD b nx')||(AD nx nx'&&AD lo nx'))=Ag;rcases h with h|h
  .subst h
   have a:AD i nx'=true:=by rw[AK];exact e
   rw[Aq d,a];rfl
  .have c:AD nx nx'=true:=by rw[AK];omega
   have a:AD lo nx'=true:=by rw[AK];omega
   rw[c,a,Bool.and_self,Bool.or_true]
def Nv (r:G0 P τ call AU F H E R) {i:Nat} {d:Option Ai} (U:i<AU.size) (l:j<AU.size) (m:i≠j) (k:E i=.wr lo d)
 (b:(∃e,Ws E j e)\/E j=.aD\/(∃a,E j=.rd a/\lo.has a)\/∃a t,E j=.lk a t/\lo.has a/\ZU t d=Ah):
 Hy (Df AU).toList (max i j) (min i j)=true:=by
 rcases Sk m with f|g
 .rw[KZ (Bf f),N4 (Bf f)]
  refine r.sep i j f l ?_;rw[k];rcases b with⟨e,n,b⟩|b|⟨a,b,c⟩|⟨a,t,b,c,h⟩<;>rw[b]
  .rfl
  .rfl
  .exact L3 c
  .show(lo.hasB a&&!ZU t d)=Ag
   rw[L3 c,h];rfl
 .rw[Nat.max_eq_left (Bf g),Apf (Bf g)]
  refine r.sep j i g U ?_;rw[k];rcases b with⟨e,n,b⟩|b|⟨a,b,c⟩|⟨a,t,b,c,h⟩<;>rw[b]
  .rfl
  .rfl
  .exact L3 c
  .show(lo.hasB a&&!ZU t d)=Ag
   rw[L3 c,h];rfl
def OM (i j:Nat) (b:Bo) (h:Hy b (max i j) (min i j)=Ag):Hy b (max j i) (min j i)=true:=by
 rw[Nat.max_comm,Nat.min_comm];exact h
section
variable{Yt:Ren} {a0:FP} {w0:AM} {L:Array Bool} {ρ:Ren} {a:FP} {w:AM} {i:Nat}
def Xr (r:G0 P τ call AU F H E R) (CV:PK P AU F H E R Yt a0 w0 L ρ a w) (d:i∈CQ .any AU L) (U:i<AU.size) (e:j<AU.size) (c:j≠i) (b:Ws E i lo) (f:∃g,Ws E j g):(On L j↔j<i):=
 let⟨_,b⟩:=b
 Ic CV.closed d c (Nv r U e (Ne.symm c) b (.inl f))
def Arg (r:G0 P τ call AU F H E R) (CV:PK P AU F H E R Yt a0 w0 L ρ a w) (d:i∈CQ .any AU L) (U:i<AU.size) (e:j<AU.size) (f:(H i).nx<=id) (g:id<(H (i+1)).nx) (h:Wr H E j id):i<j/\¬On L j:=by
 obtain⟨p,lo,⟨q,k⟩,l⟩:=h;have b:i<j:=BB λm=>by have:=r.aA m G;omega
 refine⟨b,λn=>?_⟩;have o:Hy (Df AU).toList j i=true:=by
  refine r.sep i j b e ?_;rw[k];cases c:E i with
  |aK=>exact X4 l f g
  |rd a=>have:=(r.aE i U).rd a c;omega
  |lk a t=>have:=(r.aE i U).lk a t c;omega
  |bad=>have:=(r.aE i U).ok;rw[c] at this;cases this
  |aD=>rfl
  |wr s u=>rfl
 have:=Ic CV.closed d (show j≠i by omega) (by rw[KZ (Bf b),N4 (Bf b)];exact o);have:=this.1 n;omega
def Awn (r:G0 P τ call AU F H E R) (CV:PK P AU F H E R Yt a0 w0 L ρ a w) (f:i∈CQ .any AU L) (U:i<AU.size) (p:m<=AU.size) (z:id<(H m).nx)
 (d:((H i).nx<=id/\id<(H (i+1)).nx)\/Wr H E i id) (g:Cnd AU H E (L.setIfInBounds i Ag) m id):i<m/\id<(H (i+1)).nx/\(H m).t.get id=(H (i+1)).t.get id:=by
 have h:i<L.size:=by rw[CV.size];exact U
 have k:i<m:=by
  rcases d with⟨l,c⟩|b
  .exact BB λq=>by have:=r.aA q G;omega
  .exact(g i U b).1 ((I9 h).2 (.inr B))
 have n:id<(H (i+1)).nx:=by
  rcases d with⟨l,c⟩|b
  .exact c
  .exact AC b.1 (r.aE i U).nx
 refine⟨k,n,r.same k p n λj l c b=>?_⟩;have e:j<AU.size:=G;have o:On L j:=((I9 h).1 ((g j e b).2 c)).resolve_right G;rcases d with⟨s,u⟩|⟨_,lo,v,_⟩
 .exact(Arg r CV f U e s u b).2 o
 .obtain⟨_,x,y,_⟩:=b
  have:=(Xr r CV f U e G v ⟨x,y⟩).1 o;omega
def Aow (r:G0 P τ call AU F H E R) (CV:PK P AU F H E R Yt a0 w0 L ρ a w) (v:i∈CQ .any AU L) (U:i<AU.size) (x:Ws E i s) {c:Nat} {g:Pl}
 (f:s.has c) (A:c<(H i).nx) (k:ρ c=I g) (e:ρ id=I pl) (W:id<(H i).nx) (d:¬s.has id) (l:pl.b=g.b) (n:m<=AU.size) (o:id<(H m).nx) (p:Cnd AU H E L m id)
 (q:(H m).t.get id=I hb):hb.live=false:=by
 have Cw:∀b,s.top=I b->c=b->id≠c->hb.live=false:=by
  intro b C D d;subst D;rcases Sk d with K|M
  .exact CV.ord id c pl g hb m n e k K l o p q
  .obtain⟨u,N,y⟩:=(r.aE i U).live c s x C
   have:=CV.ord c id g pl u i (Bf U) k e M l.symm A (λj O Q=>?_) N
   .rw[this] at y;cases y
   .by_cases z:j=i
    .subst z;exact⟨λh=>Cf h (Ie v).2.1,λh=>G⟩
    .obtain⟨_,S,T,_⟩:=Q
     exact Xr r CV v U O z x ⟨S,T⟩
 cases s with
 |no=>exact f.elim
 |
  rest lo=>
  have f:lo<=c:=f;have d:¬lo<=id:=d;exact CV.ord id c pl g hb m n e k G l o p q
 |
  one b=>
  have f:c=b:=f;subst f;have d:¬id=c:=d;exact Cw c B B d
 |
  pair b lo=>
  have f:c=b\/lo<=c:=f;have d:¬(id=b\/lo<=id):=d;by_cases u:c=b
  .subst u
   exact Cw c B B (λV=>d (.inl V))
  .exact CV.ord id c pl g hb m n e k G l o p q
def PK.next (r:G0 P τ call AU F H E R) (CV:PK P AU F H E R Yt a0 w0 L ρ a w) (W:i∈CQ .any AU L) (U:i<AU.size) {o:C0} (ho:AU[i]?=I o) {y:Ren} {N:AM}
 (a2:∀t j,WT AU i t->WT AU j t->j≠i->(On L j↔j<i))
 (a3:(F i).set o.dst v=I (F (i+1))) (hv:o.dst.isSome=Ag->VR y v v')
 (old:∀id,id<(H i).nx\/(H (i+1)).nx<=id->y id=ρ id) (ad:ρ.le y)
 (a4:∀id pl,y id=I pl->∃pl',R AU.size id=I pl')
 (a5:∀id pl,y id=I pl->pl.b<N.heap.size)
 (a6:w.heap.size<=N.heap.size)
 (au:∀b,b<w.heap.size->(∀id pl,id<(H i).nx->(∃lo,Ws E i lo/\lo.has id)->ρ id=I pl->pl.b≠b)->N.heap[b]?=w.heap[b]?)
 (ae:∀id pl,(H i).nx<=id->id<(H (i+1)).nx->y id=I pl->w.heap.size<=pl.b\/∃j s lo,Ws E i lo/\lo.has j/\j<(H i).nx/\ρ j=I s/\s.b=pl.b)
 (a7:∀id pl hb,((H i).nx<=id/\id<(H (i+1)).nx)\/Wr H E i id->y id=I pl->(H (i+1)).t.get id=I hb->BR P y pl N hb)
 (a8:∀id c pl pl' hb,id<c->c<(H (i+1)).nx->((H i).nx<=id/\id<(H (i+1)).nx)\/Wr H E i id->y id=I pl->y c=I pl'->pl.b=pl'.b->(H (i+1)).t.get id=I hb->hb.live=Ah)
 (a9:N.os=w.os) (ba:N.output=w.output) (bb:N.tape=w.tape) (hdr:w.drawn<=N.drawn):
 PK P AU F H E R Yt a0 w0 (L.setIfInBounds i Ag) y (a.put o.dst v') N:=by
 have ab:i<L.size:=by rw[CV.size];exact U
 have hn:¬On L i:=(Ie W).2.1;have bl:=(r.aE i U).nx;have af:∀{j},j≠i->(On (L.setIfInBounds i Ag) j↔On L j):=λX=>(I9 ab).trans ⟨λh=>h.resolve_right X,.inl⟩;have bm:=r.aA (Al i) (Bf U);have av:∀{m id},¬(((H i).nx<=id/\id<(H (i+1)).nx)\/Wr H E i id)->Cnd AU H E (L.setIfInBounds i Ag) m id->(id<(H i).nx\/(H (i+1)).nx<=id)/\Cnd AU H E L m id:=by
  intro m id n z;refine⟨?_,λj K hw=>?_⟩
  .rcases A8 id (H i).nx with h|h
   .exact .inl h
   .exact .inr (Aci λA=>n (.inl ⟨h,A⟩))
  .have X:j≠i:=λe=>n (.inr (e▸hw))
   rw[←af X];exact z j K hw
 have aw:∀{id pl},ρ id=I pl->(H (i+1)).nx<=id->∃j,j<AU.size/\On L j/\i<j/\(H j).nx<=id/\id<(H (j+1)).nx:=by
  intro id pl e l;rcases CV.made id pl e with h|⟨j,q,g,h3,h4⟩
  .omega
  .refine⟨j,q,g,?_,h3,h4⟩
   exact BB λad=>by have:=r.aA (p:=j+1) (m:=i+1) G G;omega
 have am:∀{j lo},j<AU.size->On L j->i<j->Ws E i lo->∀an,¬Ws E j an:=by
  intro j lo K af ao f an bc;have:=(Xr r CV W U K G f ⟨an,bc⟩).1 af;omega
 refine⟨?_,?_,?_,?_,?_,a5,?_,?_,a4,?_,?_,?_,Ao CV.bX a6,?_,?_,a9.trans CV.os,ba.trans CV.out,bb.trans CV.tape,Ao CV.drawn hdr⟩
 .rw[Array.size_setIfInBounds];exact CV.size
 .have:=Rv CV.closed W
  intro j oj e bd x hb K;exact(I9 ab).2 (this j oj e bd x hb ((I9 ab).1 K))
 .rw[CV.sz]
  cases o.dst<;>simp[Act.put]
 ·
  intro t m u x z hu;by_cases ak:WT AU i t
  .have be:i<m:=(z i ak).1 ((I9 ab).2 (.inr B))
   obtain⟨o',ax,hd⟩:=ak;rw[ho] at ax;cases ax;rw[r.tm be x λj q g ag=>by
    have bf:On L j:=(af G).1 ((z j ag).2 g);have:=(a2 t j ⟨o,ho,hd⟩ ag G).1 bf;omega] at hu
   have hf:=(JG a3).2.2.2 t hd;rw[hf.2] at hu;cases hu;refine⟨v',?_,hv (by rw[hd];rfl)⟩;rw[hd];have:t<a.tmps.size:=by rw[←CV.sz,←(r.sz (Bf U)).1];exact hf.1
   simp[Act.put,this]
  .obtain⟨u',q,g⟩:=CV.tm t m u x (λj ag=>by
    have X:j≠i:=λe=>ak (e▸ag);rw[←af X];exact z j ag) hu
   refine⟨u',?_,g.mono ad⟩;cases hd:o.dst with
   |none=>exact q
   |
    some d=>
    have X:d≠t:=λe=>ak ⟨o,ho,by rw[hd,e]⟩;simp only[Act.put];rw[AY X];exact q
 .cases o.dst<;>exact CV.ds
 .intro id pl e
  by_cases l:(H i).nx<=id/\id<(H (i+1)).nx
  .exact .inr ⟨i,U,(I9 ab).2 (.inr B),l⟩
  .rw[old id G] at e
   exact(CV.made id pl e).imp (λh=>h) λ⟨j,q,g,h3⟩=>⟨j,q,(I9 ab).2 (.inl g),h3⟩
 .intro id l
  rw[old id (.inl G)];exact CV.ext id l
 ·
  intro id pl hb m x e l z O;by_cases n:((H i).nx<=id/\id<(H (i+1)).nx)\/Wr H E i id
  .obtain⟨_,_,hs⟩:=Awn r CV W U x l n z
   rw[hs] at O;exact a7 id pl hb n e O
  .obtain⟨al,ah⟩:=av n z
   rw[old id al] at e;have bg:=CV.mem id pl hb m x e l ah O;cases ap:hb.live with
   |false=>cases hb<;>simp[HB.live] at ap;trivial
   |
    true=>
    refine bg.mono ad (au _ (CV.aC id pl e) λbh bi g aa e2 C=>?_);obtain⟨lo,f,aa⟩:=aa;rcases al with S|bj
    .have:=Aow r CV W U f aa g e2 e S (λA=>n (.inr ⟨S,lo,f,A⟩)) C.symm x l ah O
     rw[this] at ap;cases ap
    .obtain⟨j,D,j2,T,j4,j5⟩:=aw e bj
     exact CV.cG id bh pl bi j D j4 j5 (am D j2 T f) e e2 (AC g (r.aA (Bf T) (Bf D))) C
 ·
  intro id c pl pl' hb m x e k S C l z O;by_cases n:((H i).nx<=id/\id<(H (i+1)).nx)\/Wr H E i id
  .obtain⟨_,bn,hs⟩:=Awn r CV W U x l n z
   rw[hs] at O;rcases A8 c (H (i+1)).nx with J|J
   .exact a8 id c pl pl' hb S J n e k C O
   .rw[old c (.inr J)] at k
    obtain⟨j,D,j2,T,j4,j5⟩:=aw k J;have ao:=r.aA (Bf T) (Bf D);rcases n with⟨k1,k2⟩|⟨k1,lo,f,k2⟩
    .rcases ae id pl k1 k2 e with ai|⟨M,s,lo,f,n1,n2,Q,V⟩
     .have:=CV.aC c pl' k;omega
     .exact Cf (V.trans C) (CV.cG c M pl' s j D j4 j5 (am D j2 T f) k Q G)
    .rw[old id (.inl k1)] at e
     exact Cf C (CV.cG c id pl' pl j D j4 j5 (am D j2 T f) k e G)
  .obtain⟨al,ah⟩:=av n z
   rw[old id al] at e;by_cases aj:(H i).nx<=c/\c<(H (i+1)).nx
   .have ay:id<(H i).nx:=G
    rcases ae c pl' aj.1 aj.2 k with ai|⟨M,s,lo,f,n1,n2,Q,V⟩
    .have:=CV.aC id pl e;omega
    .exact Aow r CV W U f n1 n2 Q e ay (λA=>n (.inr ⟨ay,lo,f,A⟩)) (C.trans V.symm) x l ah O
   .rw[old c G] at k
    exact CV.ord id c pl pl' hb m x e k S C l ah O
 ·
  intro id c pl pl' j K q g aq e k S;by_cases az:j=i
  .subst az
   rw[old c (.inl S)] at k;have:=CV.aC c pl' k;rcases ae id pl q g e with ai|⟨_,_,lo,f,_⟩
   .omega
   .exact Cf f (aq lo)
  .have bk:id<(H i).nx\/(H (i+1)).nx<=id:=by
    rcases A8 id (H i).nx with h|h
    .exact .inl h
    .exact .inr (Aci λA=>az (r.bK K U q g h A))
   rw[old id bk] at e;by_cases aj:(H i).nx<=c/\c<(H (i+1)).nx
   .have ao:i<j:=BB λad=>by have:=r.aA ad (Bf U);omega
    have bo:=r.aA (Bf ao) (Bf K);have:=CV.aC id pl e;rcases ae c pl' aj.1 aj.2 k with ai|⟨M,s,lo,f,n1,n2,Q,V⟩
    .omega
    .rw[←V];exact CV.cG id M pl s j K q g aq e Q G
   .rw[old c G] at k
    exact CV.cG id c pl pl' j K q g aq e k S
 ·
  intro b hb A;rw[au b (AC hb CV.bX) λid pl q aa e C=>?_]
  .exact CV.ae b hb A
  .obtain⟨lo,f,aa⟩:=aa
   have ar:(H AU.size).lo.has id:=r.lo_le (p:=i+1) U (Ae _) _ ((r.aE i U).wr lo f _ aa);rcases A8 id (H 0).nx with h|h
   .rw[CV.ext id h] at e;exact A id pl ar e C
   .rcases CV.new id pl h e with J|⟨j,s,D,j2,T⟩
    .omega
    .exact A j s D j2 (T.trans C)
 .intro id pl l e
  by_cases a1:(H i).nx<=id/\id<(H (i+1)).nx
  .rcases ae id pl a1.1 a1.2 e with ai|⟨M,s,lo,f,n1,n2,Q,V⟩
   .exact .inl (Ao CV.bX ai)
   .have ar:(H AU.size).lo.has M:=r.lo_le (p:=i+1) U (Ae _) _ ((r.aE i U).wr lo f _ n1)
    rcases A8 M (H 0).nx with h|h
    .rw[CV.ext M h] at Q;exact .inr ⟨M,s,ar,Q,V⟩
    .rw[←V];exact CV.new M s h Q
  .rw[old id G] at e;exact CV.new id pl l e
end
end
def MI {t:Nat}:∀(l:List C0) (i:Nat),NG t j i l=Ag->∀k o,l[k]?=I o->o.dst=I t->i+k=j
 |[],_,_,k,o,h,_=>by simp at h
 |
  x::l,i,b,k,o,h,c=>by
  simp only[NG,An,Dm] at b;cases k with
  |
   zero=>
   simp at h;subst h;rcases b.1 with a|a
   .have:=Af a;omega
   .rw[c] at a;simp at a
  |
   succ k=>
   simp at h;have:=MI l (i+1) b.2 k o h c;omega
def Aax {AU:Array C0} {g:Nat} {w:Bool} (h:QI AU.toList (I (g,w))=Ag):∃a t,AU[g]?=I a/\a.dst=I t/\∀j,WT AU j t->j=g:=by
 unfold QI at h;simp only[] at h;split at h
 case h_2=>cases h
 rename_i o b;split at h
 case h_2=>cases h
 rename_i t c;refine⟨o,t,by simpa using b,c,λj d=>?_⟩;obtain⟨e,f,i⟩:=d;have:=MI _ _ h j e (by simpa using f) i;omega
def WP {b:Type} {A:Array (List b)} {x:b}:∀{y:b},y∈A.getD j []->y∈(A.modify k (x::·)).getD j []:=by
 intro y a;rw[Bh] at*;rw[B3];by_cases h:k=j
 .rw[Bi h]
  cases c:A[j]? with
  |none=>rw[c] at a;simp at a
  |some l=>rw[c] at a;simp at a⊢;exact .inr a
 .rw[Bm h];exact a
def Yg {a:Type} {A:Array (List a)} {x:a} (b:k<A.size):x∈(A.modify k (x::·)).getD k []:=by
 rw[Bh,B3,Bi B,By b];simp
def wF (n:Nat) (w:Array (List (Tmp×Nat))) (x:C0×Nat):Array (List (Tmp×Nat)):=match x.1.dst with|some d=>w.modify (d%n) ((d,x.2)::·)|none=>w
def Ky {n:Nat}:∀(l:List (C0×Nat)) (W:Array (List (Tmp×Nat))),W.size=n->
 (∀k y,y∈W.getD k []->y∈(l.foldl (wF n) W).getD k [])/\
 (∀x∈l,∀d,x.1.dst=I d->d%n<n->(d,x.2)∈(l.foldl (wF n) W).getD (d%n) [])
 |[],W,_=>⟨λ_ _ h=>h,λx m=>by cases m⟩
 |
  x::l,W,g=>by
  rw[F7];cases c:x.1.dst with
  |
   none=>
   have i:wF n W x=W:=by simp[wF,c]
   rw[i];obtain⟨e,j⟩:=Ky l W g;refine⟨e,λy a d b f=>?_⟩;rcases List.mem_cons.1 a with rfl|a
   .rw[c] at b;cases b
   .exact j y a d b f
  |
   some d0=>
   have i:wF n W x=W.modify (d0%n) ((d0,x.2)::·):=by simp[wF,c]
   rw[i];obtain⟨e,j⟩:=Ky (n:=n) l (W.modify (d0%n) ((d0,x.2)::·)) (by rw[Array.size_modify];exact g);refine⟨λk y a=>e k y (WP a),λy a d b f=>?_⟩;rcases List.mem_cons.1 a with rfl|a
   .rw[c] at b;cases b
    exact e _ _ (Yg (by rw[g];exact f))
   .exact j y a d b f
structure Xp (AU:Array C0):Prop where
 lt:∀(i:Nat) (o:C0) (e:Edge),AU[i]?=I o->e∈o.after->ET .any e=Ag->e.on<i
 guard:∀(i:Nat) (o:C0) (g:Nat) (w:Bool),AU[i]?=I o->o.guard=I (g,w)->∃e∈o.after,e.on=g/\ET .any e=Ag
 tmp:∀(i:Nat) (o:C0) (t:Tmp),AU[i]?=I o->(o.dst=I t\/Operand.tmp t∈o.op.operands)->∀j,WT AU j t->j≠i->Hy (Df AU).toList (max i j) (min i j)=Ag
def Axx {types:Array KR} {AU:Array C0} {d:Bool} (h:Region.ok types AU d=Ag):Xp AU:=by
 unfold Region.ok at h;simp only[An] at h;obtain⟨⟨⟨⟨l,c⟩,_⟩,_⟩,_⟩:=h;have m:∀(i:Nat) (o:C0),AU[i]?=I o->(o.after.all (λe=>decide (e.on<i)||(match e.ground with|.gcOnly _=>e.on !=i&&decide (e.on<AU.size)|_=>Ah))&&
  (match o.guard with|none=>Ag|some (j,_)=>o.after.any (λe=>e.on==j&&ET .any e)&&((AU[j]?).bind (·.dst)).isSome))=true:=by
  intro i o b;rw[Array.all_eq_true_iff_forall_mem] at l;exact l (o,i) (by rw[Array.mk_mem_zipIdx_iff_getElem?];exact b)
 refine⟨λi o e b f hb=>?_,λi o g w b u=>?_,λi o t b v j x y=>?_⟩
 .have:=m i o b
  simp only[An] at this;have:=Array.all_eq_true_iff_forall_mem.1 this.1 e f;simp only[Dm,decide_eq_true_eq] at this;rcases this with h|h
  .exact h
  .unfold ET at hb
   cases z:e.ground<;>rw[z] at h hb<;>simp_all
 .have:=m i o b
  simp only[An,u] at this;obtain⟨k,A,a⟩:=Array.any_eq_true.1 this.2.1;have f:o.after[k]∈o.after:=Array.getElem_mem A;generalize o.after[k]=e at a f;simp only[An,beq_iff_eq] at a;exact⟨e,f,a.1,a.2⟩
 .unfold Region.temporariesOk at c
  simp only[] at c;rw[Jf] at c;obtain⟨C,p,D⟩:=x;have L:j<AU.size:=(Array.getElem?_eq_some_iff.1 p).1;have a:=c (o,i) (by rw[Qh];simpa using b);simp only[] at a;rw[Jf] at a;have q:=a t (by
   rcases v with h|h
   .simp[h]
   .refine List.mem_append_right _ (List.mem_filterMap.2 ⟨.tmp t,by simpa using h,B⟩))
  rw[Jf] at q;have E:=(Ky (n:=AU.size) AU.toList.zipIdx (Cz AU.size []) (by simp)).2 (C,j) (by rw[Qh];simpa using p) t D (Je _ G);have r:=q (t,j) E;simp only[bne_self_eq_false,Bool.false_or,Dm,beq_iff_eq] at r;have s:=r.resolve_left y;have F:max j i=max i j:=Nat.max_comm _ _;have H:min j i=min i j:=Nat.min_comm _ _;rw[F,H] at s;have K:min i j<max i j:=G;rw[NQ K];have:(Df AU).toList.getD (max i j) 0=(Df AU).getD (max i j) 0:=by
   rw[Bh,Ak,Is]
  rw[this];exact s
def RX (t:T Aa):Bo->T Aa
 |[]=>.nil
 |
  x::l=>match t.get x with
  |some v=>(RX t l).ins x v
  |none=>RX t l
def NJ (t:T Aa) (j:Nat):∀l:Bo,(RX t l).get j=if j∈l then t.get j else Z
 |[]=>by simp[RX,T.get_nil]
 |
  x::l=>by
  have a:=NJ t j l;simp[RX];cases b:t.get x with
  |
   none=>
   simp[a];by_cases h:j=x
   .subst h;simp[b]
   .simp[h]
  |
   some v=>
   simp[T.dA];by_cases h:j=x
   .subst h;simp[b]
   .simp[h,a]
def WD {AU:Array C0} {g:Option (Nat×Bool)} (h:∀j w t,g=I (j,w)->(AU[j]?).bind (·.dst)=I t->fr.tm.get t=Ec.tm.get t):E5 fr AU.toList g=E5 Ec AU.toList g:=by
 cases g with
 |none=>rfl
 |
  some x=>
  obtain⟨j,w⟩:=x;unfold E5;simp only[];cases a:AU.toList[j]? with
  |none=>rfl
  |
   some o=>
   simp[];cases b:o.dst with
   |none=>rfl
   |
    some t=>
    simp[];rw[h j w t B Jq]
section
variable{P:AN} {τ:Bb} {call:Be} {AU:Array C0} {F:Nat->Fr} {H:Nat->Y} {E:Nat->Hi} {R:Nat->Ren}
variable{Yt:Ren} {a0:FP} {w0:AM} {L:Array Bool} {ρ:Ren} {a:FP} {w:AM} {i:Nat}
def Ahe {o:C0} {y:Fr} (z:∀x∈o.op.operands,ev τ y x=ev τ (F i) x) (l:F9 τ call (F i) (H i).ad o.op (DK (F i) o) DP=I [.aE (F (i+1)) J]) (j:H (i+1)=(H i).aa J)
 (p:E i=CF τ (F i) o.op (H i) J.lo) (A:(E i).ok=Ag) (S:∀a t,E i≠.lk a t):∃c d:Y,c.nx=(H i).nx/\c.lo=.no/\F9 τ call y c o.op (DK (F i) o) DP=I [.aE (F (i+1)) d]/\d.nx=(H (i+1)).nx/\
  (∀id hb,c.t.get id=I hb->(H i).t.get id=I hb/\(E i=.aD\/(∃lo,Ws E i lo)\/E i=.rd id))/\
  (∀id,((H i).nx<=id/\id<(H (i+1)).nx)\/Wr H E i id->d.t.get id=(H (i+1)).t.get id)/\(∀lo,Ws E i lo->d.lo=lo)/\((∀lo,¬Ws E i lo)->∀id,id<(H i).nx->¬d.lo.has id):=by
 obtain⟨L,M,_⟩:=Afd l (p▸A);rw[←p] at L M;have u:(E i=.aD\/∃lo,Ws E i lo)->∃c d:Y,c.nx=(H i).nx/\c.lo=.no/\F9 τ call y c o.op (DK (F i) o) DP=I [.aE (F (i+1)) d]/\d.nx=(H (i+1)).nx/\
  (∀id hb,c.t.get id=I hb->(H i).t.get id=I hb/\(E i=.aD\/(∃lo,Ws E i lo)\/E i=.rd id))/\
  (∀id,((H i).nx<=id/\id<(H (i+1)).nx)\/Wr H E i id->d.t.get id=(H (i+1)).t.get id)/\(∀lo,Ws E i lo->d.lo=lo)/\((∀lo,¬Ws E i lo)->∀id,id<(H i).nx->¬d.lo.has id):=by
  intro w;refine⟨(H i).ad,J,B,B,by rw[L7 z];exact l,by rw[j];rfl,λid hb q=>⟨q,w.imp (λx=>x) .inl⟩,λid _=>by rw[j];rfl,λlo e=>((λs C=>let⟨g,N⟩:=C;(Xz (p.symm.trans N)).1:∀s,Ws E i s->s=J.lo) lo e).symm,λO=>L λs g C=>O s ⟨g,C⟩⟩
 cases f:E i with
 |aD=>rw[f] at u;exact u Jq
 |wr lo g=>rw[f] at u;exact u (.inr ⟨lo,g,f⟩)
 |lk a t=>exact Cf f Jq
 |bad=>rw[f] at A;cases A
 |
  aK=>
  obtain⟨v,nb,c⟩:=Zl (p.symm.trans f) l;have r:=c (H i).ad (DK (F i) o) DP B;rw[l] at r;obtain⟨D,m⟩:=Qw r.symm;have P:=c ⟨.nil,(H i).nx,.no⟩ (DK (F i) o) DP B;refine⟨⟨.nil,(H i).nx,.no⟩,Adb ⟨.nil,(H i).nx,.no⟩ nb,B,B,?_,?_,λid hb q=>Jq,λid K=>?_,λlo e=>(by obtain⟨g,e⟩:=e;rw[f] at e;cases e),λ_=>?_⟩
  .rw[L7 z,P];simp[DK,D]
  .rw[j,←m];cases nb<;>rfl
  .rcases K with⟨Q,n⟩|⟨_,lo,⟨g,k⟩,_⟩
   .rw[j,←m] at n
    rw[j,←m];cases nb with
    |none=>have n:id<(H i).nx:=n;omega
    |
     some b=>
     have n:id<(H i).nx+1:=n;have:id=(H i).nx:=G;subst this;show(T.ins T.nil (H i).nx b).get (H i).nx=((H i).t.ins (H i).nx b).get (H i).nx;rw[T.ao,T.ao]
   .rw[f] at k;cases k
  .cases nb<;>exact λ_ _ h=>h
 |
  rd b=>
  obtain⟨v,c⟩:=Agg (p.symm.trans f) l;have r:=c (H i).ad (DK (F i) o) DP B;rw[l] at r;obtain⟨D,m⟩:=Qw r.symm;have R:∃t:T HB,t.get b=(H i).t.get b/\∀id hb,t.get id=I hb->id=b:=by
   cases hb:(H i).t.get b with
   |none=>exact⟨.nil,B,λid hb h=>by cases h⟩
   |some x=>exact⟨T.nil.ins b x,T.ao _ _ _,λid hb h=>by
    rw[T.dA] at h;by_cases w:id=b
    .exact w
    .rw[Bm w,T.get_nil] at h;cases h⟩
  obtain⟨t,t1,t2⟩:=R;refine⟨⟨t,(H i).nx,.no⟩,⟨t,(H i).nx,.no⟩,B,B,?_,?_,λid hb q=>?_,λid K=>?_,λlo e=>(by obtain⟨g,e⟩:=e;rw[f] at e;cases e),λ_ _ _ h=>h⟩
  .rw[L7 z,(c ⟨t,(H i).nx,.no⟩ (DK (F i) o) DP t1)];simp[DK,D]
  .rw[j,←m];rfl
  .have:=t2 id hb q;subst this
   exact⟨by rw[←t1];exact q,.inr (.inr B)⟩
  .rcases K with⟨Q,n⟩|⟨_,lo,⟨g,k⟩,_⟩
   .have:(H (i+1)).nx=(H i).nx:=by rw[j,←m];rfl
    omega
   .rw[f] at k;cases k
def Uu {a t:Nat} (b:CF τ fr o h0 lo=.lk a t):∃m x,o=.lookup t m x Ah/\ev τ fr m=I (.map (I a)):=by
 unfold CF at b;cases c:Dj o with
 |true=>rw[c] at b;cases b
 |
  false=>
  rw[c] at b;simp[I0] at b;split at b
  .cases b
  .cases b
  .cases b
  .cases b
  .cases b
  .cases b
  .split at b
   .cases b
   .exact(B2.2.1 _ _ b).elim
  .rename_i t m x d
   split at b
   .rename_i r e
    cases d with
    |true=>cases b
    |false=>cases b;exact⟨m,x,B,e⟩
   .exact(B2.2.1 _ _ b).elim
  .split at b
   .exact(L4.2.1 _ _ b).elim
   .exact(B2.2.1 _ _ b).elim
  .split at b
   .cases b
   .cases b
   .exact(B2.2.1 _ _ b).elim
  .split at b
   .cases b
   .cases b
   .exact(B2.2.1 _ _ b).elim
  .exact(B2.2.1 _ _ b).elim
def far (r:G0 P τ call AU F H E R) (CV:PK P AU F H E R Yt a0 w0 L ρ a w) (p:id<(H AU.size).nx):∃m,m<=AU.size/\id<(H m).nx/\Cnd AU H E L m id:=by
 have Cw:∀k,k<=AU.size->∃m,m<=k/\(∀j,j<m->Wr H E j id->On L j)/\(m=k\/(Wr H E m id/\¬On L m)):=by
  intro k
  induction k with
  |zero=>intro _;exact⟨0,Ae _,λj f=>G,.inl B⟩
  |
   succ k q=>
   intro z;obtain⟨m,g,c,b⟩:=q G;rcases b with rfl|b
   .by_cases h:Wr H E m id/\¬On L m
    .exact⟨m,G,c,.inr h⟩
    .refine⟨m+1,Ae _,λj f d=>?_,.inl B⟩
     by_cases t:j=m
     .subst t;exact Classical.byContradiction λu=>h ⟨d,u⟩
     .exact c j G d
   .exact⟨m,G,c,.inr b⟩
 obtain⟨m,g,c,b⟩:=Cw AU.size Jq;refine⟨m,g,?_,λj f d=>⟨λi=>?_,λv=>c j v d⟩⟩
 .rcases b with rfl|b
  .exact p
  .exact b.1.1
 .rcases b with rfl|⟨b,l⟩
  .exact f
  .refine BB λn=>?_
   have x:m≠j:=λe=>l (e▸i);obtain⟨_,s,⟨A,y⟩,_⟩:=b;obtain⟨_,C,D,_⟩:=d;have o:=Nv r G f x y Jq;rw[KZ n,N4 n,NQ (G:m<j)] at o;exact l (LD CV.closed o i)
def VU (r:G0 P τ call AU F H E R) {t p q:Nat} (l:p<=q) (m:q<=AU.size) (g:id<(H p).nx) (c:∀k,p<=k->k<q->Wr H E k id->∃s,E k=.wr s (I t)):
 I3 τ t id ((H p).t.get id) ((H q).t.get id):=by
 induction q with
 |zero=>
  have:p=0:=G;subst this;exact I3.refl _ _ _
 |
  succ q h=>
  by_cases i:p=q+1
  .subst i;exact I3.refl _ _ _
  .refine(h G G λk a d=>c k a G).trans ?_
   by_cases b:Wr H E q id
   .obtain⟨s,e⟩:=c q G G b
    obtain⟨n,a,d⟩:=(r.aE q G).me s t e;obtain⟨_,o,⟨u,f⟩,j⟩:=b;rw[e] at f;cases f;subst a;subst j;exact d
   .rw[(r.aE q G).same id (AC g (r.aA G G)) b]
    exact I3.refl _ _ _
def Amg (T:BM P τ) (hc:C8 P τ call) (av:Xp AU) (r:G0 P τ call AU F H E R) (a9:∀g,g<τ.ng->Yt g=I ⟨g,0,0⟩) (CV:PK P AU F H E R Yt a0 w0 L ρ a w)
 (hr:i∈CQ .any AU L) {ro':Option Nat} {Q:Exit->FP->AM->Prop}:
 wpOpIn (Fw ro') 0 P AU Q i (λa' w'=>∃C2,PK P AU F H E R Yt a0 w0 (L.setIfInBounds i Ag) C2 a' w') a w:=by
 obtain⟨b8,aw,o,O,bm⟩:=Ie hr;have U:i<AU.size:=Gq;obtain⟨ba,bn⟩:=r.step i o O;obtain⟨aT,wT,ah⟩:=r.st i Jq;obtain⟨b9,ca,ay⟩:=r.st (i+1) U;have bo:=(r.aE i U).nx;have bp:∀t∈o.looksAt AU,∀j,WT AU j t->(On L j↔j<i):=by
  intro t u j hj;by_cases D:j=i
  .subst D;exact⟨λh=>Cf h aw,λh=>G⟩
  .unfold Ys at u
   rcases List.mem_append.1 u with u|u
   .obtain⟨x,S,bb⟩:=List.mem_filterMap.1 u
    have:x=.tmp t:=by cases x<;>simp at bb;rw[bb]
    subst this;exact Ic CV.closed hr D (av.tmp i o t O (.inr (by simpa using S)) j hj D)
   .cases n:o.guard with
    |none=>rw[n] at u;cases u
    |
     some gw=>
     obtain⟨g,bq⟩:=gw;rw[n] at u ba;obtain⟨og,t',br,hd,bs⟩:=Aax ba;simp[br,CC,hd,Option.toList_some,List.mem_singleton] at u;subst u;have:=bs j hj;subst this;obtain⟨e,he,al,hb⟩:=av.guard i o j bq O n;have bc:=bm e he hb;have ai:=av.lt i o e O he hb;rw[al] at bc ai;exact⟨λ_=>ai,λ_=>bc⟩
 have az:∀t j,WT AU i t->WT AU j t->j≠i->(On L j↔j<i):=by
  intro t j bt am bd;obtain⟨o',be,hd⟩:=bt;rw[O] at be;cases be;exact Ic CV.closed hr bd (av.tmp i o t O (.inl hd) j am bd)
 have ax:Tv (ρ.cut (R i)) ⟨RX (F i).tm (o.looksAt AU),(F i).sz,[]⟩ a:=by
  refine⟨by show(F i).sz=_;rw[(r.sz (Bf U)).1,CV.sz],λt v hv=>?_⟩;rw[NJ] at hv;by_cases u:t∈o.looksAt AU
  .rw[Bi u] at hv
   obtain⟨v',A,K⟩:=CV.tm t i v (Bf U) (bp t u) hv;obtain⟨_,_,h3⟩:=ah.aF.2 t v hv;exact⟨v',A,K.cut h3⟩
  .rw[Bm u] at hv;cases hv
 have bf:∀x∈o.op.operands,ev τ ⟨RX (F i).tm (o.looksAt AU),(F i).sz,[]⟩ x=ev τ (F i) x:=by
  intro x S;cases x with
  |
   tmp t=>
   show(RX (F i).tm (o.looksAt AU)).get t=(F i).tm.get t;have hm:t∈o.looksAt AU:=by unfold Ys;exact DW _ (List.mem_filterMap.2 ⟨.tmp t,by simpa using S,B⟩)
   rw[NJ,Bi hm]
  |_=>rfl
 have bg:E5 ⟨RX (F i).tm (o.looksAt AU),(F i).sz,[]⟩ AU.toList o.guard=E5 (F i) AU.toList o.guard:=by
  refine WD λj wn t n u=>?_;rw[NJ,Bi (by unfold Ys;exact List.mem_append_right _ (by simp only[n];simp[u]):t∈o.looksAt AU)]
 unfold wpOpIn;simp[O];rcases bn with⟨hw,J,an,hH,hE,bu⟩|⟨hw,aa,hH,hE⟩
 ·
  have a1:=Kn ax (bg.trans hw) o B;rw[Bi a1];have bv:∀c,o.op≠.defer c:=by
   intro c bw;rw[bw] at an;simp[F9,Ch] at an
  have bh:=Oper.semAt_eq ro' a.eval o bv;by_cases V:∃b t,E i=.lk b t
  ·
   obtain⟨b,t,V⟩:=V;obtain⟨mo,xo,cb,bx⟩:=Uu (hE.symm.trans V);have hb:b<(H i).nx:=by
    have hv:=EK ah.hk ah.aF bx;generalize aT.eval mo=z at hv;cases hv with|map e=>exact r.bi (Bf U) e
   have cc:=r.aA (Bf U) (Ae _);obtain⟨m,m1,m2,m3⟩:=far r CV (id:=b) G;have bi:∀k,k<AU.size->Wr H E k b->k≠i->¬(On L k↔k<i)->∃s,E k=.wr s (I t):=by
    intro k hk ab aj bz;obtain⟨_,s,⟨me,M⟩,W⟩:=ab;cases a2:ZU t me with
    |false=>exact Cf (Ic CV.closed hr aj (OM _ _ _ (Nv r hk U aj M (.inr (.inr (.inr ⟨b,t,V,W,a2⟩)))))) bz
    |
     true=>
     cases me with
     |none=>cases a2
     |some t'=>have:=Af a2;subst this;exact⟨s,M⟩
   have bj:¬Wr H E i b:=λ⟨_,s,⟨me,M⟩,_⟩=>by rw[V] at M;cases M
   have b0:I3 τ t b ((H m).t.get b) ((H i).t.get b):=by
    rcases A8 i m with a3|a3
    .refine(VU r (Bf a3) m1 hb λk A K ab=>?_).symm
     have aj:k≠i:=λe=>bj (e▸ab);exact bi k G ab aj λW=>by
      have:=W.1 ((m3 k G ab).2 K);omega
    .refine VU r a3 (Bf U) m2 λk A K ab=>?_
     have aj:k≠i:=λe=>bj (e▸ab);exact bi k G ab aj λW=>by
      have:=(m3 k G ab).1 (W.2 K);omega
   have b1:∃X:Ev.T HB,X.get b=(H m).t.get b/\∀id hb,X.get id=I hb->id=b:=by
    cases hb:(H m).t.get b with
    |none=>exact⟨.nil,B,λid hb h=>by cases h⟩
    |some x=>exact⟨Ev.T.nil.ins b x,Ev.T.ao _ _ _,λid hb h=>by
     rw[Ev.T.dA] at h;by_cases W:id=b
     .exact W
     .rw[Bm W,Ev.T.get_nil] at h;cases h⟩
   obtain⟨X,t1,t2⟩:=b1;obtain⟨v,hq⟩:=Afa (hE.symm.trans V) an;have A:=hq (H i).ad (DK (F i) o) DP (I3.refl _ _ _);have b2:=A.symm.trans an;obtain⟨aa,_⟩:=Qw b2;have h3:=hq ⟨X,(H AU.size).nx,.no⟩ (DK (F i) o) DP (by show I3 τ t b (X.get b) _;rw[t1];exact b0);have q3:F9 τ call ⟨RX (F i).tm (o.looksAt AU),(F i).sz,[]⟩ ⟨X,(H AU.size).nx,.no⟩ o.op (DK (F i) o) DP=I [.aE (F (i+1)) ⟨X,(H AU.size).nx,.no⟩]:=by
    rw[L7 bf,h3];simp only[DK,aa]
   have b3:∀id pl,ρ id=I pl->id<(H AU.size).nx:=λid pl e=>by
    obtain⟨pl',h⟩:=CV.bi id pl e;exact r.bi (Ae _) h
   have a4:C5 P τ ρ ⟨X,(H AU.size).nx,.no⟩ w:=by
    refine⟨⟨λid l=>?_,λid pl a5 e eH=>?_,CV.aC,λx y px py S ex ey ae a6 b4=>?_,λg n=>?_⟩,Ao r.ng (r.aA (Al _) (Ae _))⟩
    .have l:(H AU.size).nx<=id:=l
     cases ao:ρ id with
     |none=>rfl
     |some pl=>have:=b3 id pl ao;omega
    .have eH:X.get id=I a5:=eH
     have:=t2 id a5 eH;subst this;rw[t1] at eH;exact CV.mem id pl a5 m m1 e m2 m3 eH
    .have ae:X.get x=I S:=ae
     have:=t2 x S ae;subst this;rw[t1] at ae;exact CV.ord x y px py S m m1 ex ey a6 b4 m2 m3 ae
    .rw[CV.ext g (AC n r.ng)];exact a9 g n
   have ap:=ND T hc a4 (ax.mono (Ren.bO _ _)) q3;rw[←bh] at ap;have cd:=(r.aE i U).lk b t V;refine LG ap (λv' w' N=>?_) (λch w' N=>?_) (λw' N=>N)
   .obtain⟨af,v,A,o1,k1,k2,k3,k4,k5⟩:=N
    obtain⟨aa,rfl⟩:=P4 k4 k5;have q:=k3.br;refine⟨ρ,CV.next r hr U O az aa (λa7=>?_) (λ_ _=>rfl) (Ren.le_refl ρ) CV.bi (λid pl e=>AC (CV.aC id pl e) q.size) q.size (λb hb _=>q.ae b hb λ_ _ h=>h.elim) (λid pl A K e=>G) (λid pl hb p e n=>?_) (λid a8 pl pl' hb ai J p e e' al n=>?_) q.os q.out q.tape q.drawn⟩
    .obtain⟨d,hd⟩:=Option.isSome_iff_exists.1 a7
     obtain⟨_,_,h3⟩:=ay.aF.2 d v ((JG aa).2.2.2 d hd).2;refine(k1.cut h3).mono λid pl e=>?_;obtain⟨e1,_,e2⟩:=Ren.aM e;have l:id<(H (i+1)).nx:=r.bi U e2;rw[q.ext id (by show id<(H AU.size).nx;omega)] at e1;exact e1
    .rcases p with p|p
     .omega
     .obtain⟨_,s,⟨me,M⟩,_⟩:=p;rw[V] at M;cases M
    .rcases p with p|p
     .omega
     .obtain⟨_,s,⟨me,M⟩,_⟩:=p;rw[V] at M;cases M
   .obtain⟨_,_,_,_,_,_,_,_,_,hb,_⟩:=N;cases hb
  obtain⟨hq,ce,q1,q2,q3,q4,q5,q6,q7,q8⟩:=Ahe bf an hH hE bu λa t h=>V ⟨a,t,h⟩;have a4:C5 P τ (ρ.cut (R i)) hq w:=by
   refine⟨⟨λid l=>?_,λid pl hb e eH=>?_,λid pl e=>CV.aC id pl (Ren.bO _ _ _ _ e),λx y px py S ex ey ae a6 hb=>?_,λg n=>?_⟩,by rw[q1];exact Ao r.ng (r.aA (Al i) (Bf U))⟩
   .unfold Ren.cut
    rw[ah.hk.1.fresh id (by rw[q1] at l;exact l)];rfl
   .obtain⟨ag,pl',eR⟩:=Ren.aM e
    obtain⟨g1,g2⟩:=q5 id hb eH;have l:=r.bi (Bf U) eR;refine(CV.mem id pl hb i (Bf U) ag l (λj hj am=>?_) g1).cut (ah.hk.1.hr id pl' hb eR g1);by_cases D:j=i
    .subst D;exact⟨λh=>Cf h aw,λh=>G⟩
    .obtain⟨_,lo,⟨me,C⟩,aq⟩:=am
     refine Ic CV.closed hr D (OM _ _ _ (Nv r hj U D C ?_));rcases g2 with h|h|h
     .exact .inr (.inl h)
     .exact .inl h
     .exact .inr (.inr (.inl ⟨id,h,aq⟩))
   .obtain⟨ag,_,eR⟩:=Ren.aM ex
    obtain⟨g1,g2⟩:=q5 x S ae;refine CV.ord x y px py S i (Bf U) ag (Ren.bO _ _ _ _ ey) a6 hb (r.bi (Bf U) eR) (λj hj am=>?_) g1;by_cases D:j=i
    .subst D;exact⟨λh=>Cf h aw,λh=>G⟩
    .obtain⟨_,lo,⟨me,C⟩,aq⟩:=am
     refine Ic CV.closed hr D (OM _ _ _ (Nv r hj U D C ?_));rcases g2 with h|h|h
     .exact .inr (.inl h)
     .exact .inl h
     .exact .inr (.inr (.inl ⟨x,h,aq⟩))
   .have A:=CV.ext g (AC n r.ng)
    exact Ren.aN (A.trans (a9 g n)) (ah.hk.1.aS g n)
  have ap:=ND T hc a4 ax q3;rw[←bh] at ap;refine LG ap (λv' w' N=>?_) (λch w' N=>?_) (λw' N=>N)
  .obtain⟨af,v,A,o1,k1,k2,k3,k4,k5⟩:=N
   obtain⟨aa,rfl⟩:=P4 k4 k5;have q:=k3.br;rw[q1] at q
   let ar:Ren:=λid=>if id<(H (i+1)).nx then af.cut (R (i+1)) id else ρ id
   have bk:(af.cut (R (i+1))).le ar:=by
    intro id pl e;obtain⟨_,_,eR⟩:=Ren.aM e;show(if id<(H (i+1)).nx then af.cut (R (i+1)) id else ρ id)=I pl
    rw[Bi (r.bi U eR)];exact e
   have old:∀id,id<(H i).nx\/(H (i+1)).nx<=id->ar id=ρ id:=by
    intro id l;show(if id<(H (i+1)).nx then af.cut (R (i+1)) id else ρ id)=ρ id
    rcases l with l|l
    .rw[Bi G]
     unfold Ren.cut;rw[r.ext i U id l,q.ext id l];unfold Ren.cut;cases hR:R i id with
     |some pl=>simp
     |
      none=>
      simp only[Option.isSome_none,BE,if_false];cases ao:ρ id with
      |none=>rfl
      |some pl=>obtain⟨pl',h⟩:=CV.bi id pl ao;rw[(λh=>r.cX (Bf U) (Ae _) h:∀{id:Nat},id<(H i).nx->R AU.size id=R i id) l,hR] at h;cases h
    .rw[Bm G]
   have b5:∀id,(H i).nx<=id->id<(H (i+1)).nx->ρ id=none:=by
    intro id A K;cases ao:ρ id with
    |none=>rfl
    |
     some pl=>
     rcases CV.made id pl ao with h|⟨j,j1,j2,j3,j4⟩
     .have:=r.aA (Al i) (Bf U);omega
     .have:=r.bK j1 U j3 j4 A K;subst this;exact Cf j2 aw
   have aq:ρ.le ar:=by
    intro id pl e;by_cases l:id<(H i).nx\/(H (i+1)).nx<=id
    .rw[old id l];exact e
    .rw[b5 id G G] at e;cases e
   have ak:∀{id pl},ar id=I pl->id<(H (i+1)).nx->af id=I pl/\∃pl',R (i+1) id=I pl':=by
    intro id pl e l;have e:(if id<(H (i+1)).nx then af.cut (R (i+1)) id else ρ id)=I pl:=e
    rw[Bi l] at e;exact Ren.aM e
   have bl:∀{id},((H i).nx<=id/\id<(H (i+1)).nx)\/Wr H E i id->id<(H (i+1)).nx:=by
    intro id h;rcases h with h|h
    .exact h.2
    .exact AC h.1 bo
   refine⟨ar,CV.next r hr U O az aa (λa7=>?_) old aq (λid pl e=>?_) (λid pl e=>?_) q.size (λb hb W=>?_) (λid pl A K e=>?_) (λid pl hb p e n=>?_) (λid a8 pl pl' hb ai J p e e' al n=>?_) q.os q.out q.tape q.drawn⟩
   .obtain⟨d,hd⟩:=Option.isSome_iff_exists.1 a7
    obtain⟨_,_,h3⟩:=ay.aF.2 d v ((JG aa).2.2.2 d hd).2;exact(k1.cut h3).mono bk
   .by_cases l:id<(H (i+1)).nx
    .obtain⟨_,pl',h⟩:=ak e l
     exact⟨pl',by rw[r.cX U (Ae _) l];exact h⟩
    .rw[old id (.inr G)] at e;exact CV.bi id pl e
   .by_cases l:id<(H (i+1)).nx
    .exact k2.1.aC id pl (ak e l).1
    .rw[old id (.inr G)] at e;exact AC (CV.aC id pl e) q.size
   .refine q.ae b hb λid pl C e=>?_
    obtain⟨ag,_,eR⟩:=Ren.aM e;have l:=r.bi (Bf U) eR;refine W id pl l ?_ ag;by_cases au:∃lo,Ws E i lo
    .obtain⟨lo,ad⟩:=au
     exact⟨lo,ad,by rw[←q7 lo ad];exact C⟩
    .exact Cf C (q8 (λlo ad=>au ⟨lo,ad⟩) id l)
   .rcases q.new id pl A (ak e K).1 with h|⟨j,pj,j1,j2,j3⟩
    .exact .inl h
    .obtain⟨ag,_,eR⟩:=Ren.aM j2
     have l:=r.bi (Bf U) eR;by_cases au:∃lo,Ws E i lo
     .obtain⟨lo,ad⟩:=au
      exact .inr ⟨j,pj,lo,ad,by rw[←q7 lo ad];exact j1,l,ag,j3⟩
     .exact Cf j1 (q8 (λlo ad=>au ⟨lo,ad⟩) j l)
   .have l:=bl p
    obtain⟨e1,pl',e2⟩:=ak e l;have b6:=k2.1.hr id pl hb e1 (by rw[q6 id p];exact n);have b7:=ay.hk.1.hr id pl' hb e2 n;exact(b6.cut b7).mono bk B
   .have l:=bl p
    exact k2.1.ord id a8 pl pl' hb (ak e l).1 (ak e' J).1 (by rw[q6 id p];exact n) ai al
  .obtain⟨_,_,_,_,_,_,_,_,_,hb,_⟩:=N;cases hb
 ·
  have a1:=Kn ax (bg.trans hw) o B;rw[Bm (by rw[a1];simp)];refine⟨λf _=>Vb ro' f,ρ,?_⟩;have cf:(H (i+1)).nx=(H i).nx:=by rw[hH]
  refine CV.next r hr U O az aa (λ_=>OR) (λ_ _=>rfl) (Ren.le_refl ρ) CV.bi CV.aC (Ae _) (λ_ _ _=>rfl) (λid pl A K e=>G) (λid pl hb p e n=>?_) (λid a8 pl pl' hb ai J p e e' al n=>?_) B B B (Ae _)
  .rcases p with p|⟨_,lo,⟨me,C⟩,_⟩
   .omega
   .rw[hE] at C;cases C
  .rcases p with p|⟨_,lo,⟨me,C⟩,_⟩
   .omega
   .rw[hE] at C;cases C
def left(n:Nat) (L:Array Bool):Nat:=(BG n).countP λj=>!L.getD j Ah
def V1 {L:Array Bool} {i:Nat} (U:i<n) (c:i<L.size) (d:¬On L i):left n (L.setIfInBounds i Ag)<left n L:=by
 have Cw:∀l:Bo,i∈l->l.countP (λj=>!(L.setIfInBounds i Ag).getD j Ah)<l.countP (λj=>!L.getD j Ah):=by
  have e:∀l:Bo,l.countP (λj=>!(L.setIfInBounds i Ag).getD j Ah)<=l.countP (λj=>!L.getD j Ah):=λl=>
   List.countP_mono_left λj _ h=>by
    have:¬On L j:=λa=>(by simpa[On] using h:¬On (L.setIfInBounds i Ag) j) ((I9 c).2 (.inl a));simpa[On] using this
  intro l
  induction l with
  |nil=>intro h;cases h
  |
   cons x l f=>
   intro h;rw[Amu,Amu];by_cases b:x=i
   .subst b
    have g:(L.setIfInBounds x Ag).getD x Ah=true:=(I9 c).2 (.inr B);rw[g,(by simpa[On] using d:L.getD x Ah=Ah)];have:=e l;simp only[Qf,Kz,BE,if_false,if_true];omega
   .have:=f ((List.mem_cons.1 h).resolve_left λa=>b a.symm)
    rw[(getD_set_ne Ah λa=>b a.symm:(L.setIfInBounds i Ag).getD x Ah=L.getD x Ah)];omega
 exact Cw _ Jq
def Aua (c:Xp AU) (k:L.size=AU.size) (h:CQ .any AU L=[]):∀j,j<AU.size->On L j:=by
 intro j
 induction j using Nat.strongRecOn with
 |
  _ j d=>
  intro a;refine Classical.byContradiction λf=>?_;have b:j∈CQ .any AU L:=by
   refine mem_ready.2 ⟨?_,AU[j],By a,λe g hb=>?_⟩
   .have:L.getD j Ah=false:=by simpa[On] using f
    rw[Bh,By (G:j<L.size)] at this⊢;simpa using this
   .have i:=c.lt j AU[j] e (By a) g hb
    exact d e.on i G
  rw[h] at b;cases b
def J6 (T:BM P τ) (d:C8 P τ call):MR P τ call:=by
 intro ar AU K fr h a w ρ outs ro' af st hu;have ab:=Axx af;obtain⟨F,H,E,rfl,rfl,ag,_,ah,hk⟩:=Aao AU.toList 0 rfl [] fr h outs hu;obtain⟨R,r0,r⟩:=ACp T d st (λj o V=>ag j o (Al _) V) (λx y A hy d=>ah x y (Al _) A hy d);have Cw:∀(C:Nat) (L:Array Bool) (c:Ren) (a1:FP) (f:AM),PK P AU F H E R ρ a w L c a1 f->left AU.size L<=C->wpAnyIn (Fw ro') 0 P .any AU (QK P τ ρ w (H 0) K outs) C L a1 f:=by
  have Da:∀(L:Array Bool) (c:Ren) (a1:FP) (f:AM),PK P AU F H E R ρ a w L c a1 f->CQ .any AU L=[]->QK P τ ρ w (H 0) K outs .normal a1 f:=by
   intro L c a1 f CV k;have ai:=Aua ab CV.size k;have ad:∀id,Cnd AU H E L AU.size id:=λid j b _=>Jq;have s:∀id pl,c id=I pl->id<(H AU.size).nx:=by
    intro id pl e;rcases CV.made id pl e with h|⟨j,j1,j2,j3,j4⟩
    .exact AC h (r.aA (Al _) (Ae _))
    .exact AC j4 (r.aA j1 (Ae _))
   have aj:ρ.le c:=by
    intro id pl e;have:id<(H 0).nx:=BB λu=>by rw[st.hk.1.fresh id u] at e;cases e
    rw[CV.ext id this];exact e
   have W:=r.aA (Al _) (Ae AU.size);refine⟨c,F AU.size,H AU.size,outs,⟨⟨⟨λid D=>?_,λid pl hb e eH=>CV.mem id pl hb _ Jq e (s id pl e) (ad id) eH,CV.aC,λx y px X M N ey ak A hb=>CV.ord x y px X M _ Jq N ey A hb (s x px N) (ad x) ak,λg p=>?_⟩,Ao r.ng W⟩,⟨?_,λt v Q=>?_⟩,?_⟩,
    ⟨⟨CV.ext,CV.bX,CV.ae,CV.new,W,CV.os,CV.out,CV.tape,CV.drawn⟩,W,r.lo_le Jq Jq,λid D al=>?_⟩,λ_ M=>M,hk⟩
   .cases am:c id with
    |none=>rfl
    |some pl=>have:=s id pl am;omega
   .rw[CV.ext g (AC p r.ng)];exact st.hk.1.aS g p
   .show(F AU.size).sz=_
    rw[(r.sz (Ae _)).1];exact CV.sz
   .exact CV.tm t AU.size v Jq (λj b=>⟨λ_=>let⟨o,V,_⟩:=b;(Array.getElem?_eq_some_iff.1 V).1,λu=>ai j u⟩) Q
   .show DR c (F AU.size).ds a1.defers
    rw[(r.sz (Ae _)).2,CV.ds];exact st.ds.mono aj
   .refine r.same Jq Jq D λj _ b an=>?_
    obtain⟨_,lo,hE,ao⟩:=an;exact al (r.lo_le b (Ae _) _ ((r.aE j b).wr lo hE _ ao))
  intro C
  induction C with
  |
   zero=>
   intro L c a1 f CV hl;have k:CQ .any AU L=[]:=by
    cases ap:CQ .any AU L with
    |nil=>rfl
    |
     cons i l=>
     have k:i∈CQ .any AU L:=by rw[ap];exact Av
     obtain⟨O,S,_⟩:=Ie k;have:=V1 (n:=AU.size) (by rw[←CV.size];exact O) O S;omega
   exact⟨k,Da L c a1 f CV k⟩
  |
   succ C ih=>
   intro L c a1 f CV hl;refine⟨Da L c a1 f CV,λi k=>?_⟩;obtain⟨O,S,_⟩:=Ie k;have s:=V1 (n:=AU.size) Jq O S;refine wpOpIn_mono (λa2 w2 u=>?_) (Amg T d ab r st.hk.1.aS CV k);obtain⟨FS,aq⟩:=u;exact ih _ FS a2 w2 aq G
 refine wpIn_region_any T.mixed (Cw _ _ ρ a _ ?_ ?_)
 .have aa:∀j,¬On (Cz AU.size Ah) j:=by
   intro j b;unfold On at b;rw[Bh] at b;by_cases s:j<AU.size
   .rw[By (by simpa using s)] at b;simp at b
   .rw[Dr (by simpa using s)] at b;simp at b
  have z:∀id pl,ρ id=I pl->id<(H 0).nx:=λid pl e=>BB λu=>by rw[st.hk.1.fresh id u] at e;cases e
  have ae:∀{m id},m<=AU.size->Cnd AU H E (Cz AU.size Ah) m id->∀j,0<=j->j<m->¬Wr H E j id:=λq d j _ b hw=>aa j ((d j G hw).2 b);refine⟨by simp,λj o e _ _ _ b=>Cf b (aa j),st.aF.1,λt m v q d Q=>?_,B,st.hk.1.aC,λid pl e=>.inl (z id pl e),λ_ _=>rfl,λid pl e=>?_,λid pl hb m q e D d p=>?_,λx y px X M m q N ey A hb D d p=>?_,λid au pl pl' j b O S _ e _ _=>?_,Ae _,λ_ _ _=>rfl,λid pl D e=>?_,B,B,B,Yr _⟩
  .rw[r.tm (Al m) q λj _ b hw=>aa j ((d j hw).2 b)] at Q
   exact st.aF.2 t v Q
  .refine⟨pl,?_⟩
   rw[r.cX (Al _) (Ae _) (z id pl e),r0];exact e
  .rw[r.same (Al m) q (z id pl e) (ae q d)] at p
   exact(st.hk.1.hr id pl hb e p).mono (Ren.le_refl ρ) B
  .rw[r.same (Al m) q (z x px N) (ae q d)] at p
   exact st.hk.1.ord x y px X M N ey p A hb
  .have:=z id pl e
   have:=r.aA (Al j) (Bf b);omega
  .have:=z id pl e;omega
 .unfold left
  exact Ao List.countP_le_length (by simp)
end
def S3 {LU:AH->AH->Option Int} {x:AH}:∀{l l':List AH},Xk LU x l=I l'->l'.Perm (x::l)
 |[],l',h=>by simp only[Xk,Option.some.injEq] at h;subst h;exact .refl _
 |
  y::l,l',h=>by
  simp only[Xk] at h;split at h
  case h_2=>cases h
  rcases XD h with h|h
  .cases h;exact .refl _
  .split at h
   case h_2=>cases h
   rename_i b a;cases h;exact((S3 a).cons y).trans (.swap x y l)
def Rc {LU:AH->AH->Option Int}:∀{l l':List AH},Pc LU l=I l'->l'.Perm l
 |[],l',h=>by simp only[Pc,Option.some.injEq] at h;subst h;exact .refl _
 |
  x::l,l',h=>by
  simp only[Pc] at h;split at h
  case h_2=>cases h
  rename_i b a;exact(S3 h).trans ((Rc a).cons x)
def Ry {LU:AH->AH->Option Int}:∀{l:List AH},MQ LU l=Ag->∀(i j:Nat) (x y:AH),l[i]?=I x->l[j]?=I y->∃c,LU x y=I c/\(c<0↔i<j)
 |[],_,i,j,x,y,U,_=>by simp at U
 |
  z::l,h,i,j,x,y,U,f=>by
  simp only[MQ,An] at h;obtain⟨⟨h0,o⟩,q⟩:=h;have p:∀{m:List AH},Ot LU z m=Ag->∀(k:Nat) (u:AH),m[k]?=I u->(∃c,LU z u=I c/\c<0)/\∃c,LU u z=I c/\¬c<0:=by
   intro m
   induction m with
   |nil=>intro _ k u g;simp at g
   |
    cons v m r=>
    intro b k u g;simp only[Ot] at b;split at b
    case h_2=>cases b
    rename_i c d a s;simp only[An] at b;cases k with
    |
     zero=>
     cases g;refine⟨⟨c,a,GJ.1 b.1.1⟩,d,s,λe=>?_⟩;have:=GJ.2 e;rw[this] at b;simp at b
    |succ k=>exact r b.2 k u (by simpa using g)
  cases i with
  |
   zero=>
   cases U;cases j with
   |
    zero=>
    cases f;split at h0
    case h_2=>cases h0
    rename_i c a;refine⟨c,a,λe=>?_,λe=>G⟩;have:=GJ.2 e;rw[this] at h0;cases h0
   |
    succ j=>
    obtain⟨⟨c,a,n⟩,_⟩:=p o j y (by simpa using f);exact⟨c,a,λ_=>G,λ_=>n⟩
  |
   succ i=>
   cases j with
   |
    zero=>
    cases f;obtain⟨_,c,a,n⟩:=p o i x (by simpa using U);exact⟨c,a,λe=>Cf e n,λe=>G⟩
   |
    succ j=>
    obtain⟨c,a,t⟩:=Ry q i j x y (by simpa using U) (by simpa using f);exact⟨c,a,G⟩
section
variable{P:AN} {τ:Bb} {ρ:Ren} {h:Y} {w:AM}
def XU (T:BM P τ) (m:C8 P τ call) {g:Au} (hb:EV τ g=Ag) {a b:AH} {c:Int} (d:Nd call g nx a b=I c) (n:a.all plainCell=Ag) (hb':b.all plainCell=Ag)
 (W:AM) (j:C5 P τ ρ ⟨.nil,nx,.no⟩ W):Calls P g #[.agg ⟨a⟩,.agg ⟨b⟩] W λe w'=>e=.returned (.int .i64 c)/\∃q o,w'=Go.Sort.grow (W.drewN q) o:=by
 unfold Nd at d;split at d
 case h_2=>cases d
 rename_i O J p;obtain⟨r,d⟩:=C1 d;cases d;have s:LR ρ [.agg ⟨a⟩,.agg ⟨b⟩] [.agg ⟨a⟩,.agg ⟨b⟩]:=.cons (.agg (LR.ak n)) (.cons (.agg (LR.ak hb')) .nil);have h:=m (.func g) (.func g) _ _ _ _ _ _ ρ W j (.func g) s p;unfold EV at hb;split at hb
 case h_2=>cases hb
 rename_i fn k;obtain⟨cd,t⟩:=Option.isSome_iff_exists.1 hb;have u:=MuLone.run_callFunc_enter (P:=P) (T.fn _ _ k).1 ((T.fn _ _ k).2 hb) t ⟨[.agg ⟨a⟩,.agg ⟨b⟩]⟩ W;unfold Hk at h;simp only[LW] at h;rw[u] at h;refine(callsIn_wide.1 h).mono λe w' i=>?_;cases e with
 |outgrown=>exact i.elim
 |panicked Q=>obtain⟨_,_,_,_,_,_,_,_,_,hb,_⟩:=i;cases hb
 |
  returned v'=>
  obtain⟨C2,v,R,S,w,V,x,y,z⟩:=i;cases y;have:=z (List.mem_singleton.2 rfl);have:=List.mem_singleton.1 this;cases this;cases w;refine⟨B,w'.drawn-W.drawn,w'.heap.extract W.heap.size w'.heap.size,?_⟩;have f:=x.br;have A:∀b,b<W.heap.size->w'.heap[b]?=W.heap[b]?:=λb hb=>f.ae b hb λid pl C e=>by
   have D:id<nx:=BB λE=>by rw[j.1.fresh id E] at e;cases e
   exact Cf C (GO r D)
  have F:w'.heap=W.heap++w'.heap.extract W.heap.size w'.heap.size:=by
   apply JN;intro b;rcases A8 b W.heap.size with l|H
   .rw[KP l,A b l]
   .rw[Array.getElem?_append_right H,Array.getElem?_extract]
    have X:=f.size;by_cases hb:b<w'.heap.size
    .rw[Bi G];congr 1;omega
    .rw[Bm G,Dr G]
  have K:=f.os;have L:=f.out;have M:=f.tape;have N:=f.drawn;cases w' with
  |
   mk i tp dr os aa=>
   simp only at F K L M N;simp only[Go.Sort.grow,World.drewN];congr 1;omega
end
def IL {c:Type}:∀(l:List (List c)),(∀g∈l,g.length=k)->∀j,j<l.length*k->l.flatten[j]?=(l[j/k]?).bind λg=>g[j%k]?
 |[],_,j,h=>by simp at h
 |
  g::l,a,j,h=>by
  have d:g.length=k:=a g Av;have e:0<k:=by
   rcases KQ k with h0|h0
   .subst h0;simp at h
   .exact h0
  rw[JR];by_cases b:j<k
  .rw[AB G,Nat.div_eq_of_lt b,JQ b];rfl
  .rw[Bq G,d]
   have J:j-k<l.length*k:=by
    simp only[AO,Dw,Nat.one_mul] at h;omega
   rw[IL l (λf i=>a f (Az _ i)) (j-k) J];have m:j/k=(j-k)/k+1:=Nat.div_eq_sub_div e G;have n:j%k=(j-k)%k:=by rw[Nat.mod_eq_sub_mod G]
   rw[m,n,B5]
def IU {b:Type}:∀(l:List (List b)),(∀g∈l,g.length=k)->l.flatten.length=l.length*k
 |[],_=>by simp
 |
  g::l,a=>by
  rw[JR,Aj,IU l λc d=>a c (Az _ d),a g Av,AO,Dw,Nat.one_mul];omega
def SC {a:Type} [Inhabited a] (Cr:a->AH) (d:Array a) (h:j<d.size*k):(Go.Sort.flatK Cr k d)[j]! =(Cr d[j/k]!)[j%k]!:=by
 unfold Go.Sort.flatK;rw[getElem!_pos (ZA _ _) j (by simpa using h)];simp
def Sa (h:plainCell v=Ag):v.oneCell'=true:=by
 unfold plainCell at h;split at h<;>first
  |rfl
  |cases h
def LK {c:Ev.T Aa}:∀{n off:Nat} {b:List AH},HF k c off n=I b->b.length=n/\(∀g∈b,g.length=k)/\∀(j:Nat) v,b.flatten[j]?=I v->c.get (off+j)=I v
 |0,off,b,h=>by cases h;exact⟨B,(λg d=>by cases d),λj v a=>by simp at a⟩
 |
  n+1,off,b,h=>by
  rw[HF] at h;split at h
  .rename_i g l d f
   cases h;obtain⟨i,m,o⟩:=LK f;obtain⟨p,q⟩:=FN _ _ _ _ d;refine⟨by rw[AO,i],λx e=>?_,λj v a=>?_⟩
   .rcases List.mem_cons.1 e with rfl|e
    .exact p
    .exact m x e
   .rw[JR] at a
    rcases A8 j g.length with r|s
    .rw[AB r] at a
     exact q j v a
    .rw[Bq s] at a
     have:=o _ v a;rw[show off+k+(j-g.length)=off+j by omega] at this;exact this
  .cases h
section
variable{P:AN} {τ:Bb}
open Go.Sort Go.Proofs Go.Shelf
def Ami (T:BM P τ) {D:Go.Shelf.Ren} (L:SlLaysF0.n6 P D) (he:D.t 24=e) (aE:∀w,(isAgg e).run P w=.ok Ag w) (aa:EV τ (D.f 6)=Ag) (hc:C8 P τ call) {ρ:Go.Ev.Ren} (H:C5 P τ ρ h w) (E:LR ρ args AP) (d:IA τ e call args h=I (v,J)) (k kp:Aa->Y->RR) (outs:List EO) (ap:k v J=I outs):
 Hk P (callFunc (D.f 6) ⟨AP⟩) w (Ho P τ ρ w h k kp outs):=by
 have aq:∀x y w,(callFunc (D.f 6) ⟨[x,y]⟩).run P w=.ok (.enter (D.f 6) ⟨[x,y]⟩) w:=λx y w=>by
  unfold EV at aa;split at aa
  case h_2=>cases aa
  rename_i fn R;obtain⟨cd,ai⟩:=Option.isSome_iff_exists.1 aa;exact MuLone.run_callFunc_enter (T.fn _ _ R).1 ((T.fn _ _ R).2 aa) ai _ w
 unfold IA at d;split at d
 case h_3=>cases d
 case h_1=>
  rename_i p cap fv;cases d;cases E with|cons s E=>
  cases E with|cons hy E=>
  cases E;have Da:∀p' aj ak,Hk P (callFunc (D.f 6) ⟨[.slice p' 0 aj,ak]⟩) w (Ho P τ ρ w h k kp outs):=λp' aj ak=>by
   unfold Hk;rw[aq];refine callsIn_wide.2 (Calls.mono (AnyF.slices_SortFunc_none L p' aj ak w) λen w' hp=>?_);obtain⟨rfl,rfl⟩:=hp;exact⟨ρ,_,_,outs,.tuple .nil,H,RF.refl H,ap,λ_ s=>s⟩
  cases s with
  |az l c=>exact Da _ _ _
  |slice e1 e2=>exact Da _ _ _
 rename_i id len cap g _;split at d
 case h_2=>cases d
 rename_i c N e' x i eH U;split at d
 case h_2=>cases d
 rename_i W hg;obtain⟨K,d⟩:=C1 d;obtain⟨K,X⟩:=Dh K;obtain⟨K,q4⟩:=Dh K;obtain⟨K,q3⟩:=Dh K;obtain⟨K,q1⟩:=Dh K;obtain⟨g0,q0⟩:=Dh K;have q0:=Ac q0;have q1:=Af q1;have q3:0<len:=by simpa[AK] using q3
 have q4:=Ac q4;subst q1;obtain⟨q2,al,s3⟩:=LK hg;split at d
 case h_2=>cases d
 rename_i r a8;obtain⟨a9,d⟩:=C1 d;cases d;cases E with|cons s E=>
 cases E with|cons hy E=>
 cases E;cases s with|@slice _ _ _ _ _ pl o' e1 e2=>
 cases hy with|func R ba bb=>
 cases R;cases ba;cases bb;have ho:o'=pl.o:=by have:=e2 G;omega
 subst ho;have bc:=T.aj _ _ U;obtain⟨C,fz,g1,b2,b3,b4,b5,b6⟩:=H.1.hr _ _ _ e1 eH;have b9:W.flatten.length=len*i.size:=by rw[IU W al,q2]
 have ar:fz.1=fz.2:=by
  rcases b5 with h|⟨h,_⟩|⟨F,S,h3⟩
  .exact h
  .cases h
  .omega
 have bd:∀j v,W.flatten[j]?=I v->C[pl.o+j]?=I v:=λj v hv=>by
  have:=s3 j v hv;rw[Ba] at this;obtain⟨_,v',d1,d2⟩:=b4 j v this;obtain⟨y,be,bf⟩:=List.mem_flatten.1 (AZ hv);rw[d2.aO (List.all_eq_true.1 (List.all_eq_true.1 g0 y be) v bf)] at d1;exact d1
 have ae:=Rc a8;have am:r.length=len:=by rw[ae.length_eq,q2]
 have af:∀x∈r,x.length=i.size:=λx s=>al x (ae.subset s);have ag:∀x∈r,x.all plainCell=true:=λx s=>List.all_eq_true.1 g0 x (ae.subset s);have bg:=Ry a9
 let Cr:Fin len->AH:=λj=>r.getD j.1 []
 haveI:Inhabited (Fin len):=⟨⟨0,q3⟩⟩
 have ab:∀j:Fin len,r[j.1]?=I (Cr j):=λj=>by
  show r[j.1]?=I (r.getD j.1 []);have:j.1<r.length:=by rw[am];exact j.2
  rw[Ak,Ab this];rfl
 have ad:∀j:Fin len,Cr j∈r:=λj=>AZ (ab j);have bh:r=(KC len).map Cr:=by
  apply List.ext_getElem?;intro j;rw[AX];by_cases o:j<len
  .rw[Ab (l:=KC len) (by simpa using o)]
   have:=ab ⟨j,o⟩;simp only at this;rw[this];simp
  .rw[CD G,CD (by simp;omega)];rfl
 obtain⟨m',au,av⟩:=HH Cr (l:=W) (m:=KC len) (by rw[←bh];exact ae.symm);have aw:m'.length=len:=by rw[av.length_eq];simp
 let V:Fin len->Fin len->Int:=λx y=>(Nd call g h.nx (Cr x) (Cr y)).getD 0
 have ax:∀x y,Nd call g h.nx (Cr x) (Cr y)=I (V x y)/\(V x y<0↔x<y):=λx y=>by
  obtain⟨c,ay,bi⟩:=bg x.1 y.1 _ _ (ab x) (ab y);have:V x y=c:=by show(Nd call g h.nx (Cr x) (Cr y)).getD 0=c;rw[ay];rfl
  rw[this];exact⟨ay,bi⟩
 have ah:∀x y,ltOf V x y=decide (x<y):=λx y=>by
  unfold ltOf;exact decide_eq_decide.2 (ax x y).2
 have hO:SWO (ltOf V):=⟨λx=>by rw[ah];simp,λx y z F S=>by rw[ah] at*;simp at*;omega,λx y z F S=>by rw[ah] at*;simp at*;omega⟩;have eg:∀args w,(callFunc g args).run P w=.ok (.enter g args) w:=by
  intro args w;unfold EV at X;split at X
  case h_2=>cases X
  rename_i fn R;obtain⟨cd,ai⟩:=Option.isSome_iff_exists.1 X;exact MuLone.run_callFunc_enter (T.fn _ _ R).1 ((T.fn _ _ R).2 X) ai args w
 have bj:∀m dk os,(sortWorldK Cr i.size w pl.b pl.o m dk os).heap.size=w.heap.size+os.size:=λm dk os=>by
  unfold sortWorldK;rw[size_grow];unfold putRowK;rw[Go.Sort.size_putRow];rfl
 have bk:=H.1.aC id pl e1;have bl:CmpLays P g #[] Cr i.size V pl.b pl.o m'.toArray.size w:=by
  intro m os dk ca x y;have bm:C5 P τ ρ ⟨.nil,h.nx,.no⟩ (sortWorldK Cr i.size w pl.b pl.o m dk os):=
   ⟨⟨H.1.fresh,λid pl hb e eH=>(by cases eH),λid pl e=>by rw[bj];have:=H.1.aC id pl e;omega,λx y px py s ex ey bn=>(by cases bn),H.1.aS⟩,H.2⟩
  have:=XU T hc X (ax x y).1 (ag _ (ad x)) (ag _ (ad y)) _ bm;simpa using this
 have hH:HoldsK Cr i.size w pl.b pl.o m'.toArray:=by
  intro j o;rw[size_flatK] at o;simp only[List.size_toArray] at o;have az:0<i.size:=by
   rcases KQ i.size with h0|h0
   .rw[h0] at o;simp at o
   .exact h0
  have M:j/i.size<m'.length:=Nat.div_lt_of_lt_mul (by rw[UI];exact o);have hf:W.flatten[j]?=I ((flatK Cr i.size m'.toArray)[j]!):=by
   rw[IL W al j (by rw[au,A4];exact o),au,AX,Ab M];have a0:j%i.size<(Cr m'[j/i.size]).length:=by rw[af _ (ad _)];exact Je _ az
   simp only[Ek,CC];rw[Ab a0];rw[SC Cr _ (by simpa using o),getElem!_pos m'.toArray (j/i.size) (by simpa using M)];simp only[List.getElem_toArray];rw[getElem!_pos (Cr m'[j/i.size]) (j%i.size) a0]
  refine⟨?_,?_⟩
  .unfold WX
   simp only[g1];rw[bd j _ hf];rfl
  .unfold World.frozen?
   simp only[g1];have:=ar;simp only[Bool.and_eq_false_imp,decide_eq_true_eq,decide_eq_false_iff_not];omega
 subst he;have a1:=AnyQ.slices_SortFunc L i.size aE (λw=>run_sizeOf bc w) Cr (λx=>af _ (ad x)) (λx u d=>Sa (List.all_eq_true.1 (ag _ (ad x)) u d)) V hO g #[] pl.b pl.o (cap+Hl Z pl) m'.toArray w eg bl hH bk (by simp;omega);unfold Hk;rw[aq];have an:m'.toArray.size=len:=by simp[aw]
 rw[an] at a1;refine callsIn_wide.2 (Calls.mono a1 λen w' hp=>?_);obtain⟨rfl,q,n,os,a2,bo,rfl⟩:=hp;have Q:q.size=len:=by rw[a2.1,an]
 have bp:q.toList.Perm m':=by
  have:=a2.2.2;simp only[Array.toList_extract,List.extract_eq_take_drop,DL,Ajb] at this
  rwa [Bj (by simp[Q]),Bj (by simp[aw])] at this
 have bq:q.toList=KC len:=by
  refine List.Perm.eq_of_pairwise (le:=λa b:Fin len=>a<=b) (λa b _ _ F S=>Fin.le_antisymm F S) ?_ ?_ (bp.trans av)
  .rw[F8]
   intro a b ha hb a3;have br:a<q.size:=by simpa using ha
   have hb':b<q.size:=by simpa using hb
   have:=bo a b (Al _) a3 G;rw[ah,getElem!_pos q a br,getElem!_pos q b hb'] at this;simp only[decide_eq_false_iff_not] at this;have:=Fin.not_lt.1 this;simpa using this
  .rw[F8]
   intro a b ha hb a3;simp[Fin.le_def];omega
 have bs:=holdsK_putRowK Cr i.size (Go.Sort.ahead w n) pl.b pl.o m'.toArray q (holdsK_ahead Cr i.size w n pl.b pl.o _ hH) (by rw[Q,an]);have bt:r.flatten.length=len*i.size:=by rw[IU r af,am]
 have bu:∀j u,r.flatten[j]?=I u->(putCells (_root_.id:Aa->Aa) pl.o (flatK Cr i.size q) C)[pl.o+j]?=I u:=by
  intro j u d;have o:j<len*i.size:=by
   have:=(List.getElem?_eq_some_iff.1 d).1;omega
  have az:0<i.size:=by
   rcases KQ i.size with h0|h0
   .rw[h0] at o;simp at o
   .exact h0
  have M:j/i.size<len:=Nat.div_lt_of_lt_mul (by rw[UI];exact o);have F:=(bs j (by rw[size_flatK,Q];exact o)).1;have bv:(flatK Cr i.size q)[j]! =u:=by
   rw[IL r af j (by rw[am];exact o),ab ⟨j/i.size,M⟩] at d;simp only[CC] at d;rw[SC Cr _ (by rw[Q];exact o),getElem!_pos q (j/i.size) (by rw[Q];exact M)];have:q[j/i.size]'(by rw[Q];exact M)=⟨j/i.size,M⟩:=by
    have S:q.toList[j/i.size]?=(KC len)[j/i.size]?:=by rw[bq]
    rw[Is,By (by rw[Q];exact M),Ab (by simpa using M)] at S;simpa using S
   rw[this];rw[UJ,d];rfl
  rw[bv] at F;unfold WX putRowK putRow mapBlock at F;simp only[B3,if_true] at F;have bw:(Go.Sort.ahead w n).heap[pl.b]?=I (Obj.cells C (D.t 24) fz):=g1;rw[bw] at F;simpa[onCells] using F
 let A:World:=putRowK Cr i.size (Go.Sort.ahead w n) pl.b pl.o q
 have a4:sortWorldK Cr i.size w pl.b pl.o n q os=grow A os:=rfl;have a5:A.heap.size=w.heap.size:=by
  show(putRow _ _ _ _ _).heap.size=_;rw[Go.Sort.size_putRow];rfl
 have bx:∀b,b≠pl.b->A.heap[b]?=w.heap[b]?:=λb hb=>by
  show(w.heap.modify pl.b _)[b]?=_;rw[B3,Bm (Ne.symm hb)]
 have bz:A.heap[pl.b]?=I (.cells (putCells (_root_.id:Aa->Aa) pl.o (flatK Cr i.size q) C) (D.t 24) fz):=by
  show(w.heap.modify pl.b _)[pl.b]?=_;rw[B3,Bi B,g1];rfl
 have ao:(putCells (_root_.id:Aa->Aa) pl.o (flatK Cr i.size q) C).size=C.size:=by simp[putCells]
 have b0:BR P ρ pl A (.cells (Ev.T.laid r.flatten 0 c) N (D.t 24) 0 0 x):=by
  refine⟨_,fz,bz,by rw[ao];exact b2,λi' b1=>by rw[ao];exact b3 i' b1,λj u d=>?_,.inl ar,λs=>by rw[ao];exact b6 s⟩;rw[Ev.T.an] at d;by_cases o:0<=j/\j<0+r.flatten.length
  .rw[Bi o] at d
   simp only[DL] at d;obtain⟨x,b7,b8⟩:=List.mem_flatten.1 (AZ d);exact⟨G,u,bu j u d,VR.av (List.all_eq_true.1 (ag x b7) _ b8)⟩
  .rw[Bm o] at d
   rw[bt] at o;have:(putCells (_root_.id:Aa->Aa) pl.o (flatK Cr i.size q) C)[pl.o+j]?=C[pl.o+j]?:=by
    unfold putCells;rw[Acj,size_flatK,Q];cases hC:C[pl.o+j]? with
    |none=>rfl
    |some x=>rw[Ek,Bm G]
   rw[this];exact b4 j u d
 obtain⟨k1,O⟩:=H.write (w':=A) (hdr:=GW _ _) e1 eH B a5 bx b0 B B B;have a6:∀b,b<A.heap.size->(grow A os).heap[b]?=A.heap[b]?:=λb hb=>by
  show(A.heap++os)[b]?=_;rw[KP hb]
 have a7:A.heap.size<=(grow A os).heap.size:=by rw[size_grow];omega
 refine⟨ρ,_,_,outs,.tuple .nil,?_,⟨?_,AF.put _ _ _⟩,ap,λ_ s=>s⟩
 .rw[a4];exact k1.grow a7 a6
 .rw[a4]
  exact⟨O.ext,Ao O.size a7,λb hb hh=>by rw[a6 b (by rw[a5];exact hb)];exact O.ae b hb hh,O.new,O.nx,O.os,O.out,O.tape,O.drawn⟩
end
section
variable{P:AN} {τ:Bb} {call:Be} {L:Nat} {ro:Option Nat}
def keyOf (o:C0):Option Tmp×Op:=(o.dst,o.op)
def Jv (τ:Bb) (call:Be) (kp:Aa->Fr->Y->RR) (k:Fr->Y->RR):List (Option Tmp×Op)->Fr->Y->RR
 |[],fr,h=>k fr h
 |(d,op)::l,fr,h=>F9 τ call fr h op (λv J=>match fr.set d v with|some Ec=>Jv τ call kp k l Ec J|none=>Z) (λv J=>kp v fr J)
def Ny:Op->Bool
 |.defer _=>Ah
 |_=>Ag
def Te {AU:List C0} {kp:Aa->Fr->Y->RR} {k:Fr->Y->RR}:∀(l:List C0),(l.all λo=>o.guard.isNone&&Ny o.op)=Ag->∀(fr:Fr) (h:Y),EX τ call ro AU kp k l fr h=Jv τ call kp k (l.map keyOf) fr h
 |[],_,fr,h=>rfl
 |
  o::l,a,fr,h=>by
  simp only[Jh,An] at a;have c:o.guard=none:=by simpa using a.1.1
  have d:=Te (kp:=kp) (k:=k) (AU:=AU) l a.2;simp only[EX,Bp,keyOf,Jv,c,E5];have e:IB τ call ro fr h o (λEc J=>EX τ call ro AU kp k l Ec J) (λv J=>kp v fr J)=
   F9 τ call fr h o.op (λv J=>match fr.set o.dst v with|some Ec=>EX τ call ro AU kp k l Ec J|none=>Z) (λv J=>kp v fr J):=by
   unfold IB;have b:=a.1.2;cases f:o.op<;>first
    |rfl
    |(rw[f] at b;cases b)
  rw[e];congr 1;funext v J;cases fr.set o.dst v with
  |none=>rfl
  |some Ec=>exact d Ec J
def Kx {AU:Array C0} (a:(AU.toList.all λo=>o.guard.isNone&&Ny o.op)=Ag) (K:Kt) (fr:Fr) (h:Y):
 B7 τ call L ro (.region id AU Ah) K fr h=Jv τ call K.p K.n (AU.toList.map keyOf) fr h:=Te AU.toList a fr h
def Fr.lay (fr:Fr) (t:Tmp) (v:Aa):Fr:=⟨fr.tm.ins t v,fr.sz,fr.ds⟩
def Fr.bB {t:Tmp} (h:t<fr.sz):fr.set (I t) v=I (fr.lay t v):=by
 unfold Fr.set;have:AD t fr.sz=true:=by rw[AK];exact h
 simp only[this];rfl
def Fr.a6 (fr:Fr) (t:Tmp) (v:Aa) (j:Tmp):(fr.lay t v).tm.get j=if j=t then I v else fr.tm.get j:=T.dA _ _ _ _
abbrev Vj:Kt:={n:=λfr h=>I [.aE fr h],x:=λ_ _ _=>Z,r:=λ_ _=>Z,p:=λ_ _ _=>Z}
def Aoe:Op->Bool
 |.call _|.next ..|.panic _=>Ah
 |_=>Ag
def Aaq {o:Op} (a:Aoe o=Ag) {fr:Fr} {h:Y} {k kp:Aa->Y->RR}:F9 τ call fr h o k kp=(match Ch τ fr h o with|some (v,J)=>k v J|none=>Z):=
 Gk (λc e=>by subst e;cases a) (λi s e=>by subst e;cases a) (λx e=>by subst e;cases a)
def GI {kp:Aa->Fr->Y->RR} {k:Fr->Y->RR} {t:Tmp} {op:Op} {l:List (Option Tmp×Op)} {fr:Fr} {h J:Y} {v:Aa} (a:Aoe op=Ag) (b:Ch τ fr h op=I (v,J)) (c:t<fr.sz):
 Jv τ call kp k ((I t,op)::l) fr h=Jv τ call kp k l (fr.lay t v) J:=by
 simp only[Jv];rw[Aaq a,b];simp only[];rw[Fr.bB c]
def R7 {kp:Aa->Fr->Y->RR} {k:Fr->Y->RR} {t:Tmp} {b:Builtin} {xs:Array BU} {a:Array Ai} {l:List (Option Tmp×Op)} {fr:Fr} {h J:Y} {vs:AH} {v:Aa}
 (c:O8 τ fr xs.toList=I vs) (d:Bx τ b a.toList vs h=I (v,J)) (e:t<fr.sz):
 Jv τ call kp k ((I t,.call ⟨.builtin b,xs,a⟩)::l) fr h=Jv τ call kp k l (fr.lay t v) J:=by
 simp only[Jv,F9,Ju,c,d];rw[Fr.bB e]
def Aaz {fr:Fr} {h:Y} {x:BU} {v:Aa} (a:ev τ fr x=I v):Ch τ fr h (.move x)=I (v,h):=by simp only[Ch,a,CN]
def Pv {fr:Fr} {h:Y} {x:BU} {v:Aa} (a:ev τ fr x=I v):Ch τ fr h (.assign x)=I (v,h):=by simp only[Ch,a,CN]
def F1 {fr:Fr} {t:Tmp} {v:Aa}:ev τ (fr.lay t v) (.tmp t)=I v:=by show(fr.lay t v).tm.get t=_;rw[Fr.a6,Bi B]
def Aas {fr:Fr} {t j:Tmp} {v:Aa} (h:j≠t):ev τ (fr.lay t v) (.tmp j)=ev τ fr (.tmp j):=by show(fr.lay t v).tm.get j=fr.tm.get j;rw[Fr.a6,Bm h]
end
def S0:A9:=⟨λ_=>Z,λ_=>Z,λ_=>Z,λ_=>Z,λ_=>Z⟩
section
variable{P:AN} {τ:Bb}
structure YB (τ:Bb) (fc:Au) (fn:BC) (A0 A1:Array C0) (ts tsl t3:Ai) (o:Nat):Prop where
 get:τ.fn.get fc=I fn
 body:∃i0 i1,fn.body=I (.seq (.region i0 A0 Ah) (.seq (.region i1 A1 Ah) .ret))
 nt:fn.ntmps=8
 rs:fn.results.toList=[.tmp 2]
 a0:A0.toList.map keyOf=[(I 2,.assign (.const (.int .i64 0)))]
 g0:(A0.toList.all λo=>o.guard.isNone&&Ny o.op)=Ag
 a1:A1.toList.map keyOf=[(I 3,.move (.tmp 0)),(I 4,.nilCheck (.tmp 3)),(I 5,.fieldAddr ts (.tmp 4) 1),(I 6,.load tsl (.tmp 5)),(I 7,.call ⟨.builtin .cap,#[.tmp 6],#[tsl]⟩),(I 2,.assign (.tmp 7))]
 g1:(A1.toList.all λo=>o.guard.isNone&&Ny o.op)=Ag
 fl:∃fs fl i2,τ.ds.get ts=I (.struct fs)/\fs.toList[1]?=I fl/\τ.aj.get fl.type=I i2/\i2.size≠0/\fl.offset=o
 sl:∃e,τ.ds.get tsl=I (.slice e)
def Ahv {l:Au} {fn:BC} {D w:Array C0} {K s t3:Ai} {o:Nat} (a:YB τ l fn D w K s t3 o) {lo:Nat} {c:T Aa} {x:Bool} {g:Nat}
 (hb:h.t.get id=I (.cells c n e lo U x)) (M:c.get o=I v) (N:v=.slice Z 0 g\/∃b f len,v=.slice (I ⟨b,f,I 0⟩) len g) (L m:Nat) (k kp:Aa->Y->RR):
 B8 τ S0 L (m+1) (.func l) [AG id 0] h k kp=k (.int .i64 (AQ g)) h:=by
 obtain⟨O,E,P⟩:=a.body;obtain⟨fs,u,Q,f1,f2,f3,f4,f5⟩:=a.fl;obtain⟨te,y⟩:=a.sl;have R:GA [AG id 0] fn.ntmps=I ⟨T.laid [AG id 0] 0 .nil,8,[]⟩:=by rw[a.nt];rfl
 have h0:B8 τ S0 L (m+1) (.func l) [AG id 0] h k kp=DY τ S0 (B8 τ S0 L m) L l [AG id 0] h k kp:=rfl;rw[h0];unfold DY;simp only[a.get,P,R]
 let f0:Fr:=⟨T.laid [AG id 0] 0 .nil,8,[]⟩
 have S:ev τ f0 (.tmp 0)=I (AG id 0):=by
  show(T.laid [AG id 0] 0 .nil).get 0=_;rw[T.an];rfl
 generalize V:(Kt.mk _ _ _ _:Kt)=d;have W:d.r=λfr h=>Iw τ S0.dv fn.results.toList fr k fr.ds h:=by rw[←V]
 show B7 τ (B8 τ S0 L m) L Z (.region O D Ah) {n:=λfr h=>B7 τ (B8 τ S0 L m) L Z (.seq (.region E w Ah) .ret) d fr h,x:=d.x,r:=d.r,p:=d.p} f0 h=_;rw[Kx a.g0,a.a0];refine(GI (v:=.int .i64 0) (J:=h) B (by exact Pv B) (show 2<8 by decide)).trans ?_
 let F:Fr:=f0.lay 2 (.int .i64 0)
 show B7 τ (B8 τ S0 L m) L Z (.region E w Ah) {n:=λfr h=>B7 τ (B8 τ S0 L m) L Z .ret d fr h,x:=d.x,r:=d.r,p:=d.p} F h=_;rw[Kx a.g1,a.a1];refine(GI (v:=AG id 0) (J:=h) B (by exact Aaz ((Aas (by decide)).trans S)) (show 3<8 by decide)).trans ?_
 let z:Fr:=F.lay 3 (AG id 0)
 refine(GI (v:=AG id 0) (J:=h) B (by
  have q:ev τ z (.tmp 3)=I (AG id 0):=F1;show Ch τ z h _=_;simp only[Ch,q,AG]) (show 4<8 by decide)).trans ?_
 let A:Fr:=z.lay 4 (AG id 0)
 refine(GI (v:=AG id (0+u.offset)) (J:=h) B (by
  have i:ev τ A (.tmp 4)=I (AG id 0):=F1;have j:Am Q.size 0=false:=Bool.eq_false_iff.2 λX=>f4 (Af X);show Ch τ A h _=_;simp only[Ch,i,AG,GM,f1,f2,f3,j,I0,CN]) (show 5<8 by decide)).trans ?_
 let C:Fr:=A.lay 5 (AG id (0+u.offset))
 refine(GI (v:=v) (J:=h) B (by
  have i:ev τ C (.tmp 5)=I (AG id (0+u.offset)):=F1;have j:Bw τ s h id (0+u.offset)=I v:=by
   simp only[Bw,hb,y,J5,I0];rw[Ba,f5];exact M
  show Ch τ C h _=_;simp only[Ch,i,AG,j,CN]) (show 6<8 by decide)).trans ?_
 let H:Fr:=C.lay 6 v
 refine(R7 (vs:=[v]) (v:=.int .i64 (AQ g)) (J:=h) (by
  have i:ev τ H (.tmp 6)=I v:=F1;show O8 τ H [.tmp 6]=_;simp only[O8,i]) (by
  have j:ZM τ [s] [v]=I (.int .i64 (AQ g)):=by
   rcases N with rfl|⟨b,f,len,rfl⟩
   .simp only[ZM,y]
   .simp only[ZM,y]
  show Bx τ .cap [s] [v] h=_;simp only[Bx,j]) (show 7<8 by decide)).trans ?_
 refine(GI (v:=.int .i64 (AQ g)) (J:=h) B (by exact Pv F1) (show 2<8 by decide)).trans ?_;show d.r _ h=_;rw[W];show Iw τ S0.dv fn.results.toList _ k [] h=_;rw[a.rs];have q:∀fr:Fr,(fr.lay 2 (.int .i64 (AQ g))).tm.get 2=I (.int .i64 (AQ g)):=λfr=>by rw[Fr.a6,Bi B]
 simp only[Iw,Ng,q,Ff]
structure Agd (τ:Bb) (A:Array C0) (fc:Au) (tb tc td:Tmp) (t3:Ai):Prop where
 a:∃tys,A.toList.map keyOf=[(I tc,.call ⟨.value (.func fc),#[.tmp tb],tys⟩),(I td,.binOp .eql t3 (.tmp tc) (.const (.int .i64 0)) t3)]
 g:(A.toList.all λo=>o.guard.isNone&&Ny o.op)=Ag
 ne:tc≠td
def XX (T:BM P τ) (aq:JX P τ S0) {W:Au} {fn:BC} {A0 A1 A:Array C0} {ts ar t3 t3':Ai} {o:Nat} {L r y:Tmp} (hf:YB τ W fn A0 A1 ts ar t3 o) (hr:Agd τ A W L r y t3'):
 J1 P τ (HG L r y o) (.region j A Ah):=by
 intro ρ h Ec h0 J a w st m K outs X;unfold HG at m;split at m
 case h_2=>cases m
 rename_i id ai;split at m
 case h_2=>cases m
 rename_i c n e lo U x hb;obtain⟨au,ha⟩:=hr.a;have aj:∀(b:Bool) (v:Aa) (D:Nat) (O:Ev.T Aa),r<h.sz->y<h.sz->O.get o=I v->(v=.slice Z 0 D\/∃b f len,v=.slice (I ⟨b,f,I 0⟩) len D)->Am D 0=b->
  (∀pl,ρ id=I pl->BR P ρ pl w (.cells O n e lo U x))->K.n ⟨(UT h.tm r).ins y (.bool b),h.sz,h.ds⟩ h0=I outs->(Code.region j A Ah).wpIn (Fw Z) 0 P (QK P τ ρ w h0 K outs) a w:=by
  intro b v D O Q R k hc av aw X
  let s:Y:=⟨h0.t.ins id (.cells O n e lo U x),h0.nx,.no⟩
  have ax:s.t.get id=I (.cells O n e lo U x):=Ev.T.ao _ _ _;have ay:C5 P τ ρ s w:=by
   refine⟨⟨st.hk.1.fresh,λi pl hb' E M=>?_,st.hk.1.aC,λi j pi pj aa E ej N ak al=>?_,st.hk.1.aS⟩,st.hk.2⟩
   .have M:(h0.t.ins id _).get i=I hb':=M
    rw[Ev.T.dA] at M;by_cases d:i=id
    .rw[Bi d] at M;cases M;subst d;exact aw pl E
    .rw[Bm d] at M;exact st.hk.1.hr i pl hb' E M
   .have N:(h0.t.ins id _).get i=I aa:=N
    rw[Ev.T.dA] at N;by_cases d:i=id
    .rw[Bi d] at N;cases N;subst d
     have:=st.hk.1.ord i j pi pj _ E ej hb ak al;cases this
    .rw[Bm d] at N;exact st.hk.1.ord i j pi pj aa E ej N ak al
  have am:=JL T aq (Va T S0) (λc hc=>J6 T hc) 5 3
  let f1:Fr:=h.lay r (.int .i64 (AQ D))
  let f2:Fr:=f1.lay y (.bool b)
  have az:B7 τ (B8 τ S0 5 3) 5 Z (.region j A Ah) Vj h s=I [.aE f2 s]:=by
   rw[Kx hr.g,ha];have g1:ev τ h (.tmp L)=I (AG id 0):=ai;have a0:Jv τ (B8 τ S0 5 3) Vj.p Vj.n [(I r,.call ⟨.value (.func W),#[.tmp L],au⟩),(I y,.binOp .eql t3' (.tmp r) (.const (.int .i64 0)) t3')] h s=
    Jv τ (B8 τ S0 5 3) Vj.p Vj.n [(I y,.binOp .eql t3' (.tmp r) (.const (.int .i64 0)) t3')] f1 s:=by
    have a2:O8 τ h (#[Operand.tmp L]:Array BU).toList=I [AG id 0]:=by
     show O8 τ h [.tmp L]=_;simp only[O8,g1]
    rw[Jv];simp only[F9,Ju,a2];show B8 τ S0 5 (2+1) (.func W) ([]++[AG id 0]++[]) s _ _=_;have:([]:AH)++[AG id 0]++[]=[AG id 0]:=rfl;rw[this,Ahv hf ax k hc];rw[Fr.bB Q]
   rw[a0];refine(GI (v:=.bool b) (J:=s) B (by
    have q:ev τ f1 (.tmp r)=I (.int .i64 (AQ D)):=F1;have q':Jo τ .eql t3' (.tmp r) (.const (.int .i64 0)) (.int .i64 (AQ D)) (.int .i64 0)=I (.bool (Am D 0)):=rfl;have a3:ev τ f1 (.const (.int .i64 0))=I (.int .i64 0):=rfl;show Ch τ f1 s _=_;simp only[Ch,q,a3,q',CN,av]) (by exact R)).trans ?_
   rfl
  refine wpIn_mono (GP T am (J6 T am) 5 (.region j A Ah) (by intro d;cases d) (ro:=Z) (ro':=Z) (⟨ay,st.aF,st.ds⟩:St P τ ρ h s a w) trivial az) λen a1 w1 hq=>?_;obtain⟨ae,fr1,h1,o1,k1,k2,k3,F⟩:=hq;cases en with
  |
   normal=>
   cases F;have:=List.mem_singleton.1 (k3 (List.mem_singleton.2 rfl));cases this;have H:=k2.br;have a4:ae=ρ:=by
    funext i;rcases A8 i h0.nx with a5|an
    .exact H.ext i a5
    .rw[k1.hk.1.fresh i an,st.hk.1.fresh i an]
   subst a4;have ao:∀b,b<w.heap.size->w1.heap[b]?=w.heap[b]?:=λb hb=>H.ae b hb λ_ _ d=>d.elim;have a6:C5 P τ ae h0 w1:=st.hk.grow H.size ao;refine⟨ae,⟨(UT h.tm r).ins y (.bool b),h.sz,h.ds⟩,h0,outs,⟨a6,⟨k1.aF.1,λt v k=>?_⟩,k1.ds⟩,⟨⟨λ_ _=>rfl,H.size,λb hb _=>ao b hb,λi pl aa E=>(by rw[st.hk.1.fresh i aa] at E;cases E),Ae _,H.os,H.out,H.tape,H.drawn⟩,AF.refl _⟩,λ_ hx=>hx,X⟩;have k:((UT h.tm r).ins y (.bool b)).get t=I v:=k;refine k1.aF.2 t v ?_;show(f1.lay y (.bool b)).tm.get t=I v;rw[Ev.T.dA] at k;rw[Fr.a6];by_cases ht:t=y
   .rw[Bi ht] at k⊢;exact k
   .rw[Bm ht] at k⊢
    rw[V8] at k;split at k
    .cases k
    .rename_i d
     rw[Fr.a6,Bm d];exact k
  |exit id=>cases F
  |ret=>cases F
  |panic ch=>obtain⟨_,_,_,_,F⟩:=F;cases F
  |goto l=>exact F.elim
  |outgrown=>exact F.elim
 split at m
 .rename_i k
  obtain⟨S,m⟩:=C1 m;obtain⟨Q,R⟩:=Dh S;cases m;exact aj Ag _ 0 c (by rwa [AK] at Q) (by rwa [AK] at R) k (.inl B) B (λpl e=>st.hk.1.hr id pl _ e hb) X
 .rename_i a7 len cap k
  obtain⟨S,m⟩:=C1 m;obtain⟨S,R⟩:=Dh S;obtain⟨q0,Q⟩:=Dh S;have q0:=Ac q0;cases m;have a8:∃pl,ρ id=I pl:=by
   obtain⟨v',_,s⟩:=st.aF.2 L _ ai;cases s with|ptr e=>exact⟨_,e⟩
  obtain⟨pl,ap⟩:=a8;obtain⟨C,fz,r1,r2,r3,r4,r5,r6⟩:=st.hk.1.hr id pl _ ap hb;obtain⟨ro,v',rv,rr⟩:=r4 o _ k;obtain⟨af,ag,ab⟩:=a7;generalize a9:v'=z at rr;cases rr with|@slice _ _ _ _ _ ad o' e1 e2=>
  refine aj Ah (.slice (I ⟨af,ag,I 0⟩) len (cap+Hl ab ad)) (cap+Hl ab ad) (c.ins o (.slice (I ⟨af,ag,I 0⟩) len (cap+Hl ab ad))) (by rwa [AK] at Q) (by rwa [AK] at R) (Ev.T.ao _ _ _) (.inr ⟨_,_,_,B⟩) (Bool.eq_false_iff.2 λd=>by have:=Af d;omega) (λpl' e=>?_) X;rw[ap] at e;cases e;refine⟨C,fz,r1,r2,r3,λi u V=>?_,r5,r6⟩;rw[Ev.T.dA] at V;by_cases ah:i=o
  .rw[Bi ah] at V;cases V;subst ah
   refine⟨ro,_,rv,?_⟩;rw[a9];have:=VR.slice (ρ:=ρ) (id:=af) (off:=ag) (sp:=I 0) (len:=len) (cap:=cap+Hl ab ad) (o':=o') e1 (λd=>e2 (by simp[Hl] at d⊢;omega));simpa[Hl] using this
  .rw[Bm ah] at V;exact r4 i u V
 .cases m
end
def Agn {a b:Int} (h:Aeh a b=Ag):a=b:=by
 unfold Aeh at h;split at h
 .rw[Af h]
 .rw[Af h]
 .cases h
def Ahf {a b:Option Nat} (h:Aep a b=Ag):a=b:=by
 unfold Aep at h;split at h
 .rfl
 .rw[Af h]
 .cases h
def Xw {a:Option Nat} (h:isO a b=Ag):a=I b:=by
 cases a with
 |none=>cases h
 |some x=>rw[Af h]
def Ain {a b:Bd} (h:Gp a.data.toList b.data.toList=Ag):a=b:=by
 rw[J0] at h;have:=eq_of_beq h;obtain⟨⟨a⟩⟩:=a;obtain⟨⟨b⟩⟩:=b;simp at this;rw[this]
def F0 {f:Aa->Aa->Bool} (d:∀a b e,f a b=Ag->VR ρ b e->VR FS a e):∀{c l l':AH},Ln f c l=Ag->LR ρ l l'->LR FS c l'
 |[],[],_,_,.nil=>.nil
 |
  a::c,b::l,_,h,.cons hb g=>by
  simp only[Ln,An] at h;exact .cons (d a b _ h.1 hb) (F0 d h.2 g)
 |[],_::_,_,h,_=>by cases h
 |_::_,[],_,h,_=>by cases h
def Ks {m:Nat->Option Nat} (f:∀i j pl,m i=I j->ρ j=I pl->FS i=I pl):∀(n:Nat) (e v v':Aa),K9 m n e v=Ag->VR ρ v v'->VR FS e v':=by
 intro n
 induction n with
 |zero=>intro e v v' h;cases h
 |
  succ n d=>
  intro e v v' h g;unfold K9 at h;split at h<;>(try simp only[An] at h)<;>first|(cases h;done)|(
   cases g
   first
    |(constructor;done)
    |exact .agg (F0 (λa b c=>d a b c) h Gs)
    |exact .tuple (F0 (λa b c=>d a b c) h Gs)
    |exact .map (f _ _ _ (Xw h) Gs)
    |(cases eq_of_beq h;exact .bool _)
    |(rw[Ain h];exact .string _)
    |(rw[Ly h.1,Agn h.2];exact .int _ _)
    |(rw[Af h.1,Af h.2];exact .az _ _)
    |(cases Af h.2;exact .ptr (f _ _ _ (Xw h.1) Gs))
    |(cases Af h.1;exact .iface (d _ _ _ h.2 Gs))
    |(cases ‹Yw _ _ _›;cases Af h.1.1;exact .func (.func _) (F0 (λa b c=>d a b c) h.1.2 Gs) (F0 (λa b c=>d a b c) h.2 Gs))
    |(
     obtain⟨⟨⟨⟨k,l⟩,o⟩,p⟩,q⟩:=h;cases Af l;cases Ahf o;cases Af p;cases Af q;exact .slice (f _ _ _ (Xw k) Gs) Gs))
def JI {f:Aa->Option Aa} (d:∀a b e,f a=I b->VR FS a e->VR ρ b e):∀{c l l':AH},PI f c=I l->LR FS c l'->LR ρ l l'
 |[],l,_,h,.nil=>by simp only[PI,Option.some.injEq] at h;subst h;exact .nil
 |
  a::c,l,_,h,.cons hb g=>by
  simp only[PI] at h;split at h
  case h_2=>cases h
  rename_i u r i j;cases h;exact .cons (d a u _ i hb) (JI d j g)
def L8 {m:Nat->Option Nat} (f:∀i j pl,m i=I j->FS i=I pl->ρ j=I pl):∀(n:Nat) (e v v':Aa),Qs m n e=I v->VR FS e v'->VR ρ v v':=by
 intro n
 induction n with
 |zero=>intro e v v' h;cases h
 |
  succ n d=>
  intro e v v' h g;unfold Qs at h;split at h<;>first|(cases h;cases g;constructor;done)|(
   split at h<;>first|(cases h;done)|(
    cases h;cases g
    first
     |exact .ptr (f _ _ _ Gs Gs)
     |exact .slice (f _ _ _ Gs Gs) Gs
     |exact .map (f _ _ _ Gs Gs)
     |exact .iface (d _ _ _ Gs Gs)
     |exact .agg (JI (λa b c=>d a b c) Gs Gs)
     |exact .tuple (JI (λa b c=>d a b c) Gs Gs)
     |(cases ‹Yw _ _ _›;exact .func (.func _) (JI (λa b c=>d a b c) Gs Gs) (JI (λa b c=>d a b c) Gs Gs))))|cases h
def LQ {f:Aa->Aa->Bool} {c:T Aa}:∀{l:AH} {i:Nat},Kh f c l i=Ag->∀(j:Nat) b,l[j]?=I b->∃v,c.get (i+j)=I v/\f b v=Ag
 |[],_,_,j,b,e=>by simp at e
 |
  a::l,i,h,j,b,e=>by
  simp only[Kh,An] at h;cases j with
  |
   zero=>
   cases e;obtain⟨d,_⟩:=h;split at d
   case h_2=>cases d
   rename_i v g;exact⟨v,g,d⟩
  |
   succ j=>
   obtain⟨v,d,k⟩:=LQ h.2 j b (by simpa using e);refine⟨v,?_,k⟩;rw[←d];congr 1;omega
def Pr {f:Aa->Aa->Bool} (c:∀a b e,f a b=Ag->VR ρ b e->VR FS a e):∀{d l l':List Ap},TL f d l=Ag->ER ρ l l'->ER FS d l'
 |[],[],_,_,.nil=>.nil
 |
  a::d,b::l,_,h,.cons g i j k=>by
  simp only[TL,An] at h;obtain⟨⟨⟨m,n⟩,o⟩,p⟩:=h;exact .cons (c _ _ _ m g) (c _ _ _ n i) ((Af o).trans j) (Pr c p k)
 |[],_::_,_,h,_=>by cases h
 |_::_,[],_,h,_=>by cases h
def Tn {m:Nat->Option Nat} (b:∀i j pl,m i=I j->FS i=I pl->ρ j=I pl):∀{c l l':List Ap},Acm m c=I l->ER FS c l'->ER ρ l l'
 |[],l,_,h,.nil=>by simp only[Acm,Option.some.injEq] at h;subst h;exact .nil
 |
  a::c,l,_,h,.cons d e f g=>by
  simp only[Acm] at h;split at h
  case h_2=>cases h
  rename_i k v r n o p;cases h;exact .cons (L8 b 6 _ _ _ n d) (L8 b 6 _ _ _ o e) f (Tn b p g)
def We {f:Aa->Option Aa}:∀{b l:AH},PI f b=I l->l.length=b.length/\∀(i:Nat) v,l[i]?=I v->∃c,b[i]?=I c/\f c=I v
 |[],l,h=>by simp only[PI,Option.some.injEq] at h;subst h;exact⟨B,λi v d=>by simp at d⟩
 |
  a::b,l,h=>by
  simp only[PI] at h;split at h
  case h_2=>cases h
  rename_i u r e g;cases h;obtain⟨j,k⟩:=We g;refine⟨by simp[j],λi v d=>?_⟩;cases i with
  |zero=>cases d;exact⟨a,B,e⟩
  |succ i=>obtain⟨c,m,n⟩:=k i v (by simpa using d);exact⟨c,by simpa using m,n⟩
section
variable{P:AN} {τ:Bb} {w:AM}
def Rh {m:Nat->Option Nat} (r:∀i j pl,m i=I j->ρ j=I pl->FS i=I pl) {b:CB} (h:Hv m b (I hb)=Ag) (s:BR P ρ pl w hb):BR P FS pl w b.oB:=by
 cases b with
 |
  cells l e lo U x=>
  cases hb<;>simp only[Hv] at h<;>first
   |(cases h;done)
   |skip
  rename_i c n Q R S x';simp only[An] at h;obtain⟨⟨⟨⟨⟨f,g⟩,k⟩,o⟩,t⟩,y⟩:=h;have f:=Af f;have g:=Af g;have k:=Af k;have o:=Af o;subst f;subst g;subst k;subst o;obtain⟨C,z,p,q,A,D,E,F⟩:=s;refine⟨C,z,p,q,A,λi v d=>?_,E,λH=>F ?_⟩
  .rw[T.an] at d
   by_cases U:0<=i/\i<0+l.length
   .rw[Bi U] at d
    simp only[DL] at d;obtain⟨u,K,L⟩:=LQ y i v d;obtain⟨_,v',M,N⟩:=D i u (by rw[←K];congr 1;omega);exact⟨G,v',M,Ks r 6 v u v' L N⟩
   .rw[Bm U,T.get_nil] at d;cases d
  .subst H;simpa using t
 |
  map es V=>
  cases hb<;>simp only[Hv] at h<;>first
   |(cases h;done)
   |skip
  rename_i C3 W;simp only[An] at h;have f:=Af h.1;subst f;obtain⟨es2,p,q⟩:=s;exact⟨es2,p,Pr (λa b O=>Ks r 6 a b O) h.2 q⟩
def Z4 {m:Nat->Option Nat} (k:∀i j pl,m i=I j->FS i=I pl->ρ j=I pl) {b c:CB} (h:Acs m b=I c) (n:BR P FS pl w b.oB):BR P ρ pl w c.oB:=by
 cases b with
 |
  cells l e lo U x=>
  simp only[Acs] at h;split at h
  case h_2=>cases h
  rename_i l' q;cases h;obtain⟨d,r⟩:=We q;obtain⟨C,s,f,g,t,u,y,z⟩:=n;refine⟨C,s,f,by rw[d];exact g,λi U=>by rw[d];exact t i U,λi v a=>?_,y,λA=>by rw[d];exact z A⟩;rw[T.an] at a;by_cases o:0<=i/\i<0+l'.length
  .rw[Bi o] at a
   simp only[DL] at a;obtain⟨p,D,E⟩:=r i v a;obtain⟨L,v',F,H⟩:=u i p (by rw[T.an,Bi G];simpa using D);exact⟨G,v',F,L8 k 6 p v v' E H⟩
  .rw[Bm o,T.get_nil] at a;cases a
 |
  map es M=>
  simp only[Acs] at h;split at h
  case h_2=>cases h
  rename_i C3 K;cases h;obtain⟨es2,f,g⟩:=n;exact⟨es2,f,Tn k K g⟩
def CB.live (b:CB):b.oB.live=true:=by cases b<;>rfl
def Jz:∀(l:List CB) (i:Nat) (t:T HB) (j:Nat),(Nj l i t).get j=if i<=j/\j<i+l.length then(l[j-i]?).map CB.oB else t.get j
 |[],i,t,j=>by rw[Bm (by simp)];rfl
 |
  b::l,i,t,j=>by
  show(Nj l (i+1) (t.ins i b.oB)).get j=_;rw[Jz l (i+1)];by_cases h:i<=j/\j<i+(b::l).length
  .rw[Bi h]
   simp only[AO] at h;by_cases e:j=i
   .subst e
    rw[Bm G,T.ao];simp
   .rw[Bi G]
    obtain⟨d,rfl⟩:∃d,j=i+1+d:=⟨j-i-1,G⟩;rw[show i+1+d-(i+1)=d by omega,show i+1+d-i=d+1 by omega];rfl
  .rw[Bm h]
   simp only[AO] at h;rw[Bm G,T.aP _ _ G]
def M6 {m:Nat->Option Nat} {t:T HB}:∀{l:List CB} {i:Nat},Om m t l i=Ag->∀(j:Nat) b,l[j]?=I b->∃k,m (i+j)=I k/\Hv m b (t.get k)=Ag
 |[],_,_,j,b,d=>by simp at d
 |
  a::l,i,h,j,b,d=>by
  simp only[Om,An] at h;cases j with
  |
   zero=>
   cases d;obtain⟨c,_⟩:=h;split at c
   case h_2=>cases c
   rename_i k e;exact⟨k,e,c⟩
  |
   succ j=>
   obtain⟨k,c,f⟩:=M6 h.2 j b (by simpa using d);exact⟨k,by rw[←c];congr 1;omega,f⟩
def M0 {lo:Nat}:∀{l:Bo},LX lo U l=Ag->(∀x∈l,lo<=x/\x<U)/\l.Nodup
 |[],_=>⟨λx b=>(by cases b),Jg⟩
 |
  a::l,h=>by
  simp only[LX,An] at h;obtain⟨⟨⟨c,d⟩,e⟩,f⟩:=h;obtain⟨g,i⟩:=M0 f;refine⟨λx b=>?_,List.nodup_cons.2 ⟨λj=>?_,i⟩⟩
  .rcases List.mem_cons.1 b with rfl|b
   .exact⟨Ac c,by rwa [AK] at d⟩
   .exact g x b
  .have:=List.all_eq_true.1 e a j
   simp at this
end
section
variable{P:AN} {τ:Bb}
def App (τ:Bb) (M:E2):Y:=⟨Nj M.outs (τ.ng+M.ins.length) (Ia τ M).t,τ.ng+M.ins.length+M.outs.length,.no⟩
structure JZ (P:AN) (τ:Bb) (f:Au) (M:E2):Prop where
 go:∀(ρ:Ren) (w:AM) (AP:AH),C5 P τ ρ (Ia τ M) w->LR ρ M.args AP->
 Hk P (callFunc f ⟨AP⟩) w λe w'=>∃C2 v',e=.returned v'/\VR C2 M.res v'/\C5 P τ C2 (App τ M) w'/\Mj ρ w (τ.ng+M.ins.length) C2 w' (τ.ng+M.ins.length+M.outs.length) .no
def Wg:∀(l:List (Nat×CB)) (g:Nat) (hb:HB),(ZV l).get g=I hb->∃b,(g,b)∈l/\hb=b.oB
 |[],g,hb,h=>by cases h
 |
  (a,b)::l,g,hb,h=>by
  have h:((ZV l).ins a b.oB).get g=I hb:=h;rw[T.dA] at h;by_cases e:g=a
  .rw[Bi e] at h;cases h;subst e;exact⟨b,Av,B⟩
  .rw[Bm e] at h
   obtain⟨c,d,f⟩:=Wg l g hb h;exact⟨c,Az _ d,f⟩
def Re {c:Nat} {m:Nat->Option Nat} {t:T HB}:∀{l:List (Nat×CB)},QL c m t l=Ag->∀g b,(g,b)∈l->g<c/\Hv m b (t.get g)=Ag
 |[],_,g,b,h=>by cases h
 |
  (d,e)::l,h,g,b,a=>by
  simp only[QL,An] at h;rcases List.mem_cons.1 a with a|a
  .cases a;exact⟨by have:=h.1.1;rwa [AK] at this,h.1.2⟩
  .exact Re h.2 g b a
def GF {a:Nat} {pl:Bo} (h:i<a):De a pl i=I i:=by
 unfold De;have:AD i a=true:=by rw[AK];exact h
 rw[this];rfl
def HU {a:Nat} {pl:Bo} (h:¬i<a):De a pl i=pl[i-a]?:=by
 unfold De;have:AD i a=false:=Bool.eq_false_iff.2 λb=>by rw[AK] at b;exact h b
 rw[this];rfl
def Abn (o:C5 P τ ρ h w) {M:E2} {pl:Bo} (ag:pl.length=M.ins.length) (N:LX τ.ng h.nx pl=Ag) (hb:Om (De τ.ng pl) h.t M.ins τ.ng=Ag) (O:QL τ.ng (De τ.ng pl) h.t M.gs=Ag):
 C5 P τ (λi=>(De τ.ng pl i).bind ρ) (Ia τ M) w:=by
 obtain⟨f1,f2⟩:=M0 N;have Q:∀i j pl',De τ.ng pl i=I j->ρ j=I pl'->(λi=>(De τ.ng pl i).bind ρ) i=I pl':=λi j pl' d l=>by simp only[d,CC,l]
 have s:∀i hb',(Ia τ M).t.get i=I hb'->∃b j,hb'=b.oB/\De τ.ng pl i=I j/\Hv (De τ.ng pl) b (h.t.get j)=true:=by
  intro i hb' e;have e:(Nj M.ins τ.ng (ZV M.gs)).get i=I hb':=e;rw[Jz] at e;by_cases U:τ.ng<=i/\i<τ.ng+M.ins.length
  .rw[Bi U] at e
   obtain⟨b,R,rfl⟩:=Option.map_eq_some_iff.1 e;obtain⟨k,p,u⟩:=M6 hb (i-τ.ng) b R;exact⟨b,k,B,by rw[←p];congr 1;omega,u⟩
  .rw[Bm U] at e
   obtain⟨b,b1,rfl⟩:=Wg _ _ _ e;obtain⟨S,T⟩:=Re O i b b1;exact⟨b,i,B,GF S,T⟩
 have v:∀b j,Hv (De τ.ng pl) b (h.t.get j)=Ag->∃hb',h.t.get j=I hb'/\hb'.live=true:=by
  intro b j q;cases C:h.t.get j with
  |none=>rw[C] at q;cases b<;>cases q
  |
   some hb'=>
   refine⟨hb',B,?_⟩;rw[C] at q;cases hb'<;>first
    |rfl
    |(cases b<;>cases q)
 refine⟨⟨λi U=>?_,λi pl' hb' e V=>?_,λi pl' e=>?_,λi j x y U n z W ah D=>?_,λg E=>?_⟩,GW _ _⟩
 .have U:τ.ng+M.ins.length<=i:=U
  show(De τ.ng pl i).bind ρ=Z;rw[HU G,CD G];rfl
 .obtain⟨b,j,rfl,d,l⟩:=s i hb' V
  have e:(De τ.ng pl i).bind ρ=I pl':=e;rw[d] at e;simp only[CC] at e;obtain⟨A,r,_⟩:=v b j l;rw[r] at l;exact Rh Q l (o.1.hr j pl' A e r)
 .have e:(De τ.ng pl i).bind ρ=I pl':=e
  obtain⟨j,_,l⟩:=Option.bind_eq_some_iff.1 e;exact o.1.aC j pl' l
 .exfalso
  obtain⟨b,a,rfl,d,l⟩:=s i U W;obtain⟨A,r,F⟩:=v b a l;have n:(De τ.ng pl i).bind ρ=I x:=n;have z:(De τ.ng pl j).bind ρ=I y:=z;rw[d] at n;simp only[CC] at n;obtain⟨c,f,H⟩:=Option.bind_eq_some_iff.1 z;rcases FD a c with X|aa|ab
  .have:=o.1.ord a c x y A n H r X D
   rw[this] at F;cases F
  .subst aa
   by_cases K:i<τ.ng
   .rw[GF K] at d;cases d
    by_cases m:j<τ.ng
    .rw[GF m] at f;cases f;omega
    .rw[HU m] at f
     have:=(f1 i (AZ f)).1;omega
   .have m:¬j<τ.ng:=G
    rw[HU K] at d;rw[HU m] at f;have l1:=(List.getElem?_eq_some_iff.1 d).1;have:=(Ajk l1 f2).1 (d.trans f.symm);omega
  .by_cases m:j<τ.ng
   .rw[GF m] at f;cases f
    rw[GF (show i<τ.ng by omega)] at d;cases d;omega
   ·
    have ad:j-τ.ng<M.ins.length:=by
     rw[HU m] at f;have:=(List.getElem?_eq_some_iff.1 f).1;omega
    have ae:(Ia τ M).t.get j=I (M.ins[j-τ.ng]).oB:=by
     show(Nj M.ins τ.ng (ZV M.gs)).get j=_;rw[Jz,Bi G,Ab ad];rfl
    obtain⟨b',c',_,p,u⟩:=s j _ ae;rw[f] at p;cases p;obtain⟨af,k3,L⟩:=v b' c u;have:=o.1.ord c a y x af H n k3 ab D.symm;rw[this] at L;cases L
 .show(De τ.ng pl g).bind ρ=_
  rw[GF E];exact o.1.aS g E
def To {m:Nat->Option Nat}:∀{l l':List CB},U7 m l=I l'->l'.length=l.length/\∀(i:Nat) c,l'[i]?=I c->∃b,l[i]?=I b/\Acs m b=I c
 |[],l',h=>by simp only[U7,Option.some.injEq] at h;subst h;exact⟨B,λi c a=>by simp at a⟩
 |
  b::l,l',h=>by
  simp only[U7] at h;split at h
  case h_2=>cases h
  rename_i c r d e;cases h;obtain⟨f,g⟩:=To e;refine⟨by simp[f],λi j a=>?_⟩;cases i with
  |zero=>cases a;exact⟨b,B,d⟩
  |succ i=>obtain⟨k,n,o⟩:=g i j (by simpa using a);exact⟨k,by simpa using n,o⟩
def Pm {st:List (Nat×Nat)}:∀(n i:Nat) {l:Bo},L0 st i n=I l->l.length=n
 |0,i,l,h=>by simp only[L0,Option.some.injEq] at h;subst h;rfl
 |
  n+1,i,l,h=>by
  simp only[L0] at h;split at h
  case h_2=>cases h
  rename_i a r c b;cases h;simp[Pm n (i+1) b]
def Agr {M:E2} (hM:JZ P τ f M) (o:C5 P τ ρ h w) (hl:LR ρ args AP) (n:QG τ M args h=I (v,J)) (k kp:Aa->Y->RR) (outs:List EO) (ab:k v J=I outs):
 Hk P (callFunc f ⟨AP⟩) w (Ho P τ ρ w h k kp outs):=by
 unfold QG at n;split at n
 case h_2=>cases n
 rename_i pl ad;simp only[] at n;obtain⟨x,n⟩:=C1 n;obtain⟨x,q4⟩:=Dh x;obtain⟨x,q3⟩:=Dh x;obtain⟨q1,q2⟩:=Dh x;split at n
 case h_2=>cases n
 rename_i v0 bs hv ae;simp only[Option.some.injEq,Prod.mk.injEq] at n;obtain⟨rfl,rfl⟩:=n;have af:=Pm _ _ ad;have ag:=Abn o af q1 q3 q4;have ah:LR (λi=>(De τ.ng pl i).bind ρ) M.args AP:=F0 (λa b E=>Ks (λi j pl' d l=>by simp only[d,CC,l]) 6 a b E) q2 hl;refine(hM.go _ w AP ag ah).mono λe w' he=>?_;obtain⟨C2,v',rfl,g1,F,p⟩:=he;obtain⟨b1,b2⟩:=To ae;have R:∀b,b<w.heap.size->w'.heap[b]?=w.heap[b]?:=λb hb=>p.ae b hb λ_ _ m=>m.elim;have S:∀i pl',τ.ng+M.ins.length<=i->C2 i=I pl'->w.heap.size<=pl'.b:=λi pl' U e=>by
  rcases p.new i pl' U e with h|⟨_,_,m,_⟩
  .exact h
  .exact m.elim
 let y:Ren:=λi=>if i<h.nx then ρ i else if i<h.nx+M.outs.length then C2 (τ.ng+M.ins.length+(i-h.nx)) else Z
 have H:ρ.le y:=λi pl' e=>by
  have:i<h.nx:=BB λm=>by rw[o.1.fresh i m] at e;cases e
  show(if i<h.nx then ρ i else _)=_
  rw[Bi this];exact e
 have T:∀i j pl',XC (τ.ng+M.ins.length) M.outs.length (De τ.ng pl) h.nx i=I j->C2 i=I pl'->y j=I pl':=by
  intro i j pl' d l;unfold XC at d;by_cases U:i<τ.ng+M.ins.length
  .have K:AD i (τ.ng+M.ins.length)=true:=by rw[AK];exact U
   rw[K] at d;simp only[D1] at d;have s:=p.ext i U;rw[l] at s;have s:I pl'=(De τ.ng pl i).bind ρ:=s;rw[d] at s;simp only[CC] at s;exact H j pl' s.symm
  .have K:AD i (τ.ng+M.ins.length)=false:=Bool.eq_false_iff.2 λm=>by rw[AK] at m;exact U m
   rw[K] at d;simp only[I0] at d;by_cases V:i<τ.ng+M.ins.length+M.outs.length
   .have L:AD i (τ.ng+M.ins.length+M.outs.length)=true:=by rw[AK];exact V
    rw[L] at d;simp only[D1,Option.some.injEq] at d;subst d;show(if h.nx+(i-(τ.ng+M.ins.length))<h.nx then _ else if h.nx+(i-(τ.ng+M.ins.length))<h.nx+M.outs.length then C2 (τ.ng+M.ins.length+(h.nx+(i-(τ.ng+M.ins.length))-h.nx)) else Z)=_
    rw[Bm G,Bi G];rw[show τ.ng+M.ins.length+(h.nx+(i-(τ.ng+M.ins.length))-h.nx)=i by omega];exact l
   .have L:AD i (τ.ng+M.ins.length+M.outs.length)=false:=Bool.eq_false_iff.2 λm=>by rw[AK] at m;exact V m
    rw[L] at d;cases d
 have N:∀j,(Nj bs h.nx h.t).get j=if h.nx<=j/\j<h.nx+bs.length then(bs[j-h.nx]?).map CB.oB else h.t.get j:=λj=>Jz bs h.nx h.t j
 have u:∀i pl',y i=I pl'->(i<h.nx/\ρ i=I pl')\/(h.nx<=i/\i<h.nx+M.outs.length/\C2 (τ.ng+M.ins.length+(i-h.nx))=I pl'):=by
  intro i pl' e;have e:(if i<h.nx then ρ i else if i<h.nx+M.outs.length then C2 (τ.ng+M.ins.length+(i-h.nx)) else Z)=I pl':=e
  by_cases d:i<h.nx
  .rw[Bi d] at e;exact .inl ⟨d,e⟩
  .rw[Bm d] at e
   by_cases l:i<h.nx+M.outs.length
   .rw[Bi l] at e;exact .inr ⟨G,l,e⟩
   .rw[Bm l] at e;cases e
 have W:∀i,i<M.outs.length->∃b,M.outs[i]?=I b/\(App τ M).t.get (τ.ng+M.ins.length+i)=I b.oB:=λi U=>by
  refine⟨M.outs[i],Ab U,?_⟩;show(Nj M.outs (τ.ng+M.ins.length) (Ia τ M).t).get _=_;rw[Jz,Bi G,Ds,Ab U];rfl
 have ai:C5 P τ y ⟨Nj bs h.nx h.t,h.nx+M.outs.length,h.lo⟩ w':=by
  refine⟨⟨λi U=>?_,λi pl' hb e q=>?_,λi pl' e=>?_,λi j C z U ei X A aj aa=>?_,λg hg=>?_⟩,Ao o.2 (GW _ _)⟩
  .have U:h.nx+M.outs.length<=i:=U
   show(if i<h.nx then _ else if i<h.nx+M.outs.length then _ else Z)=Z
   rw[Bm G,Bm G]
  .have q:(Nj bs h.nx h.t).get i=I hb:=q
   rw[N] at q;rcases u i pl' e with⟨d,l⟩|⟨d,l,r⟩
   .rw[Bm G] at q
    exact(o.1.hr i pl' hb l q).mono H (R _ (o.1.aC i pl' l))
   .rw[Bi (by rw[b1];omega)] at q
    obtain⟨c,c1,rfl⟩:=Option.map_eq_some_iff.1 q;obtain⟨b,d1,d2⟩:=b2 _ c c1;obtain⟨E,d3,d4⟩:=W (i-h.nx) G;rw[d1] at d3;cases d3;exact Z4 T d2 (F.1.hr _ pl' _ r d4)
  .rcases u i pl' e with⟨d,l⟩|⟨d,l,r⟩
   .exact AC (o.1.aC i pl' l) p.size
   .exact F.1.aC _ pl' r
  .have A:(Nj bs h.nx h.t).get i=I U:=A
   rw[N] at A;rcases u i C ei with⟨d,l⟩|⟨d,l,r⟩
   .rw[Bm G] at A
    rcases u j z X with⟨O,D⟩|⟨O,D,Q⟩
    .exact o.1.ord i j C z U l D A aj aa
    .have:=S _ z G Q
     have:=o.1.aC i C l;omega
   .rcases u j z X with⟨O,D⟩|⟨O,D,Q⟩
    .omega
    .obtain⟨E,d3,d4⟩:=W (i-h.nx) G
     have:=F.1.ord _ _ C z _ r Q d4 G aa;rw[CB.live] at this;cases this
  .exact H _ _ (o.1.aS g hg)
 refine⟨y,v0,_,outs,L8 T 6 _ _ _ hv g1,ai,⟨⟨λi U=>?_,p.size,λb hb _=>R b hb,λi pl' U e=>?_,GW _ _,p.os,p.out,p.tape,p.drawn⟩,?_⟩,ab,λ_ hx=>hx⟩
 .show(if i<h.nx then ρ i else _)=_
  rw[Bi U]
 .rcases u i pl' e with⟨d,_⟩|⟨d,l,r⟩
  .omega
  .exact .inl (S _ pl' G r)
 .refine⟨GW _ _,WS.le_refl _,λi U _=>?_⟩
  show(Nj bs h.nx h.t).get i=_;rw[N,Bm G]
def Zb8 (P:AN) (τ:Bb) (M:E2) (a:Bo) (v:Aa) (h:Y):Prop:=h.lo.ag (τ.ng+M.ins.length)=Ag/\a.length=M.outs.length/\LX (τ.ng+M.ins.length) h.nx a=Ag/\K9 (De (τ.ng+M.ins.length) a) 6 M.res v=Ag/\∀i b,M.outs[i]?=I b->∃j e,De (τ.ng+M.ins.length) a (τ.ng+M.ins.length+i)=I j/\h.t.get j=I e/\e.live=Ag/\∀(ρ c:Ren) (d:Pl) (w:AM),(∀i j q,De (τ.ng+M.ins.length) a i=I j->ρ j=I q->c i=I q)->BR P ρ d w e->BR P c d w b.oB
def Zcq (K:C8 P τ call) {M:E2} {o:List EO} (L:call (.func f) M.args (Ia τ M) (λv h=>I [.val v h]) (λ_ _=>Z)=I o) (hu:∀v h,.val v h∈o->∃S,Zb8 P τ M S v h):JZ P τ f M:=by
 refine⟨λρ w N D hl=>?_⟩;have U:=K (.func f) (.func f) _ _ _ _ _ _ ρ w D (.func f) hl L;refine(show Hk P (callFunc f ⟨N⟩) w _ from U).mono λe w' hp=>?_;cases e with
 |outgrown=>exact hp.elim
 |panicked ch=>obtain⟨_,_,_,_,_,_,_,_,_,x,_⟩:=hp;cases x
 |
  returned v'=>
  obtain⟨l,v,h,o1,k1,k2,k3,k4,k5⟩:=hp;cases k4;obtain⟨S,q1,q2,q3,q4,s⟩:=hu v h (k5 (List.mem_singleton.2 rfl));obtain⟨f1,f2⟩:=M0 q3;have p:=k3.br;have E:∀O,O<τ.ng+M.ins.length->¬h.lo.has O:=λO y=>GO q1 y;have V:∀b,b<w.heap.size->w'.heap[b]?=w.heap[b]?:=λb x=>p.ae b x λO d hh e=>by
   have y:O<τ.ng+M.ins.length:=BB λJ=>by rw[D.1.fresh O J] at e;cases e
   exact absurd hh (E O y)
  have F:∀i d,τ.ng+M.ins.length<=i->l i=I d->w.heap.size<=d.b:=λi d k e=>by
   rcases p.new i d k e with J|⟨j,Q,hh,H,_⟩
   ·exact J
   ·have y:j<τ.ng+M.ins.length:=BB λJ=>by rw[D.1.fresh j J] at H;cases H
    exact absurd hh (E j y)
  let m:=De (τ.ng+M.ins.length) S
  let ρn:Ren:=λi=>(m i).bind l
  have hm:∀i j d,m i=I j->l j=I d->ρn i=I d:=λi j d h1 h2=>by show(m i).bind l=_;rw[h1];exact h2
  have z:∀i,i<τ.ng+M.ins.length->m i=I i:=λi k=>GF k;have u:∀i,¬i<τ.ng+M.ins.length->m i=S[i-(τ.ng+M.ins.length)]?:=λi k=>HU k;have s:∀i b,M.outs[i]?=I b->∃j x,m (τ.ng+M.ins.length+i)=I j/\h.t.get j=I x/\x.live=Ag/\∀(ρ X:Ren) (d:Pl) (w:AM),(∀i j q,m i=I j->ρ j=I q->X i=I q)->BR P ρ d w x->BR P X d w b.oB:=s;have A:∀i,(App τ M).t.get i=if τ.ng+M.ins.length<=i/\i<τ.ng+M.ins.length+M.outs.length then(M.outs[i-(τ.ng+M.ins.length)]?).map CB.oB else(Ia τ M).t.get i:=λi=>Jz _ _ _ _
  have r:∀i d,i<τ.ng+M.ins.length->ρn i=I d->ρ i=I d:=λi d k e=>by
   have e:(m i).bind l=I d:=e;rw[z i k] at e;simp only[CC] at e;rw[p.ext i k] at e;exact e
  have hle:ρ.le ρn:=λi d e=>by
   have k:i<τ.ng+M.ins.length:=BB λJ=>by rw[D.1.fresh i J] at e;cases e
   refine hm i i d (z i k) ?_;rw[p.ext i k];exact e
  have n:∀i d,¬i<τ.ng+M.ins.length->ρn i=I d->∃j,S[i-(τ.ng+M.ins.length)]?=I j/\l j=I d:=λi d k e=>by
   have e:(m i).bind l=I d:=e;rw[u i k] at e;exact Option.bind_eq_some_iff.1 e
  refine⟨ρn,v',rfl,Ks hm 6 _ _ _ q4 k1,⟨⟨λi k=>?_,λi d x e eH=>?_,λi d e=>?_,λi j pi Q k ei H R hij hbb=>?_,λg hg=>hle _ _ (D.1.aS g hg)⟩,by show τ.ng<=τ.ng+M.ins.length+M.outs.length;omega⟩,
   ⟨λi k=>?_,p.size,λb x _=>V b x,λi d k e=>?_,GW _ _,p.os,p.out,p.tape,p.drawn⟩⟩
  ·have k:τ.ng+M.ins.length+M.outs.length<=i:=k;show(m i).bind l=Z;rw[u i G,CD G];rfl
  ·rw[A] at eH;by_cases k:τ.ng+M.ins.length<=i/\i<τ.ng+M.ins.length+M.outs.length
   ·rw[if_pos k] at eH;obtain⟨b,b1,rfl⟩:=Option.map_eq_some_iff.1 eH;obtain⟨j,hb',j1,j2,_,j3⟩:=s _ b b1;have e:(m i).bind l=I d:=e;rw[show τ.ng+M.ins.length+(i-(τ.ng+M.ins.length))=i by omega] at j1;rw[j1] at e;exact j3 _ _ _ _ hm (k2.1.hr j d hb' e j2)
   ·rw[if_neg k] at eH;have hi':i<τ.ng+M.ins.length:=by
     refine BB λJ=>?_;have e:(m i).bind l=I d:=e;rw[u i G,CD G] at e;cases e
    have e':=r i d hi' e;exact(D.1.hr i d x e' eH).mono hle (V _ (D.1.aC i d e'))
  ·have e:(m i).bind l=I d:=e;obtain⟨j,_,h2⟩:=Option.bind_eq_some_iff.1 e;exact k2.1.aC j d h2
  ·rw[A] at R;by_cases hi1:i<τ.ng+M.ins.length
   ·rw[if_neg G] at R;have ei':=r i pi hi1 ei;by_cases C:j<τ.ng+M.ins.length
    ·exact D.1.ord i j pi Q k ei' (r j Q C H) R hij hbb
    ·obtain⟨c,K,ec⟩:=n j Q C H;have:=F c Q (f1 c (AZ K)).1 ec;have:=D.1.aC i pi ei';omega
   ·exfalso;have C:¬j<τ.ng+M.ins.length:=G;obtain⟨a,ha,ea⟩:=n i pi hi1 ei;obtain⟨c,K,ec⟩:=n j Q C H;have li:=(List.getElem?_eq_some_iff.1 ha).1;have lj:=(List.getElem?_eq_some_iff.1 K).1;obtain⟨a',ha',a1,a2,a4,_⟩:=s (i-(τ.ng+M.ins.length)) _ (Ab G);obtain⟨c',hc',c1,c2,c4,_⟩:=s (j-(τ.ng+M.ins.length)) _ (Ab G);rw[show τ.ng+M.ins.length+(i-(τ.ng+M.ins.length))=i by omega,u i hi1,ha] at a1;rw[show τ.ng+M.ins.length+(j-(τ.ng+M.ins.length))=j by omega,u j C,K] at c1;cases a1;cases c1;have:=k2.1.inj a c pi Q ha' hc' ea ec a2 c2 a4 c4 hbb;subst this;have:=(Ajk li f2).1 (ha.trans K.symm);omega
  ·show(m i).bind l=ρ i;rw[z i k];exact p.ext i k
  ·have k:¬i<τ.ng+M.ins.length:=Nat.not_lt.2 k;obtain⟨j,hj,H⟩:=n i d k e;exact .inl (F j d (f1 j (AZ hj)).1 H)
def Tm (k:C8 P τ call) {M:E2} {o:List EO} (c:call (.func f) M.args (Ia τ M) (λv h=>I [.val v h]) (λ_ _=>Z)=I o) (a:∀v h,.val v h∈o->∃e,Ub τ M e v h=Ag):JZ P τ f M:=Zcq k c λv h g=>by
 obtain⟨e,a⟩:=a v h g;unfold Ub at a;simp only[] at a;obtain⟨a,l⟩:=Dh a;obtain⟨a,m⟩:=Dh a;obtain⟨a,n⟩:=Dh a;obtain⟨p,q⟩:=Dh a;refine⟨e,p,Af q,n,m,λi b r=>?_⟩;obtain⟨j,s,d⟩:=M6 l i b r;cases hj:h.t.get j with
 |none=>rw[hj] at d;cases b<;>cases d
 |
  some hb'=>
  rw[hj] at d;refine⟨j,hb',s,hj,?_,λρ u x w g=>Rh g d⟩;cases hb'<;>first
   |rfl
   |(cases b<;>cases d)
def Ahy (b:C8 P τ call) {M:E2} (a:Ue τ call f M=Ag):JZ P τ f M:=by
 unfold Ue at a;split at a
 .rename_i c
  refine Tm b c λv h d=>?_;have:=List.all_eq_true.1 a _ d;simp only[] at this;split at this
  .exact⟨_,this⟩
  .cases this
 .cases a
end
section
def Ej {c d:Type} {x:Except String c} {f:c->Except String d} {b:d} (h:(x>>=f)=.ok b):∃a,x=.ok a/\f a=.ok b:=by
 cases x with
 |error e=>cases h
 |ok a=>exact⟨a,B,h⟩
def XV {b:Bool} {m:String} {u:Unit} (h:CheckCode.require b m=.ok u):b=true:=by
 unfold CheckCode.require at h;cases b with
 |true=>rfl
 |false=>cases h
def Abv {c:Type} {x:Except String c} {f:String->String} {a:c} (h:x.mapError f=.ok a):x=.ok a:=by
 cases x with
 |error e=>cases h
 |ok b=>cases h;rfl
def Zt {c:Type} {f:c->Except String Unit}:∀{l:List c},l.forM f=.ok ()->∀x∈l,f x=.ok ()
 |[],_,_,b=>Cf b (KX)
 |
  a::l,h,x,b=>by
  replace h:(f a>>=λ_=>l.forM f)=.ok ():=h;obtain⟨⟨⟩,d,e⟩:=Ej h;cases b with
  |head=>exact d
  |tail _ b=>exact Zt e x b
def XO {f:BC}:∀(c:DC) (b l:Bo),CheckCode.code P f b l c=.ok ()->CR P c:=by
 intro c
 induction c with
 |
  region id AU m=>
  intro b l h k;subst k;simp only[CheckCode.code,CheckCode.region] at h;obtain⟨_,_,h⟩:=Ej h;obtain⟨_,_,h⟩:=Ej h;exact XV h
 |
  seq x y a d=>
  intro b l h;simp only[CheckCode.code] at h;obtain⟨⟨⟩,e,i⟩:=Ej h;exact⟨a _ _ e,d _ _ i⟩
 |
  cond n x y a d=>
  intro b l h;simp only[CheckCode.code] at h;obtain⟨_,_,h⟩:=Ej h;obtain⟨⟨⟩,e,i⟩:=Ej h;exact⟨a _ _ e,d _ _ i⟩
 |block id c j=>intro b l h;simp only[CheckCode.code] at h;exact j _ _ h
 |loop c j=>intro b l h;simp only[CheckCode.code] at h;exact j _ _ h
 |scope c j=>intro b l h;simp only[CheckCode.code] at h;exact j _ _ h
 |
  rangeFunc g ps x y a d=>
  intro b l h;simp only[CheckCode.code] at h;obtain⟨_,_,h⟩:=Ej h;obtain⟨_,_,h⟩:=Ej h;obtain⟨_,_,h⟩:=Ej h;obtain⟨⟨⟩,e,i⟩:=Ej h;exact⟨a _ _ e,d _ _ i⟩
 |_=>intro b l h;exact trivial
def IT (h:P.check=.ok ()) {fn:BC} {c:DC} (b:P.funcs[f]?=I fn) (hb:fn.body=I c):CR P c:=by
 unfold Program.check at h;obtain⟨⟨⟩,d,_⟩:=Ej h;have e:f<P.funcs.size:=by
  rcases A8 f P.funcs.size with h|h
  .exact h
  .rw[Dr h] at b;cases b
 have a:=Zt d f (List.mem_range.2 e);unfold CheckCode.funcAt at a;rw[b] at a;replace a:=Abv a;unfold CheckCode.func at a;obtain⟨_,_,a⟩:=Ej a;obtain⟨_,_,a⟩:=Ej a;obtain⟨_,_,a⟩:=Ej a;rw[hb] at a;simp only at a;obtain⟨_,_,a⟩:=Ej a;obtain⟨⟨⟩,g,_⟩:=Ej a;exact XO c _ _ g
end
section
variable{P:AN} {τ:Bb}
def Ve (P:AN) (f:Au) (e:Array Aa->Sem Aa):Prop:=
 ∃fn,P.funcs[f]?=I fn/\(fn.name== "runtime.NumGoroutine")=Ah/\fn.body.isNone=Ag/\Extern.findNext fn=Z/\Extern.find fn=I e
def J8 (P:AN) (f:Au):KS->Prop
 |.aU=>Ve P f Extern.AbiNoEscape.same
 |.indexByte=>Ve P f Extern.BytealgIndexByte.indexByte
 |.count=>Ve P f Extern.BytealgCount.count
 |.makeNoZero e=>∃ps t,Ve P f (Extern.BytealgMakeNoZero.makeNoZero ps #[t])/\P.underlying t=I (.slice e)/\∃i,P.info? e=I i/\i.size=1
 |_=>False
def Nx {e:Array Aa->Sem Aa} (h:Ve P f e) {args:Array Aa} (a:(e args).run P w=.ok v w'):
 (callFunc f args).run P w=.ok (.value v) w':=by
 obtain⟨fn,b,c,d,g,i⟩:=h;rw[run_callFunc_extern b c d g i,a];rfl
def Aio (s:Bd) (c:UInt8):firstIdx s c=(match s.data.toList.findIdx? (·==c) with|some i=>(i:Int)|none=>-1):=by
 have b:∀i,i<s.size->s[i]! =s.data.toList[i]?.getD default:=by
  intro i U;have d:i<s.data.toList.length:=by simpa using U
  rw[getElem!_pos s i U,Ab d];rfl
 have Cw:(BG s.size).find? (λi=>s[i]! ==c)=s.data.toList.findIdx? (·==c):=by
  have l:s.size=s.data.toList.length:=by simp
  cases a:s.data.toList.findIdx? (·==c) with
  |
   none=>
   rw[List.findIdx?_eq_none_iff] at a;rw[List.find?_eq_none];intro i U;have U:=List.mem_range.1 U;rw[b i U,Ab G];have:=a s.data.toList[i] (Bu _);simpa using this
  |
   some k=>
   rw[List.findIdx?_eq_some_iff_getElem] at a;obtain⟨e,f,g⟩:=a;rw[List.find?_range_eq_some];refine⟨?_,List.mem_range.2 G,?_⟩
   .rw[b k G,Ab e];exact f
   .intro j h
    rw[b j G,Ab G];have:=g j h;simpa using this
 unfold firstIdx;rw[Cw];cases s.data.toList.findIdx? (·==c)<;>rfl
def S5 (c:UInt8):∀(l:Bl) (n:Nat),l.foldl (λn x=>if x==c then n+1 else n) n=n+Lib.countByte l c
 |[],n=>by simp[Lib.countByte]
 |
  b::l,n=>by
  rw[F7,S5 c l];unfold Lib.countByte;rw[List.count_cons];split<;>simp_all<;>omega
def Afc (T:BM P τ) {e:KS} (k:J8 P f e) (j:C5 P τ ρ h w) (a:LR ρ args AP) (b:R6 τ e args h=I (v,J)):
 B6 P τ ρ h w (callFunc f ⟨AP⟩) v J:=by
 unfold R6 at b;split at b
 .cases b
  cases a with|cons g a=>cases a with|nil=>
  exact B6.pure j (Nx k B) g
 .rename_i s c
  cases a with|cons g a=>cases a with|cons l a=>cases a with|nil=>
  cases g;cases l;have d:=run_indexByte_string (P:=P) s c w;rw[Aio] at d;have m:c.toNat.toUInt8=UInt8.ofNat c.toNat:=rfl;rw[m] at d;split at b
  .rename_i i U
   rw[U] at d;cases b;exact B6.pure j (Nx k d) (.int _ _)
  .rename_i U
   rw[U] at d;cases b;exact B6.pure j (Nx k d) (.int _ _)
 .rename_i s c
  cases a with|cons g a=>cases a with|cons l a=>cases a with|nil=>
  cases g;cases l;cases b;have d:=Lib.run_countString (P:=P) s c w;have m:Lib.countByte s.data.toList c.toNat.toUInt8=s.data.toList.foldl (λn x=>if x==UInt8.ofNat c.toNat then n+1 else n) 0:=(by rw[S5,Ba])
  rw[m] at d;exact B6.pure j (Nx k d) (.int _ _)
 .rename_i e n
  replace b:=C1 b;obtain⟨hb,b⟩:=b;have hb:=Hb hb;cases b;cases a with|cons g a=>cases a with|nil=>
  cases g;obtain⟨ps,t,q,r,i,u,y⟩:=k;obtain⟨cs,d,C,_⟩:=Lib.run_makeNoZero (P:=P) w ps t e r n G;have D:=Ren.aG (j.1.fresh h.nx (Ae _)) ⟨w.heap.size,0,cs.size-n⟩;obtain⟨z,A⟩:=j.drew.drew.alloc (.cells cs e) (.cells .nil n e 0 0 Ah) (cs.size-n) (by
   refine⟨cs,(0,0),Ca w.drew.drew _,by simp;omega,λE o=>?_,λi v p=>?_,.inl B,λh=>(by cases h)⟩
   .rw[u] at o;cases o;rw[y];simp;omega
   .rw[Ev.T.get_nil] at p;cases p)
  refine B6.made (Nx q d) (GD (Ren.ar _ _) B n cs.size (by simp;omega)) z ?_ (WS.le_refl _);exact A.aT.aT
 .cases b
end
section
variable{P:AN} {τ:Bb}
def IP (P:AN) (f:Au):Prop:=
 ∃(fn:BC) (t u s:Tmp) (T:Ai) (b:DC) (a c d e g h i j:Nat) (k l m:String) (n o p:Array Edge) (q:Array Ai),
  P.funcs[f]?=I fn/\(fn.name== "runtime.NumGoroutine")=Ah/\fn.results=#[]/\t<fn.ntmps/\u<fn.ntmps/\P.underlying T=I (.interface #[])/\
  fn.body=I (.seq (.region a #[⟨I t,.call ⟨.builtin .recover,#[],q⟩,g,k,n,Z⟩] Ah)
   (.block c (.seq (.region d #[⟨I u,.binOp .eql T (.tmp t) (.const .nilIface) j,h,l,o,Z⟩] Ah)
    (.cond (.tmp u) (.region e #[⟨I s,.assign (.tmp t),i,m,p,Z⟩] Ah) b))))
def Axt (T:BM P τ) (d:IP P f) (AP:Array Aa) (w:AM):
 (callFunc f AP).run P w=.ok (.enter f AP) w/\
 CallsDIn Fence.wide 0 P f AP .returning w λe g w'=>(∃v,e=.returned v)/\settle g=.returning/\w'=w:=by
 obtain⟨fn,t,u,s,h,b,y,z,A,C,D,E,F,H,K,L,M,N,O,Q,R,a,i,j,k,l,m,hb⟩:=d;have n:fn.name≠ "runtime.NumGoroutine":=by simpa using i
 refine⟨by simp[callFunc,a,n,hb,Amr],?_⟩;refine callsDIn_of_wpSIn a hb (by simp[Fence.wide]) λo cs p=>?_;apply wpSIn_seq;apply wpSIn_region;have c:fn.ntmps<=(AP++Cz (fn.ntmps-AP.size) undef).size:=by rw[Ajf,ZB];omega
 have q:t<(AP++Cz (fn.ntmps-AP.size) undef).size:=AC k c;have r:u<(AP++Cz (fn.ntmps-AP.size) undef).size:=AC l c;generalize(AP++Cz (fn.ntmps-AP.size) undef)=S at*;simp[wpOpsSIn,go_sem,recoverD,p,Exit.thenS];refine wpSIn_of_wpIn B (wpIn_block (wpIn_seq (wpIn_region ?_)));simp[wpOpsIn,go_sem,Exit.then,q]
 have x:(binOp .eql h .nilIface .nilIface).run P w=.ok (.bool Ag) w:=by
  have:=LI (w:=w) m;simp only[binOp,Op.equal,AI];simp[Op.equal,this]
 rw[x];simp only[Aw,Oper.uponIn_value];refine wpIn_cond_true (by simp[Act.eval,Act.put,r]) (wpIn_region ?_);simp[wpOpsIn,go_sem,Exit.inBlock,bodyPostS,results,j];exact⟨.returning,by cases o;simp_all,B⟩
def Alh (T:BM P τ) {dv:Au->Option (AH->Y->Option Y)} (h:∀f g,dv f=I g->IP P f/\g=λ_ h=>I h):Aqn P τ dv:=by
 intro f g b args AP h0 J ρ w a m c;obtain⟨d,rfl⟩:=h f g b;cases c;obtain⟨i,j⟩:=Axt T d ⟨AP⟩ w;refine⟨i,j.mono ?_⟩;rintro e n w' ⟨k,l,rfl⟩;exact⟨k,l,ρ,a,RF.refl a⟩
end
section
variable{P:AN}
def Aiu {b c:Type} (f:b->Option c):∀(t:T b) (i:Nat),(Adf f t).get i=(t.get i).bind f:=by
 intro t
 induction t with
 |nil=>intro i;rfl
 |
  node l v r d e=>
  intro i;show(T.node (Adf f l) (v.bind f) (Adf f r)).get i=_;cases i with
  |zero=>rw[T.aB,T.aB]
  |
   succ j=>
   rw[T.au,T.au];by_cases a:j%2=0
   .rw[Bi a,Bi a];exact d _
   .rw[Bm a,Bm a];exact e _
def Ud {i:KR} (h:P.types.toList[t]?=I i):P.info? t=I i:=by
 have a:P.types[t]?=I i:=by simpa using h
 have b:¬P.types.size<=t:=λc=>by rw[Dr c] at a;cases a
 have:P.info? t=P.types[t]?:=by simp[Tables.info?,b]
 rw[this,a]
def Ary {j:T KS} {e:Bo} {k:Nat} (l:P.funcs.toList.all (λx=>!x.body.isSome||!(x.name== "runtime.NumGoroutine"))=Ag)
 (m:e.all (λt=>!P.stoodInHeld t&&!P.eqGuardType P.depth t)=Ag) (n:P.follows .mixedOrders=Ag):BM P (Aod P j e k):={
 fn:=λf x hx=>by
  replace hx:(T.table 14 P.funcs.toList).get f=I x:=hx;have b:=T.a2 _ _ _ _ hx;refine⟨by simpa using b,λhb=>?_⟩;have c:=List.all_eq_true.1 l x (AZ b);rw[hb] at c;simpa using c
 ds:=λt d a=>by
  replace a:(Adf _ (T.table 14 P.types.toList)).get t=I d:=a;rw[Aiu] at a;cases U:(T.table 14 P.types.toList).get t with
  |none=>rw[U] at a;cases a
  |
   some i=>
   rw[U] at a;have b:=T.a2 _ _ _ _ U;have c:P.info? t=I i:=Ud b;unfold Program.underlying;rw[c];simp only[CC] at a;obtain⟨o⟩:=i;cases o with
   |
    named p u=>
    simp only at a⊢;cases g:(T.table 14 P.types.toList).get u with
    |none=>rw[g] at a;cases a
    |
     some i=>
     rw[g] at a;have b:=T.a2 _ _ _ _ g;have c:P.info? u=I i:=Ud b;rw[c];exact a
   |_=>exact a
 aj:=λt i U=>by
  replace U:(T.table 14 P.types.toList).get t=I i:=U;have b:=T.a2 _ _ _ _ U;exact Ud b
 eq:=λt h=>by
  replace h:e.any (Am t)=true:=h;obtain⟨x,hx,b⟩:=List.any_eq_true.1 h;have:=Af b;subst this;have:=List.all_eq_true.1 m _ hx;simpa using this
 mixed:=n}
end
def Mv {b:Type} (f:Nat):List (Nat×b)->Option b
 |[]=>Z
 |(g,a)::l=>bif Am g f then I a else Mv f l
def atC (fn:BC) (i:Nat):Code:=match fn.body with
 |some c=>(IC c).getD i .skip
 |none=>.skip
section
variable{P:AN} {τ:Bb}
def JH {c:Type} {f:Nat} {a:c}:∀{l:List (Nat×c)},Mv f l=I a->(f,a)∈l
 |
  (g,b)::l,h=>by
  simp only[Mv] at h;cases hb:Am g f with
  |
   true=>
   rw[hb] at h;have:=Af hb;subst this;cases h;exact Av
  |false=>rw[hb] at h;exact Az _ (JH h)
def Ayj (T:BM P τ) {f:Nat} {x:Lc} {b:BC} (e:P.funcs[f]?=I b) (h:J1 P τ x (atC b i)) (fn:BC) (c a:DC) (g:τ.fn.get f=I fn) (hb:fn.body=I c) (j:(IC c)[i]?=I a):
 J1 P τ x a:=by
 have d:=(T.fn _ _ g).1;rw[e] at d;cases d;unfold atC at h;rw[hb] at h;have:(IC c).getD i .skip=a:=by rw[Ak,j];rfl
 simp only[this] at h;exact h
def Kf {a:Type} {f:Nat}:∀{l:List (Nat×a)},(∀p∈l,p.1≠f)->Mv f l=Z
 |[],_=>rfl
 |
  p::l,h=>by
  rw[Mv,show Am p.1 f=Ah from Bool.eq_false_iff.2 λe=>h p Av (Af e),Kf λq b=>h q (Az _ b)];rfl
structure MO (P:AN) (τ:Bb) (f:Au) (g:Be->AH->Y->Jl):Prop where
 go:∀(call:Be),C8 P τ call->∀(args AP:AH) (h J:Y) (v:Aa) (ρ:Ren) (w:AM),C5 P τ ρ h w->LR ρ args AP->g call args h=I (v,J)->
 ∀(k kp:Aa->Y->RR) (outs:List EO),k v J=I outs->Hk P (callFunc f ⟨AP⟩) w (Ho P τ ρ w h k kp outs)
def QY:∀{l:List E2},(∀M∈l,JZ P τ f M)->MO P τ f (Vh τ l)
 |[],_=>⟨λ_ _ _ _ _ _ _ _ _ _ _ a=>by cases a⟩
 |
  M::l,c=>⟨λcall g args AP h J v ρ w d e a=>by
  simp only[Vh] at a;cases b:QG τ M args h with
  |some r=>rw[b] at a;cases a;exact Agr (c M Av) d e b
  |none=>rw[b] at a;exact (QY λM i=>c M (Az _ i)).go call g _ _ _ _ _ _ _ d e a⟩
def TJ (P:AN) (τ:Bb) (f e:Nat):Prop:=∃a:Go.Shelf.Ren,Go.Proofs.SlLaysF0.n6 P a/\a.f 6=f/\a.t 24=e/\(∀w,(isAgg e).run P w=.ok Ag w)/\EV τ f=Ag
def Akn (T:BM P τ) {S:A9} (a:JX P τ S) (L n:Nat):C8 P τ (QJ τ S L n):=by
 rw[Aig];exact JL T a (Va T S) (λc b=>J6 T b) L n
end
def TD:DC->List (Nat×Array C0)
 |.region i AU _=>[(i,AU)]
 |.seq a b=>TD a++TD b
 |.cond _ a b=>TD a++TD b
 |.block _ c=>TD c
 |.loop c=>TD c
 |.scope c=>TD c
 |_=>[]
def AAj (c:DC) (i:Nat):Nat:=((TD c).getD i (0,#[])).1
def Ajz (c:DC) (i:Nat):Array Oper:=((TD c).getD i (0,#[])).2
def VL (τ:Bb) (t:Ai) (i o:Nat):Bool:=match τ.ds.get t with
 |
  some (.struct b)=>(match b.toList[i]? with
  |
   some a=>(match τ.aj.get a.type with
   |some c=>!(Am c.size 0)&&Am a.offset o
   |none=>Ah)
  |none=>Ah)
 |_=>Ah
def bs (l:Bo):AH:=l.map λn=>.int .u8 (.ofNat n)
section
variable{P:AN} {τ:Bb}
def Ahq {o:Nat} (h:VL τ t i o=Ag):∃b a c,τ.ds.get t=I (.struct b)/\b.toList[i]?=I a/\τ.aj.get a.type=I c/\c.size≠0/\a.offset=o:=by
 unfold VL at h;split at h
 case h_2=>cases h
 rename_i b e;split at h
 case h_2=>cases h
 rename_i a f;split at h
 case h_2=>cases h
 rename_i c g;obtain⟨d,j⟩:=Dh h;refine⟨b,a,c,e,f,g,λk=>?_,Af j⟩;rw[k] at d;cases d
def Axw (T:BM P τ) (b:∀f e,τ.ex.get f=I e->J8 P f e) (d:P.check=.ok ()):JX P τ S0:={
 ov:=λf g a=>by cases a
 dv:=λf g a=>by cases a
 ex:=λf e i args AP h J v ρ w hk j k=>Afc T (b f e i) hk j k
 cr:=λf fn c l hb=>IT d (T.fn _ _ l).1 hb
 rc:=λf g a=>by cases a
 hk:=λf g a=>by cases a}
def Aue (T:BM P τ) (f:JX P τ S0) {c:DC} {a:Au} {fn:BC} {g h t3 t3':Ai} {o:Nat} {b d e:Tmp} {i j:Array C0} (k:c=.region (AAj c 0) (Ajz c 0) Ah)
 (l:YB τ a fn i j g h t3 o) (m:Agd τ (Ajz c 0) a b d e t3'):J1 P τ (HG b d e o) c:=
 (Cs (J1 P τ _) k).mpr (XX T f l m)
def Ht:∀M∈([]:List E2),JZ P τ f M:=λM a=>Cf a (KX)
def ES {M:E2} {l:List E2} (h:JZ P τ f M) (b:∀M∈l,JZ P τ f M):∀N∈M::l,JZ P τ f N:=λN a=>by
 cases a with
 |head=>exact h
 |tail _ a=>exact b N a
def Arc {t:Nat} (h:(match P.info? t with|some i=>Am i.size 1|none=>Ah)=Ag):∃a,P.info? t=I a/\a.size=1:=by
 split at h
 .rename_i i U;exact⟨i,U,Af h⟩
 .cases h
def XH {t:Nat} (h:(match P.underlying t with|some (.struct _)=>Ag|_=>Ah)=Ag) (w:AM):(isAgg t).run P w=.ok Ag w:=by
 split at h
 .rename_i b a;simp[isAgg,run_underlying a]
 .cases h
end
def YA (f:JO Unit->Option AH):List (JO Unit)->Option (List AH)
 |[]=>I []
 |
  d::l=>match f d,YA f l with
  |some a,I r=>I (a::r)
  |_,_=>Z
def YK (P:AN) (f:Ai->JO Unit->Option AH):Nat->List Field->List (JO Unit)->Option AH
 |_,[],[]=>I []
 |
  off,b::c,d::ds=>match f b.type d with
  |
   some a=>bif Am b.offset off&&Am a.length (P.cellsOf b.type) then(match YK P f (off+P.cellsOf b.type) c ds with
   |some r=>I (a++r)
   |none=>Z) else Z
  |none=>Z
 |_,_,_=>Z
def Vd (P:AN):Nat->Ai->JO Unit->Option AH
 |0,_,_=>Z
 |
  n+1,t,d=>match P.underlying t with
  |some (.int _)=>(match d with|.lit (.int k m)=>I [.int k m]|_=>Z)
  |some .bool=>(match d with|.lit (.bool b)=>I [.bool b]|_=>Z)
  |some .string=>(match d with|.lit (.string l)=>I [.string ⟨⟨l⟩⟩]|_=>Z)
  |
   some (.array m e)=>(match d with
   |
    .agg ds=>(match YA (Vd P n e) ds with
    |some a=>bif Am (P.cellsOf t) (m*P.cellsOf e)&&a.all (λl=>Am l.length (P.cellsOf e)) then I a.flatten else Z
    |none=>Z)
   |_=>Z)
  |
   some (.struct c)=>(match d with
   |
    .agg ds=>(match YK P (Vd P n) 0 c.toList ds with
    |some l=>bif Am (P.cellsOf t) l.length then I l else Z
    |none=>Z)
   |_=>Z)
  |_=>Z
section
variable{P:AN}
def S8 {f:JO Unit->Option AH}:∀{ds:List (JO Unit)} {b:List AH},YA f ds=I b->b.length=ds.length/\∀(i:Nat) (d:JO Unit),ds[i]?=I d->∃l,b[i]?=I l/\f d=I l
 |[],b,h=>by cases h;exact⟨B,λi d c=>by simp at c⟩
 |
  d::ds,b,h=>by
  simp only[YA] at h;split at h
  case h_2=>cases h
  rename_i a r e g;cases h;obtain⟨j,k⟩:=S8 g;refine⟨by simp[j],λi m c=>?_⟩;cases i with
  |zero=>cases c;exact⟨a,B,e⟩
  |succ i=>rw[B5] at c⊢;exact k i m c
def Afg {d:Type} {c:Nat}:∀{a:List (List d)} {cs:List d},cs.length=a.length*c->(∀i l,a[i]?=I l->(cs.drop (i*c)).take c=l)->cs=a.flatten
 |[],cs,b,_=>by simp at b;simp[b]
 |
  l::a,cs,b,h=>by
  have h0:=h 0 l B;simp at h0;have e:cs.drop c=a.flatten:=Afg (c:=c) (by simp[b,Dw]) (λi x f=>by
   have:=h (i+1) x (by simpa using f);rw[GR,UK c,←Nat.succ_mul];exact this)
  rw[JR,←h0,←e,FO]
def DU {base:Nat} {k:Nat->Bool} {n:Bool} {f:Ai->JO Unit->Option AH}
 (o:∀(t:Ai) (cs l:AH) (x:JO Unit×List IY),DataW.trod (λ_=>()) P w base k n m t cs=I x->f t x.1=I l->cs=l) (cs:AH):
 ∀(c:List Field) (xs:List (JO Unit×List IY)) (off:Nat) (l:AH),xs.length=c.length->
  (∀(i:Nat) (b:Field),c[i]?=I b->DataW.trod (λ_=>()) P w base k n m b.type ((cs.drop b.offset).take (P.cellsOf b.type))=xs[i]?)->
  YK P f off c (xs.map (·.1))=I l->(cs.drop off).take l.length=l
 |[],[],off,l,_,_,h=>by cases h;simp
 |
  b::c,x::xs,off,l,d,p,h=>by
  simp only[Bp,YK] at h;split at h
  case h_2=>cases h
  rename_i a s;obtain⟨u,h⟩:=C1 h;obtain⟨e,g⟩:=Dh u;have e:=Af e;have g:=Af g;split at h
  case h_2=>cases h
  rename_i r v;cases h;have y:=p 0 b B;have j:=o _ _ _ _ y s;have q:=DU o cs c xs _ r (by simpa using d) (λi z A=>by have:=p (i+1) z (by simpa using A);simpa using this) v;rw[←g] at j q;rw[e] at j;rw[Aj,List.take_add,j,GR,q]
 |[],_::_,_,_,d,_,_=>by simp at d
 |_::_,[],_,_,d,_,_=>by simp at d
def Aij {base:Nat} {L:Nat->Bool} {M:Bool}:∀(n p:Nat) (t:Ai) (cs l:AH) (x:JO Unit×List IY),DataW.trod (λ_=>()) P w base L M p t cs=I x->Vd P n t x.1=I l->cs=l:=by
 intro n
 induction n with
 |zero=>intro p t cs l x _ h;cases h
 |
  succ n A=>
  intro p t cs l x o h;simp only[Vd] at h;split at h
  .rename_i k g
   obtain⟨m,rfl,rfl,_⟩:=DataW.trod_int g o;cases h;rfl
  .rename_i g
   obtain⟨b,rfl,rfl⟩:=DataW.trod_bool g o;cases h;rfl
  .rename_i g
   obtain⟨s,rfl,rfl,_⟩:=DataW.trod_string g o;cases h;rfl
  .rename_i m e g
   obtain⟨xs,q,rfl,rfl,u,v,U⟩:=DataW.trod_array g o;simp only at h;split at h
   case h_2=>cases h
   rename_i C N;obtain⟨y,h⟩:=C1 h;cases h;obtain⟨j,D⟩:=Dh y;have j:=Af j;obtain⟨E,O⟩:=S8 N;simp only[A4] at E;refine Afg (c:=P.cellsOf e) (by rw[u,j,E,v]) λi a z=>?_;have Q:i<m:=by
    have:i<C.length:=by
     rcases A8 i C.length with h|h
     .exact h
     .rw[CD h] at z;cases z
    omega
   have F:=U i Q;obtain⟨d,H⟩:∃d,xs[i]?=I d:=⟨xs[i]'G,Ab G⟩;obtain⟨a',K,R⟩:=O i d.1 (by rw[AX,H];rfl);rw[z] at K;cases K;rw[H] at F;exact A _ _ _ _ _ F R
  .rename_i S g
   obtain⟨xs,q,rfl,rfl,u,v,U⟩:=DataW.trod_struct g o;simp only at h;split at h
   case h_2=>cases h
   rename_i r T;obtain⟨y,h⟩:=C1 h;cases h;have j:=Af y;have:=DU (λt cs l x j D=>A _ t cs l x j D) cs S.toList xs 0 l (by simpa using v) (λi f V=>U i f (by simpa using V)) T;rw[Ajb,←j,←u,CS] at this;exact this
  .cases h
end
section
variable{P:AN} {w:AM}
def LC {a:Array Obj} {x:Obj} (h:i<a.size):(a.push x)[i]?=a[i]?:=by
 rw[Ajj,Bm G]
def Abe {g:Nat} {b:Global} (a:P.globals[g]?=I b):∃zero,((begin P (λ_ _=>0) default).world.heap[g]?).bind Obj.row?=I (zero,b.type):=by
 have c:g<P.globals.size:=by
  rcases A8 g P.globals.size with h|h
  .exact h
  .rw[Dr h] at a;cases a
 have d:P.globals[g]=b:=by
  rw[By c] at a;exact Option.some.inj a
 unfold begin;simp only;rw[LC (by simp;omega),LC (by simp;omega),LC (by simp;omega),LC (by simp;omega),LC (by simp;omega),Acj,a];simp only[Ek,CC];split
 .exact⟨_,B⟩
 .exact⟨_,B⟩
def NT (c:w.ShapedOpen P) {g:Nat} {a:Global} (b:P.globals[g]?=I a):∃cs,w.heap[g]?=I (.cells cs a.type):=by
 obtain⟨zero,d⟩:=Abe b;have e:g<P.globals.size:=by
  rcases A8 g P.globals.size with h|h
  .exact h
  .rw[Dr h] at b;cases b
 obtain⟨cs,f,_⟩:=c.1 g zero a.type e d;exact⟨cs,f⟩
def SD:∀{e:List (String×JO Unit)} {ps:List IY},DataW.LaidVars P w e ps->∀{b:String} {d:JO Unit},(b,d)∈e->
 ∃g t cs c p,P.globalNamed b=I g/\(P.globals[g]?).map (·.type)=I t/\w.var? P b=I cs/\DataW.trod (λ_=>()) P w 0 (λ_=>Ag) Ah c t cs.toList=I (d,p)
 |[],_,_,_,_,a=>Cf a (KX)
 |
  (n,d0)::r,ps,h,b,d,a=>by
  obtain⟨g,t,cs,c,p,q,f,i,j,k,l,_⟩:=h;cases a with
  |head=>exact⟨g,t,cs,c,p,f,i,j,k⟩
  |tail _ a=>exact SD l a
def FK (m:w.ShapedOpen P) {c:List (String×JO Unit)} (o:laidMet P c w) {b:String} {d:JO Unit} (q:(b,d)∈c) {g:Nat} {a:Global} (e:P.globalNamed b=I g) (f:P.globals[g]?=I a) (r:Vd P n a.type d=I l):w.heap[g]?=I (.cells ⟨l⟩ a.type):=by
 obtain⟨ps,s,_⟩:=o;obtain⟨z,t,cs,u,p,h,i,j,v⟩:=SD s q;rw[e] at h;cases h;rw[f] at i;cases i;obtain⟨x,k⟩:=NT m f;have y:w.var? P b=I x:=by simp only[World.var?,e,CC,k]
 rw[y] at j;cases j;have:=Aij n u a.type cs.toList l _ v r;rw[k,←this]
def Jr (a:Nat):Ren:=λi=>if i<a then I ⟨i,0,0⟩ else Z
def H9 (P:AN) (w:AM):List (Nat×CB)->Prop
 |[]=>True
 |(g,b)::l=>(∃vs e,b=.cells vs e 0 0 Ag/\vs.all plainCell=Ag/\w.heap[g]?=I (.cells ⟨vs⟩ e))/\H9 P w l
def Io:∀{l:List (Nat×CB)},H9 P w l->∀{g:Nat} {b:CB},(g,b)∈l->∃vs e,b=.cells vs e 0 0 Ag/\vs.all plainCell=Ag/\w.heap[g]?=I (.cells ⟨vs⟩ e)
 |[],_,_,_,a=>Cf a (KX)
 |
  _::_,h,_,_,a=>by
  cases a with
  |head=>exact h.1
  |tail _ a=>exact Io h.2 a
end
section
variable{P:AN} {τ:Bb}
structure QR (w w':AM):Prop where
 size:w.heap.size<=w'.heap.size
 same:∀b,b<w.heap.size->w'.heap[b]?=w.heap[b]?
 os:w'.os=w.os
 out:w'.output=w.output
 tape:w'.tape=w.tape
def QR.kept (h:QR w w') (c:IY->Prop):w.keptBut w' c:=by
 refine⟨h.os,h.out,λi U=>?_⟩;rw[h.same i U];split
 .rename_i b a;rw[b] at a;cases a;exact⟨rfl,rfl,rfl,λ_ _=>rfl⟩
 .rename_i b a;rw[b] at a;cases a;exact .inr ⟨rfl,rfl⟩
 .rfl
def Alf {P:AN} (h:P.funcs.any Func.goes=Ah) (f:Au):P.goes f=false:=by
 have a:∀g:Au,(P.funcs[g]?).any Func.goes=false:=λg=>by
  cases b:P.funcs[g]? with
  |none=>rfl
  |
   some fn=>
   rw[Array.any_eq_false] at h;obtain⟨c,d⟩:=Array.getElem?_eq_some_iff.1 b;have:=h g c;rw[d] at this;simpa using this
 unfold Program.goes;rw[h,Bool.and_false,Bool.or_false,List.any_eq_false];intro g _;simp[a g]
def Aby {P:AN} {c:OpenClaim} (h:P.funcs.any Func.goes=Ah) (a:c.start=.entering):Ah=c.goesBy P:=by
 unfold OpenClaim.goesBy Program.goesAt Program.goesFrom;rw[a];cases P.funcNamed c.func with
 |none=>rfl
 |some f=>simp[Alf h f]
end
def Ajs:Be:=λ_ _ _ _ _=>Z
def rcG (τ:Bb) (fn:BC) (c:DC) (t:Tmp):AH->Aa->Y->Option Y:=λb v h=>match GA b fn.ntmps with
 |
  some a=>(match B7 τ Ajs 1 Z c {n:=λfr h=>I [.aE fr h],x:=λ_ _ _=>Z,r:=λ_ _=>Z,p:=λ_ _ _=>Z} ⟨a.tm.ins t v,a.sz,a.ds⟩ h with
  |some [.aE Ec J]=>bif Ec.ds.isEmpty then I J else Z
  |_=>Z)
 |none=>Z
section
variable{P:AN} {τ:Bb}
def YU:C8 P τ Ajs:=λ_ _ _ _ _ _ _ _ _ _ _ _ _ a=>by cases a
def Aft (T:BM P τ) {fn:BC} {c:DC} {t k ty:Nat} {m:String} {n:Array Edge} {o:Array Ai} (g:τ.fn.get f=I fn)
 (hb:fn.body=I (.seq (.region k #[⟨I t,.call ⟨.builtin .recover,#[],o⟩,ty,m,n,Z⟩] Ah) c)) (p:fn.results=#[]) (q:t<fn.ntmps) (r:CR P c)
 (args AP:AH) (v v':Aa) (h J:Y) (ρ:Ren) (w:AM) (s:C5 P τ ρ h w) (u:LR ρ args AP) (x:VR ρ v v') (a:rcG τ fn c t args v h=I J):
 (callFunc f ⟨AP⟩).run P w=.ok (.enter f ⟨AP⟩) w/\
 CallsDIn Fence.wide 0 P f ⟨AP⟩ (.panicking [{v:=v',recovered:=Ah}]) w λe y w'=>(∃v,e=.returned v)/\settle y=.returning/\∃C2,C5 P τ C2 J w'/\RF ρ w h C2 w' J:=by
 unfold rcG at a;split at a
 case h_2=>cases a
 rename_i d z;split at a
 case h_2=>cases a
 rename_i Ec O A;replace a:=C1 a;obtain⟨C,a⟩:=a;cases a;obtain⟨f1,f2⟩:=NW u z;have D:fn.body.isSome=true:=by rw[hb];rfl
 refine⟨MuLone.run_callFunc_enter (P:=P) (T.fn _ _ g).1 ((T.fn _ _ g).2 D) hb ⟨AP⟩ w,?_⟩;refine callsDIn_of_wpSIn (T.fn _ _ g).1 hb (by simp[Fence.wide]) λQ cs E=>?_;apply wpSIn_seq;apply wpSIn_region;have F:fn.ntmps<=((⟨AP⟩:Array Aa)++Cz (fn.ntmps-(⟨AP⟩:Array Aa).size) undef).size:=by rw[Ajf,ZB];omega
 have st:St P τ ρ ⟨d.tm.ins t v,d.sz,d.ds⟩ h {tmps:=((⟨AP⟩:Array Aa)++Cz (fn.ntmps-(⟨AP⟩:Array Aa).size) undef).setIfInBounds t v',defers:=[]} w:=
  ⟨s,TR.put f1 x (by rw[show d.sz=_ from f1.1];exact AC q F),by show DR ρ d.ds [];rw[f2];exact .nil⟩
 generalize((⟨AP⟩:Array Aa)++Cz (fn.ntmps-(⟨AP⟩:Array Aa).size) undef)=R at*;simp[wpOpsSIn,go_sem,recoverD,E,Exit.thenS];refine wpSIn_of_wpIn B ?_;refine wpIn_mono (GP T YU (J6 T YU) 1 c r (ro:=Z) (ro':=Z) st trivial A) λe a1 S H=>?_;obtain⟨K,fr1,V,W,j,L,M,b⟩:=H;cases e with
 |
  normal=>
  cases b;have:=M Av;cases List.mem_singleton.1 this;have i:=j.ds;rw[List.isEmpty_iff.1 C] at i;have N:a1.defers=[]:=by generalize a1.defers=l at i;cases i;rfl
  refine⟨N,_,B,.tuple #[],?_,⟨_,B⟩,B,K,j.hk,L⟩;simp[results,p]
 |exit id=>cases b
 |goto l=>exact b.elim
 |ret=>cases b
 |panic X=>obtain⟨_,_,_,_,b⟩:=b;cases b
 |outgrown=>exact b.elim
end
section
variable{P:AN} {τ:Bb}
open Classical in
def Avl (h:Y) (v:Aa):Aa->Y->RR:=λv' J=>if v'=v/\J.lo.ag h.nx=Ag then I [] else Z
def Z8 (n:C8 P τ call) {o:List EO} (p:call (.func f) args h.ad (Avl h v) (λ_ _=>Z)=I o) (m:DG v=Ag) (i:C5 P τ ρ h w) (q:LR ρ args AP) {k:Aa->Y->RR} (r:k v h=I outs):Hk P (callFunc f ⟨AP⟩) w (Ho P τ ρ w h k kp outs):=by
 refine(n (.func f) (.func f) args AP h.ad _ _ _ ρ w i (.func f) q p).mono λs w' j=>?_;cases s with
 |outgrown=>exact j
 |panicked L=>obtain⟨_,_,_,_,_,_,_,_,_,hb,_⟩:=j;cases hb
 |
  returned v'=>
  obtain⟨M,N,t,O,u,Q,x,l,R⟩:=j;unfold Avl at l;split at l
  case isFalse=>cases l
  rename_i d;obtain⟨rfl,y⟩:=d;have a:=x.br;have z:∀c pl',t.lo.has c->ρ c=I pl'->False:=λc pl' A g=>by
   rcases A8 c h.nx with d|d
   .exact GO y d A
   .rw[i.1.fresh c d] at g;cases g
  have hb:∀b,b<w.heap.size->w'.heap[b]?=w.heap[b]?:=λb hb=>a.ae b hb λC D E F=>(z C D E F).elim;have e:=u.aL m;subst e;exact⟨ρ,_,_,outs,.ak m,i.grow a.size hb,⟨⟨λ_ _=>rfl,a.size,λb hb' _=>hb b hb',λc pl' H g=>(by rw[i.1.fresh c H] at g;cases g),Ae _,a.os,a.out,a.tape,a.drawn⟩,AF.refl _⟩,r,λ_ K=>K⟩
end
end
end
end Go.Ev
namespace Go.Proofs
open Go.Shelf
def Auz (P:AN) (i:Nat):String:=match P.funcs[i]? with|some f=>f.name|none=>""
theorem P6 {P:AN} {i:Nat} {a:BC} (b:(Auz P i=="runtime.NumGoroutine")=Ah) (c:P.funcs[i]?=I {a with name:=Auz P i}):Bears P i a:=⟨_,b,c⟩
def Tryz.bR:Go.Shelf.Ren:=⟨λ|6=>137|15=>211|14=>210|28=>278|29=>240|20=>270|21=>271|22=>272|23=>273|24=>274|25=>275|26=>276|27=>277|46=>321|47=>322|48=>323|49=>324|50=>325|57=>350|n=>n,λ|22=>78|24=>93|25=>244|3=>3|39=>303|0=>0|53=>301|55=>213|4=>4|46=>384|45=>383|50=>91|5=>5|9=>9|66=>418|70=>421|76=>441|77=>380|n=>n,λ|n=>n⟩
theorem Tryz.dg:Go.Proofs.SlLaysF0.n6 Tryz.prog Tryz.bR:=by
 constructor<;>first|exact P6 (by kernel_rfl) (by kernel_rfl)|(intro w;kernel_rfl)|kernel_rfl
def Tryz.bT:Go.Shelf.Ren:=⟨λ|6=>167|15=>211|14=>237|28=>278|29=>240|20=>297|21=>298|22=>299|23=>300|24=>301|25=>302|26=>303|27=>304|46=>340|47=>322|48=>323|49=>341|50=>342|57=>359|n=>n,λ|22=>24|24=>114|25=>268|3=>3|39=>303|0=>0|53=>301|55=>213|4=>4|46=>384|45=>383|50=>91|5=>5|9=>9|66=>418|70=>421|76=>441|77=>380|n=>n,λ|n=>n⟩
theorem Tryz.c9:Go.Proofs.SlLaysF0.n6 Tryz.prog Tryz.bT:=by
 constructor<;>first|exact P6 (by kernel_rfl) (by kernel_rfl)|(intro w;kernel_rfl)|kernel_rfl
def Tryz.bY:Go.Shelf.Ren:=⟨λ|6=>317|15=>211|14=>348|28=>278|29=>240|20=>361|21=>362|22=>363|23=>364|24=>365|25=>366|26=>367|27=>368|46=>373|47=>322|48=>323|49=>374|50=>375|57=>376|n=>n,λ|22=>292|24=>298|25=>366|3=>3|39=>303|0=>0|53=>301|55=>213|4=>4|46=>384|45=>383|50=>91|5=>5|9=>9|66=>418|70=>421|76=>441|77=>380|n=>n,λ|n=>n⟩
theorem Tryz.da:Go.Proofs.SlLaysF0.n6 Tryz.prog Tryz.bY:=by
 constructor<;>first|exact P6 (by kernel_rfl) (by kernel_rfl)|(intro w;kernel_rfl)|kernel_rfl
def Tryz.ca:Go.Shelf.Ren:=⟨λ|190=>173|125=>211|258=>242|128=>278|129=>240|302=>305|303=>306|304=>307|305=>308|306=>309|307=>310|308=>311|309=>312|310=>313|333=>343|329=>322|330=>323|334=>344|335=>345|336=>280|344=>360|n=>n,λ|31=>55|9=>9|3=>3|46=>303|0=>0|51=>301|53=>213|4=>4|183=>384|182=>383|131=>91|5=>5|218=>418|222=>421|228=>441|229=>380|n=>n,λ|n=>n⟩
theorem Tryz.b7:Go.Proofs.Lays.n190 Tryz.prog Tryz.ca:=by
 constructor<;>first|exact P6 (by kernel_rfl) (by kernel_rfl)|(intro w;kernel_rfl)|kernel_rfl
end Go.Proofs
namespace Go.Ev
open Go Go.Proofs Tryz
noncomputable section
section
abbrev As:=List (Nat×Aa)
def look (A:As):Nat->Option Value:=Hg (motive:=λ_=>Nat->Option Aa) (λ_=>Z) (λp _ a t=>match p with|(i,v)=>bif Am i t then I v else a t) A
def Gx (A:As) (fr:Fr):Prop:=∀t v,look A t=I v->fr.tm.get t=I v
section
variable(τ:Bb) (A:As)
def Dn:BU->Option Aa
 |.tmp t=>look A t
 |.const v=>bif DG v then I v else Z
 |.global g=>bif AD g τ.ng then I (AG g 0) else Z
 |.func f=>I (.func (.func f) #[] #[])
def RY (l:List BU):Option AH:=Hg (motive:=λ_=>Option AH) (I []) (λo _ a=>match Dn τ A o,a with
 |some v,I vs=>I (v::vs)
 |_,_=>Z) l
def RQ:Option BU->Option (Option Aa)
 |none=>I Z
 |some o=>(match Dn τ A o with|some v=>I (I v)|none=>Z)
def QF (l:List (Nat×BU)):Option (List (Nat×Aa)):=Hg (motive:=λ_=>Option (List (Nat×Aa))) (I []) (λp _ a=>match p with
 |
  (i,o)=>(match Dn τ A o,a with
  |some v,I vs=>I ((i,v)::vs)
  |_,_=>Z)) l
def D9 (h:Y) (o:Op):Jl:=
 match o with
 |.move x|.assign x=>CN h (Dn τ A x)
 |
  .pick c a b=>(match Dn τ A c with
  |some (.bool t)=>CN h (Dn τ A (if t then a else b))
  |_=>Z)
 |.alloc t=>(match CP τ t with|some z=>K7 τ t z h|none=>Z)
 |.box t x=>(match Dn τ A x with|some v=>K7 τ t v h|none=>Z)
 |.build t ps=>(match QF τ A ps.toList with|some vs=>CN h (TO τ t vs)|none=>Z)
 |.buildSlice t n ps=>(match QF τ A ps.toList with|some vs=>Bs τ t n vs h|none=>Z)
 |.load t a=>(match Dn τ A a with|some (.pointer (I ⟨id,off,Z⟩))=>CN h (Bw τ t h id off)|_=>Z)
 |
  .store t a x=>(match Dn τ A a,Dn τ A x with
  |some (.pointer (I ⟨id,off,Z⟩)),I v=>Nb (BA τ t h id off v)
  |_,_=>Z)
 |
  .nilCheck x=>(match Dn τ A x with
  |some (.pointer (I a))=>I (.pointer (I a),h)
  |some (.func (.func f) a b)=>I (.func (.func f) a b,h)
  |some (.iface t v)=>I (.iface t v,h)
  |_=>Z)
 |.binOp op t x y _=>(match Dn τ A x,Dn τ A y with|some a,I b=>CN h (Jo τ op t x y a b)|_,_=>Z)
 |.unOp op _ x=>(match Dn τ A x with|some v=>CN h (unB op v)|none=>Z)
 |.convert s d x=>(match Dn τ A x with|some v=>Ea τ s d v h|none=>Z)
 |
  .makeInterface t x=>(match Dn τ A x,τ.ds.get t with
  |some _,I (.interface _)=>Z
  |some v,I _=>I (.iface t v,h)
  |_,_=>Z)
 |
  .makeFunc fn first cap=>(match RY τ A first.toList,RY τ A cap.toList with
  |
   some a,I b=>(match fn with
   |.func f=>I (.func (.func f) ⟨a⟩ ⟨b⟩,h)
   |_=>Z)
  |_,_=>Z)
 |
  .makeMap t r=>(match RQ τ A r with
  |some Z=>I (.map (I h.nx),h.new (.map [] 0))
  |some (I (.int _ _))=>(match τ.ds.get t with|some (.map _ _)=>I (.map (I h.nx),h.new (.map [] 0))|_=>Z)
  |_=>Z)
 |.makeSlice t l c=>(match Dn τ A l,Dn τ A c with|some a,I b=>Dk τ t a b h|_,_=>Z)
 |
  .slice t x lo U g=>(match Dn τ A x,RQ τ A lo,RQ τ A U,RQ τ A g with
  |some v,I a,I b,I c=>CN h (C7 τ t v a b c)
  |_,_,_,_=>Z)
 |.fieldAddr s x f=>(match Dn τ A x with|some v=>CN h (GM τ s v f)|none=>Z)
 |.field t x f=>(match Dn τ A x with|some v=>CN h (TM τ t v f)|none=>Z)
 |.indexAddr t x i=>(match Dn τ A x,Dn τ A i with|some a,I b=>CN h (EE τ t a b)|_,_=>Z)
 |.index t x i=>(match Dn τ A x,Dn τ A i with|some a,I b=>CN h (I8 τ t a b)|_,_=>Z)
 |.lookup t x i e=>(match Dn τ A x,Dn τ A i with|some a,I b=>CN h (BW τ t a b e h)|_,_=>Z)
 |
  .mapUpdate t m k x|.insert t m k x=>(match Dn τ A m,Dn τ A k,Dn τ A x with
  |some a,I b,I c=>Nb (BH τ t a b c h)
  |_,_,_=>Z)
 |.mapEntry t m k=>(match Dn τ A m,Dn τ A k with|some a,I b=>D6 τ t a b h|_,_=>Z)
 |.entryStore _ m s x=>(match Dn τ A m,Dn τ A s,Dn τ A x with|some a,I b,I c=>Nb (DM a b c h)|_,_,_=>Z)
 |.range t x=>(match Dn τ A x with|some v=>Gh τ t v h|none=>Z)
 |.entry j=>(match Dn τ A j with|some v=>CN h (Ou v h)|none=>Z)
 |.typeAssert x _ t e=>(match Dn τ A x with|some v=>CN h (P8 τ v t e)|none=>Z)
 |.extract t i=>(match Dn τ A t with|some (.tuple vs)=>CN h vs.toList[i]?|_=>Z)
 |.sliceToArrayPointer t x=>(match Dn τ A x with|some v=>CN h (Qd τ t v)|none=>Z)
 |_=>Z
end
variable{τ:Bb} {A:As} {fr:Fr}
def Bg (r:Gx A fr) {o:BU} {v:Aa} (h:Dn τ A o=I v):ev τ fr o=I v:=by
 cases o with
 |tmp t=>exact r t v h
 |_=>exact h
def FX (r:Gx A fr):∀{l vs},RY τ A l=I vs->O8 τ fr l=I vs
 |[],_,h=>h
 |
  o::l,vs,h=>by
  change (match Dn τ A o,RY τ A l with|some v,I vs=>I (v::vs)|_,_=>Z)=I vs at h
  rw[O8];cases a:Dn τ A o with
  |none=>simp[a] at h
  |
   some v=>
   cases b:RY τ A l with
   |none=>simp[a,b] at h
   |some w=>rw[Bg r a,FX r b];simpa[a,b] using h
def M5 (r:Gx A fr):∀{l vs},QF τ A l=I vs->Ql τ fr l=I vs
 |[],_,h=>h
 |
  (i,o)::l,vs,h=>by
  change (match Dn τ A o,QF τ A l with|some v,I vs=>I ((i,v)::vs)|_,_=>Z)=I vs at h
  rw[Ql];cases a:Dn τ A o with
  |none=>simp[a] at h
  |
   some v=>
   cases b:QF τ A l with
   |none=>simp[a,b] at h
   |some w=>rw[Bg r a,M5 r b];simpa[a,b] using h
def Me (r:Gx A fr) {o:Option BU} {v:Option Aa} (h:RQ τ A o=I v):ZK τ fr o=I v:=by
 cases o with
 |none=>exact h
 |
  some o=>
  rw[RQ] at h;rw[ZK];cases a:Dn τ A o with
  |none=>simp[a] at h
  |some v=>rw[Bg r a];simpa[a] using h
def IS (r:Gx A fr) {h:Y} {o:Op} {x:Aa×Y} (e:D9 τ A h o=I x):Ch τ fr h o=I x:=by
 unfold D9 at e;unfold Ch;cases o<;>simp only[] at e⊢
 case alloc=>exact e
 case pick c a b=>
  cases g:Dn τ A c with
  |none=>simp[g] at e
  |
   some v=>
   rw[Bg r g];rw[g] at e;cases v<;>simp only[] at e⊢<;>first|(cases e;done)|skip
   rename_i t;cases j:Dn τ A (if t=Ag then a else b) with
   |none=>rw[j] at e;cases e
   |some v=>rw[Bg r j];rw[j] at e;exact e
 case build t ps=>cases g:QF τ A ps.toList<;>simp only[g] at e<;>first|(cases e;done)|(rw[M5 r g];exact e)
 case buildSlice t n ps=>cases g:QF τ A ps.toList<;>simp only[g] at e<;>first|(cases e;done)|(rw[M5 r g];exact e)
 case makeMap t a=>cases g:RQ τ A a<;>simp only[g] at e<;>first|(cases e;done)|(rw[Me r g];exact e)
 case makeFunc fn a b=>cases g:RY τ A a.toList<;>cases j:RY τ A b.toList<;>simp only[g,j] at e<;>first|(cases e;done)|(rw[FX r g,FX r j];exact e)
 case slice t x a b c=>
  cases g:Dn τ A x<;>cases j:RQ τ A a<;>cases k:RQ τ A b<;>cases l:RQ τ A c<;>simp only[g,j,k,l] at e<;>
   first|(cases e;done)|(rw[Bg r g,Me r j,Me r k,Me r l];exact e)
 case move a=>
  cases g:Dn τ A a<;>simp only[g] at e<;>first|(cases e;done)|(rw[Bg r g];exact e)
 case assign a=>
  cases g:Dn τ A a<;>simp only[g] at e<;>first|(cases e;done)|(rw[Bg r g];exact e)
 case box t a=>
  cases g:Dn τ A a<;>simp only[g] at e<;>first|(cases e;done)|(rw[Bg r g];exact e)
 case load t a=>
  cases g:Dn τ A a<;>simp only[g] at e<;>first|(cases e;done)|(rw[Bg r g];exact e)
 case nilCheck a=>
  cases g:Dn τ A a<;>simp only[g] at e<;>first|(cases e;done)|(rw[Bg r g];exact e)
 case unOp op t a=>
  cases g:Dn τ A a<;>simp only[g] at e<;>first|(cases e;done)|(rw[Bg r g];exact e)
 case convert s d a=>
  cases g:Dn τ A a<;>simp only[g] at e<;>first|(cases e;done)|(rw[Bg r g];exact e)
 case makeInterface t a=>
  cases g:Dn τ A a<;>simp only[g] at e<;>first|(cases e;done)|(rw[Bg r g];exact e)
 case fieldAddr s a f=>
  cases g:Dn τ A a<;>simp only[g] at e<;>first|(cases e;done)|(rw[Bg r g];exact e)
 case field s a f=>
  cases g:Dn τ A a<;>simp only[g] at e<;>first|(cases e;done)|(rw[Bg r g];exact e)
 case range t a=>
  cases g:Dn τ A a<;>simp only[g] at e<;>first|(cases e;done)|(rw[Bg r g];exact e)
 case entry a=>
  cases g:Dn τ A a<;>simp only[g] at e<;>first|(cases e;done)|(rw[Bg r g];exact e)
 case typeAssert a t b m=>
  cases g:Dn τ A a<;>simp only[g] at e<;>first|(cases e;done)|(rw[Bg r g];exact e)
 case extract a i=>
  cases g:Dn τ A a<;>simp only[g] at e<;>first|(cases e;done)|(rw[Bg r g];exact e)
 case sliceToArrayPointer t a=>
  cases g:Dn τ A a<;>simp only[g] at e<;>first|(cases e;done)|(rw[Bg r g];exact e)
 case store t a b=>
  cases g:Dn τ A a<;>cases j:Dn τ A b<;>simp only[g,j] at e<;>first|(cases e;done)|(rw[Bg r g,Bg r j];exact e)|(split at e<;>simp_all)
 case binOp op t a b u=>
  cases g:Dn τ A a<;>cases j:Dn τ A b<;>simp only[g,j] at e<;>first|(cases e;done)|(rw[Bg r g,Bg r j];exact e)|(split at e<;>simp_all)
 case makeSlice t a b=>
  cases g:Dn τ A a<;>cases j:Dn τ A b<;>simp only[g,j] at e<;>first|(cases e;done)|(rw[Bg r g,Bg r j];exact e)|(split at e<;>simp_all)
 case indexAddr t a b=>
  cases g:Dn τ A a<;>cases j:Dn τ A b<;>simp only[g,j] at e<;>first|(cases e;done)|(rw[Bg r g,Bg r j];exact e)|(split at e<;>simp_all)
 case index t a b=>
  cases g:Dn τ A a<;>cases j:Dn τ A b<;>simp only[g,j] at e<;>first|(cases e;done)|(rw[Bg r g,Bg r j];exact e)|(split at e<;>simp_all)
 case lookup t a b m=>
  cases g:Dn τ A a<;>cases j:Dn τ A b<;>simp only[g,j] at e<;>first|(cases e;done)|(rw[Bg r g,Bg r j];exact e)|(split at e<;>simp_all)
 case mapEntry t a b=>
  cases g:Dn τ A a<;>cases j:Dn τ A b<;>simp only[g,j] at e<;>first|(cases e;done)|(rw[Bg r g,Bg r j];exact e)|(split at e<;>simp_all)
 case mapUpdate t a b c=>
  cases g:Dn τ A a<;>cases j:Dn τ A b<;>cases k:Dn τ A c<;>simp only[g,j,k] at e<;>first|(cases e;done)|(rw[Bg r g,Bg r j,Bg r k];exact e)|(split at e<;>simp_all)
 case insert t a b c=>
  cases g:Dn τ A a<;>cases j:Dn τ A b<;>cases k:Dn τ A c<;>simp only[g,j,k] at e<;>first|(cases e;done)|(rw[Bg r g,Bg r j,Bg r k];exact e)|(split at e<;>simp_all)
 case entryStore t a b c=>
  cases g:Dn τ A a<;>cases j:Dn τ A b<;>cases k:Dn τ A c<;>simp only[g,j,k] at e<;>first|(cases e;done)|(rw[Bg r g,Bg r j,Bg r k];exact e)|(split at e<;>simp_all)
 all_goals cases e
end
def inR:Cq->Int->Prop
 |.i8,z=>-128<=z/\z<=127
 |.i16,z=>-32768<=z/\z<=32767
 |.i32,z=>-2147483648<=z/\z<=2147483647
 |.i64,z=>-9223372036854775808<=z/\z<=9223372036854775807
 |.u8,z=>0<=z/\z<=255
 |.u16,z=>0<=z/\z<=65535
 |.u32,z=>0<=z/\z<=4294967295
 |.u64,z=>0<=z/\z<=18446744073709551615
def FC {k:Cq} {z:Int} (h:inR k z):k.wrap z=z:=by
 cases k<;>simp only[inR] at h<;>simp only[IntKind.wrap,IntKind.bits,IntKind.signed]<;>simp<;>omega
def D8 (k:Cq) (a b:Int):Int:=k.wrap (BitVec.ofInt k.bits a&&&BitVec.ofInt k.bits b).toNat
def JP (k:Cq) (a b:Int):Int:=k.wrap (BitVec.ofInt k.bits a|||BitVec.ofInt k.bits b).toNat
def Oe (k:Cq) (a b:Int):Int:=k.wrap (BitVec.ofInt k.bits a^^^BitVec.ofInt k.bits b).toNat
def Es (k:Cq) (a b:Int):Int:=k.wrap (a*2^min b.toNat k.bits)
def UX (a b:Int):Int:=IntKind.wrap .u64 (a-b)
def T0 {a b:Int} (h:inR .u64 (a-b)):UX a b=a-b:=FC h
def DN (k:Cq) (a b:Int):Int:=a.fdiv (2^min b.toNat k.bits)
inductive Bv where
 |sure (v:Aa)
 |bg (p:Prop) (v:Aa)
 |other
def Adh (op:CT) (x y:Aa):Bv:=
 match x,y with
 |
  .int k a,.int k' b=>(match op with
  |.shl=>.bg (0<=b) (.int k (Es k a b))
  |.shr=>.bg (0<=b) (.int k (DN k a b))
  |
   op=>bif Am (Ld k) (Ld k') then(match op with
   |.add=>.bg (inR k (a+b)) (.int k (a+b))
   |
    .sub=>(match k with
    |.u64=>.sure (.int .u64 (UX a b))
    |k=>.bg (inR k (a-b)) (.int k (a-b)))
   |.mul=>.bg (inR k (a*b)) (.int k (a*b))
   |.quo=>.bg (0<=a/\0<b/\inR k a) (.int k (a/b))
   |.rem=>.bg (0<=a/\0<b) (.int k (a%b))
   |.and=>.sure (.int k (D8 k a b))
   |.or=>.sure (.int k (JP k a b))
   |.xor=>.sure (.int k (Oe k a b))
   |.eql=>.sure (.bool (decide (a=b)))
   |.neq=>.sure (.bool (!decide (a=b)))
   |.lss=>.sure (.bool (decide (a<b)))
   |.leq=>.sure (.bool (decide (a<=b)))
   |.gtr=>.sure (.bool (decide (b<a)))
   |.geq=>.sure (.bool (decide (b<=a)))
   |_=>.other) else .other)
 |_,_=>.other
def Aaw {k k':Cq} (h:Am (Ld k) (Ld k')=Ag):k=k':=by
 cases k<;>cases k'<;>first|rfl|(exact Cf h (by decide))
def NU {op:CT} {t:Ai} {k k':Cq} {a b:Int} {u:Aa} (h:Hn (binOp op t (.int k a) (.int k' b))=I u):Ajn op t k a k' b=I u:=by
 cases a with
 |negSucc x=>exact h
 |
  ofNat x=>
  cases b with
  |negSucc y=>exact h
  |
   ofNat y=>
   show IG (IG (shN op k x y) (B1 (motive:=λ_=>Option Aa) Z (Vl op k x y) (O9 k k'))) (Hn (binOp op t (.int k (AQ x)) (.int k' (AQ y))))=I u;have c:∀v,Ajn op t k (AQ x) k' (AQ y)=I v->v=u:=λv d=>by
    have:=Rm d;rw[h] at this;exact(Option.some.inj this).symm
   cases e:IG (IG (shN op k x y) (B1 (motive:=λ_=>Option Aa) Z (Vl op k x y) (O9 k k'))) (Hn (binOp op t (.int k (AQ x)) (.int k' (AQ y)))) with
   |some v=>rw[c v e]
   |
    none=>
    rw[h] at e;generalize IG (shN op k x y) _=z at e;cases z<;>cases e
def CX {op:CT} {t:Ai} {k:Cq} {a b:Int} (c:op≠.shl) (d:op≠.shr):binOp op t (.int k a) (.int k b)=
 match op with
 |.add|.sub|.mul=>Op.intArith op k a b
 |.quo|.rem=>Op.intDiv op k a b
 |.and|.or|.xor|.andNot=>Op.intBits op k a b
 |_=>Op.intCmp op a b:=by
 cases op<;>first|exact Cf B c|exact Cf B d|(simp[binOp])
def Bv.ok (b:Bv) (r:Option Aa):Prop:=match b with
 |.sure v=>r=I v
 |.bg p v=>p->r=I v
 |.other=>True
def MX {τ:Bb} {op:CT} {t:Ai} {ox oy:BU} {x y:Aa}:(Adh op x y).ok (Jo τ op t ox oy x y):=by
 unfold Adh;split
 case h_2=>trivial
 rename_i k a k' b;have hb:∀op u,Hn (binOp op t (.int k a) (.int k' b))=I u->Jo τ op t ox oy (.int k a) (.int k' b)=I u:=λop u h=>NU h;have d:∀(op:CT),Op.shift op k a k' b=(if b<0 then runtimePanic (.error "negative shift amount") else match op with
  |.shl=>pure (.int k (k.wrap (a*2^min b.toNat k.bits)))
  |.shr=>pure (.int k (a.fdiv (2^min b.toNat k.bits)))
  |_=>stuck "shift: << >> expected"):=λop=>rfl
 split
 .intro h
  apply hb;show Hn (Op.shift .shl k a k' b)=_;rw[d,Bm (by omega)];rfl
 .intro h
  apply hb;show Hn (Op.shift .shr k a k' b)=_;rw[d,Bm (by omega)];rfl
 .rename_i f g
  cases i:Am (Ld k) (Ld k') with
  |false=>trivial
  |
   true=>
   have:=Aaw i;subst this;cases op<;>simp only[D1]<;>try trivial
   all_goals try(exact Cf B f)
   all_goals try(exact Cf B g)
   case add=>intro h;apply hb;rw[CX (by simp) (by simp)];simp only[Op.intArith];rw[FC h];rfl
   case sub=>
    cases k<;>first|(intro h;apply hb;rw[CX (by simp) (by simp)];simp only[Op.intArith];rw[FC h];rfl)|(apply hb;rw[CX (by simp) (by simp)];rfl)
   case mul=>intro h;apply hb;rw[CX (by simp) (by simp)];simp only[Op.intArith];rw[FC h];rfl
   case quo=>
    rintro⟨c,j,l⟩;apply hb;rw[CX (by simp) (by simp)];simp only[Op.intDiv];rw[Bm (by omega)];have e:a.tdiv b=a/b:=Int.tdiv_eq_ediv_of_nonneg c;have m:inR k (a/b):=by
     have n:0<=a/b:=Int.ediv_nonneg c (by omega);have o:a/b<=a:=Int.ediv_le_self _ c;cases k<;>simp only[inR] at l⊢<;>omega
    rw[e,FC m];rfl
   case rem=>
    rintro⟨c,j⟩;apply hb;rw[CX (by simp) (by simp)];simp only[Op.intDiv];rw[Bm (by omega),Int.tmod_eq_emod_of_nonneg c];rfl
   case and=>apply hb;rw[CX (by simp) (by simp)];rfl
   case or=>apply hb;rw[CX (by simp) (by simp)];rfl
   case xor=>apply hb;rw[CX (by simp) (by simp)];rfl
   case eql=>apply hb;rw[CX (by simp) (by simp)];simp only[Op.intCmp];rw[show(a==b)=decide (a=b) from B];rfl
   case neq=>apply hb;rw[CX (by simp) (by simp)];simp only[Op.intCmp,bne];rw[show(a==b)=decide (a=b) from B];rfl
   case lss=>apply hb;rw[CX (by simp) (by simp)];rfl
   case leq=>apply hb;rw[CX (by simp) (by simp)];rfl
   case gtr=>apply hb;rw[CX (by simp) (by simp)];rfl
   case geq=>apply hb;rw[CX (by simp) (by simp)];rfl
def Anf:BU->Bool
 |.const (.int _ (.ofNat n))=>Am n 2
 |_=>Ah
def Aqm (op:CT) (y:BU) (a b:Aa):Bv:=match op with
 |.quo=>bif Anf y then .other else Adh .quo a b
 |op=>Adh op a b
def X7 {τ:Bb} {op:CT} {t:Ai} {ox oy:BU} {x y:Aa}:(Aqm op oy x y).ok (Jo τ op t ox oy x y):=by
 unfold Aqm;split
 .cases Anf oy
  .exact(MX:(Adh .quo x y).ok _)
  .trivial
 .exact MX
def Awi {τ:Bb} {t:Ai} {ox oy:BU} {a:Int} (h:0<=a/\inR .i64 a):Jo τ .quo t ox oy (.int .i64 a) (.int .i64 2)=I (.int .i64 (a/2)):=
 (MX (τ:=τ) (op:=.quo) (t:=t) (ox:=ox) (oy:=oy) (x:=.int .i64 a) (y:=.int .i64 2)) ⟨h.1,by decide,h.2⟩
def Cd (call:Be) (f:Fn) (a:AH) (h:Y) (Q:Aa->Y->Prop):Prop:=∃v J,Q v J/\∀k kp,call f a h k kp=k v J
def Cd.mono {call:Be} {f:Fn} {a:AH} {h:Y} {Q Q':Aa->Y->Prop} (c:Cd call f a h Q) (b:∀v J,Q v J->Q' v J):Cd call f a h Q':=by
 obtain⟨v,J,d,e⟩:=c;exact⟨v,J,b _ _ d,e⟩
def Sat (p:EO->Prop) (r:RR):Prop:=∃o,r=I o/\o≠[]/\∀x∈o,p x
def Sat.join {p:EO->Prop} {a b:RR} (x:Sat p a) (y:Sat p b):Sat p (Ns a b):=by
 obtain⟨o,rfl,d,e⟩:=x;obtain⟨o',rfl,g,f⟩:=y;refine⟨o++o',B,by simp[d],λx c=>?_⟩;rcases List.mem_append.1 c with c|c
 .exact e x c
 .exact f x c
def CdA (call:Be) (f:Fn) (a:AH) (h:Y) (Q:Aa->Y->Prop):Prop:=∀k kp p,(∀v J,Q v J->Sat p (k v J))->Sat p (call f a h k kp)
def Cd.any {call:Be} {f:Fn} {a:AH} {h:Y} {Q:Aa->Y->Prop} (c:Cd call f a h Q):CdA call f a h Q:=by
 obtain⟨v,J,b,d⟩:=c;exact λk kp p H=>by rw[d];exact H _ _ b
def CdA.mono {call:Be} {f:Fn} {a:AH} {h:Y} {Q Q':Aa->Y->Prop} (c:CdA call f a h Q) (b:∀v J,Q v J->Q' v J):CdA call f a h Q':=λk kp p H=>c k kp p λv J d=>H v J (b v J d)
def CdM (m:Bool) (call:Be) (f:Fn) (a:AH) (h:Y) (Q:Aa->Y->Prop):Prop:=match m with
 |false=>Cd call f a h Q
 |true=>CdA call f a h Q
def ZT (t:Bool) (p q:Prop):Prop:=match t with
 |true=>p
 |false=>q
def Ad {t:Bool} {p q:Prop} (a:t=Ag->p) (b:t=Ah->q):ZT t p q:=by
 cases t
 .exact b B
 .exact a rfl
def Cv (s:Bd) (n:Nat):UInt8:=s.data.toList.getD n 0
section
variable(m:Bool) (τ:Bb) (call:Be)
def JW (f:Fn) (a:AH) (h:Y) (k:Aa->Y->Prop):Prop:=∃Q,CdM m call f a h Q/\∀v J,Q v J->k v J
def Akh (b:Aa) (a:AH) (h:Y) (k:Aa->Y->Prop):Prop:=
 match b with
 |.func (.func f) first cap=>JW m call (.func f) (first.toList++a++cap.toList) h k
 |.func (.yield l) first _=>JW m call (.yield l) (first.toList++a) h k
 |_=>False
def Aqb (a:List Ai):Bool:=match a with
 |t::_=>(match τ.ds.get t with|some (.slice _)=>Ag|_=>Ah)
 |_=>Ah
def Aqd (a:List Ai):Bool:=match a with
 |t::_=>(match τ.ds.get t with|some .string=>Ag|_=>Ah)
 |_=>Ah
def Aff (A:As) (h:Y) (o:Op) (k:Aa->Y->Prop):Prop:=match D9 τ A h o with
 |some (v,J)=>k v J
 |none=>False
def Agj (A:As) (h:Y) (o:Op) (k:Aa->Y->Prop):Prop:=∃v J,D9 τ A h o=I (v,J)/\k v J
def PG (A:As) (h:Y) (o:Op) (k:Aa->Y->Prop):Prop:=
 match o with
 |.move x|.assign x=>(match Dn τ A x with|some v=>k v h|none=>False)
 |
  .call c=>(match RY τ A c.args.toList with
  |none=>False
  |
   some vs=>match c.callee with
   |
    .builtin b=>(match b,vs with
    |.min,[.int q a,.int _ b]=>∀z,(z<=a/\z<=b/\(z=a\/z=b))->k (.int q z) h
    |.max,[.int q a,.int _ b]=>∀z,(a<=z/\b<=z/\(z=a\/z=b))->k (.int q z) h
    |.len,[.slice _ n _]=>bif Aqb τ c.argTypes.toList then k (.int .i64 (n:Int)) h else False
    |.len,[.string s]=>bif Aqd τ c.argTypes.toList then k (.int .i64 (s.size:Int)) h else False
    |b,vs=>∃v J,Bx τ b c.argTypes.toList vs h=I (v,J)/\k v J)
   |
    .invoke r C=>(match Dn τ A r with
    |some (.iface t v)=>∃f w,No τ h t v C=I (f,w)/\JW m call (.func f) (w::vs) h k
    |_=>False)
   |.value f=>(match Dn τ A f with|some D=>Akh m call D vs h k|none=>False))
 |
  .next it s=>(match Dn τ A it with
  |
   some v=>(match m with
   |false=>∃g J,FT v s h=I [(g,J)]/\k g J
   |true=>∃x l,FT v s h=I (x::l)/\∀u J,(u,J)∈x::l->k u J)
  |none=>False)
 |.panic _|.defer _=>False
 |
  .binOp op t x y _=>(match Dn τ A x,Dn τ A y with
  |
   some a,I b=>(match Aqm op y a b with
   |.sure v=>k v h
   |.bg p v=>p/\k v h
   |.other=>∃v,Jo τ op t x y a b=I v/\k v h)
  |_,_=>False)
 |
  .pick c a b=>(match Dn τ A c with
  |some (.bool t)=>ZT t (match Dn τ A a with|some v=>k v h|none=>False) (match Dn τ A b with|some v=>k v h|none=>False)
  |_=>False)
 |
  .load t a=>(match Dn τ A a with
  |some (.pointer (I ⟨id,off,Z⟩))=>∃v,Bw τ t h id off=I v/\k v h
  |_=>False)
 |
  .store t a x=>(match Dn τ A a,Dn τ A x with
  |some (.pointer (I ⟨id,off,Z⟩)),I v=>∃J,BA τ t h id off v=I J/\k (.tuple #[]) J
  |_,_=>False)
 |
  .convert s d x=>(match Dn τ A x with
  |
   some (.int q n)=>(match τ.ds.get s,τ.ds.get d with
   |some _,I (.int k')=>∃z,(inR k' n/\z=n\/z=k'.wrap n)/\k (.int k' z) h
   |_,_=>∃g,Ea τ s d (.int q n) h=I (g,h)/\k g h)
  |some (.string b)=>∃g J,Ea τ s d (.string b) h=I (g,J)/\k g J
  |some v=>∃g,Ea τ s d v h=I (g,h)/\k g h
  |none=>False)
 |
  .indexAddr t x i=>(match Dn τ A x,Dn τ A i,τ.ds.get t with
  |
   some (.slice (I a) len _),I (.int _ z),I (.slice e)=>(match τ.aj.get e with
   |some j=>(0<=z/\z<(len:Int))/\k (AG a.block (a.off+z.toNat*j.size)) h
   |none=>False)
  |
   some (.pointer (I ⟨id,off,Z⟩)),I (.int _ z),I (.array len e)=>(match τ.aj.get e with
   |some j=>(0<=z/\z<(len:Int))/\k (AG id (off+z.toNat*j.size)) h
   |none=>False)
  |_,_,_=>False)
 |
  .index t x i=>(match Dn τ A x,Dn τ A i with
  |
   some (.string s),I (.int _ z)=>(match τ.ds.get t with
   |some .string=>(0<=z/\z<(s.size:Int))/\k (.int .u8 (Cv s z.toNat).toNat) h
   |_=>False)
  |some a,I b=>∃v,I8 τ t a b=I v/\k v h
  |_,_=>False)
 |.makeInterface ..|.makeFunc ..|.extract ..|.nilCheck ..|.fieldAddr ..|.field ..|.build ..|.makeMap ..=>Aff τ A h o k
 |o=>Agj τ A h o k
def QD (A:As) (h:Y) (o:Op) (k:Aa->Y->Prop):Prop:=
 match o with
 |
  .convert s d x=>(match Dn τ A x,τ.ds.get d with
  |some (.slice _ _ _),I (.slice _)=>Agj τ A h (.convert s d x) k
  |_,_=>PG m τ call A h (.convert s d x) k)
 |o=>PG m τ call A h o k
def MW (A:As) (AU:List C0) (a skip:As->Prop):Option (Nat×Bool)->Prop
 |none=>a A
 |
  some (j,c)=>(match AU[j]? with
  |
   some o=>(match o.dst with
   |
    some t=>(match look A t with
    |some (.bool b)=>ZT b (bif c then a ((t,.bool Ag)::A) else skip ((t,.bool Ag)::A)) (bif c then skip ((t,.bool Ah)::A) else a ((t,.bool Ah)::A))
    |some (.tuple _)=>skip A
    |_=>False)
   |none=>False)
  |none=>False)
def HA (sz:Nat) (A:As) (d:Option Tmp) (v:Aa) (k:As->Prop):Prop:=match d with
 |none=>k A
 |some t=>bif AD t sz then k ((t,v)::A) else False
def JV (sz:Nat) (AU:List C0) (k:As->Y->Prop) (l:List C0):As->Y->Prop:=
 Hg (motive:=λ_=>As->Y->Prop) (λA h=>k A h) (λo _ a A h=>MW A AU (λA=>QD m τ call A h o.op λv J=>HA sz A o.dst v λA=>a A J)
  (λA=>HA sz A o.dst (.tuple #[]) λA=>a A h) o.guard) l
inductive Cl where
 |q|a|r|w
def RS:Op->Bool
 |.call c=>(match c.callee with|.builtin _=>Ah|_=>Ag)
 |_=>Ah
def K5 (b:Bool) (o:Op):Cl:=
 bif Dj o then .q else match o with
 |.alloc _|.box ..|.build ..|.buildSlice ..|.makeSlice ..|.makeMap ..=>.a
 |.load ..|.lookup ..|.convert ..|.range ..|.entry ..|.typeAssert ..=>.r
 |
  .call c=>(match c.callee with
  |.builtin .len|.builtin .cap|.builtin .min|.builtin .max|.builtin .unsafeSliceData=>.r
  |.builtin _=>.w
  |_=>bif b then .r else .w)
 |_=>.w
def Aqo:Cl->Cl->Bool
 |.r,.w|.w,.a|.w,.r|.w,.w=>Ag
 |_,_=>Ah
inductive DX where
 |w (i:Nat)
 |x (i j:Nat)
def exI (c:List DX) (i j:Nat):Bool:=c.any λd=>match d with
 |.x a b=>Am a i&&Am b j
 |_=>Ah
def inX (c:List DX) (i:Nat):Bool:=c.any λd=>match d with
 |.x a b=>Am a i||Am b i
 |_=>Ah
def Nt (a:List DX) (b:Bo) (i:Nat) (c:Cl):Nat->List Cl->Bool
 |_,[]=>Ag
 |j,d::l=>(!(Aqo c d)||Hy b i j||exI a i j)&&Nt a b i c (A3 j) l
def frI (a:List DX) (i:Nat):Bool:=!(a.any λd=>match d with
 |.w k=>Am i k
 |_=>Ah)
def L5 (a:List DX) (b:Bo):Nat->List Cl->List C0->Bool
 |_,_,[]=>Ag
 |i,cs,o::l=>Nt a b i (K5 (frI a i) o.op) 0 cs&&L5 a b (A3 i) (cs++[K5 (frI a i) o.op]) l
def Aez (a:List DX) (AU:Array C0):Bool:=AU.toList.all (λo=>QI AU.toList o.guard)&&L5 a (Df AU).toList 0 [] AU.toList
inductive UO where
 |ld (id:Nat)
 |lk (id:Nat) (t:Ai)
 |wr (s:WS)
 |me (t:Ai) (r:Nat) (s:WS)
 |no
def ob:UO->UO->Prop
 |.wr s,.ld id|.ld id,.wr s|.me _ _ s,.ld id|.ld id,.me _ _ s=>s.hasB id=Ah
 |.me t r s,.lk _ a|.lk _ a,.me t r s=>s=.one r/\Am a t=Ag
 |.ld _,.ld _=>True
 |_,_=>False
def Qk (A:As) (o:Op) (J:Y):UO:=match o with
 |.load _ a=>(match Dn τ A a with|some (.pointer (I ⟨id,_,Z⟩))=>.ld id|_=>.no)
 |.lookup t m _ Ah=>(match Dn τ A m with|some (.map (I r))=>.lk r t|_=>.no)
 |.mapEntry t m _=>(match Dn τ A m with|some (.map (I r))=>.me t r J.lo|_=>.wr J.lo)
 |_=>.wr J.lo
def Adj (b:List DX) (i:Nat) (c:UO) (P:Prop) (d:List (Nat×UO)):Prop:=Hg (motive:=λ_=>Prop) P (λp _ a=>bif exI b i p.1 then ob c p.2/\a else a) d
def Tw (b:List DX) (i:Nat) (c:UO) (a:List (Nat×UO)):List (Nat×UO):=bif inX b i then(i,c)::a else a
def N5 (h:Y) (s:WS):Prop:=s.ag h.nx=Ag\/(match s with
 |.one b|.pair b _=>∃hb,h.t.get b=I hb/\hb.live=Ag
 |_=>True)
def Qy (o:Op):Bool:=Dj o||(match o with
 |.load ..|.lookup ..|.entry ..|.typeAssert ..=>Ag
 |.call c=>(match c.callee with|.builtin .len|.builtin .cap|.builtin .min|.builtin .max|.builtin .unsafeSliceData=>Ag|_=>Ah)
 |_=>Ah)
def Kb (a:List DX) (sz:Nat) (AU:List C0) (k:As->Y->Prop) (l:List C0):Nat->List (Nat×UO)->As->Y->Prop:=
 Hg (motive:=λ_=>Nat->List (Nat×UO)->As->Y->Prop) (λ_ _ A h=>k A h) (λo _ d i b A h=>MW A AU (λA=>PG Ah τ call A h.ad o.op λv J=>Adj a i (Qk τ A o.op J) (
  bif RS o.op then(bif frI a i then J.lo.ag h.nx=Ag else N5 h J.lo)/\HA sz A o.dst v λc=>d (A3 i) (Tw a i (Qk τ A o.op J) b) c (h.aa J)
  else bif Qy o.op then HA sz A o.dst v (λc=>d (A3 i) (Tw a i (Qk τ A o.op J) b) c h) else HA sz A o.dst v (λc=>d (A3 i) (Tw a i (Qk τ A o.op J) b) c (h.aa J))) b)
  (λA=>HA sz A o.dst (.tuple #[]) λA=>d (A3 i) b A h) o.guard) l
def JA (sz:Nat) (AU:Array C0) (b:Bool) (k:As->Y->Prop) (A:As) (h:Y):Prop:=match b with
 |false=>JV m τ call sz AU.toList k AU.toList A h
 |true=>∃a,Aez a AU=Ag/\Kb τ call a sz AU.toList k AU.toList 0 [] A h
def Sub (l A:As):Prop:=∀t v,look l t=I v->look A t=I v
end
structure KG (σ:Type) where
 n:As->σ->Y->Prop
 x:Nat->As->σ->Y->Prop
 r:As->σ->Y->Prop
 p:Aa->As->σ->Y->Prop
def KG.wn {σ:Type} (K:KG σ) (n:As->σ->Y->Prop):KG σ:=KG.rec (motive:=λ_=>KG σ) (λ_ x r p=>⟨n,x,r,p⟩) K
def KG.bk {σ:Type} (id:Nat) (K:KG σ):KG σ:=KG.rec (motive:=λ_=>KG σ) (λn x r p=>⟨n,λa A s h=>bif Am a id then n A s h else x a A s h,r,p⟩) K
structure Md (σ:Type) where
 c3:Bool
 cH:Option (Nat->σ->σ)
 lp:Nat->(KG σ->As->σ->Y->Prop)->KG σ->As->σ->Y->Prop
def Akd:List C0->Option (List C0×BU):=Hg Z λo l a=>match l with
 |
  []=>(match o with
  |⟨Z,.panic x,_,_,_,Z⟩=>I ([],x)
  |_=>Z)
 |_=>(match a with|some (l',x)=>I (o::l',x)|none=>Z)
section
variable(m:Bool) (τ:Bb) (call:Be) {σ:Type}
def Aer (L:Nat) (c:KG σ->As->σ->Y->Prop) (K:KG σ) (A:As) (s:σ) (h:Y):Prop:=
 ∃b:Nat->As->σ->Y->Prop,(∃m a,Sub a A/\m<L/\b m a s h)/\
  ∀m A s h,b m A s h->m<L->c (K.wn λd e J=>∃m' a,Sub a d/\m'<m/\b m' a e J) A s h
def Akr (L:Nat) (c:KG Unit->As->Unit->Y->Prop) (K:KG Unit) (A:As) (_:Unit) (h:Y):Prop:=
 ∃b:Nat->As->Y->Prop,(∃m a,Sub a A/\m<L/\b m a h)/\
  ∀m A h,b m A h->m<L->c (K.wn λd _ J=>∃m' a,Sub a d/\m'<m/\b m' a J) A () h
def mdU (b:Bool):Md Unit:=⟨b,Z,Akr⟩
def mdD:Md Bo:=⟨Ah,I List.cons,Aer⟩
def Anx (l:Nat) (K:KG σ) (A:As) (s:σ) (h:Y):Prop:=
 ∃st a b sz ps c e d,h.t.get l=I (.loop st a b sz ps c e d)/\st≠.busy/\(match a with
  |none=>K.n A s (h.put l (.loop .exhausted a b sz ps c e d))
  |some .ret=>K.r A s (h.put l (.loop .exhausted a b sz ps c e d))
  |some (.exit id)=>K.x id A s (h.put l (.loop .exhausted a b sz ps c e d))
  |_=>False)
def QU (g:Nat->σ->σ) (sz:Nat) (ps:Array Tmp) (b c:DC) (K:KG σ) (A:As) (s:σ) (h:Y):Option Aa->Prop
 |some (.func (.func f) first cap)=>(match τ.fn.get f with|some fn=>fn.body.isSome=Ag|none=>False)/\∀a,Gx A ⟨a,sz,[]⟩->
  JW m call (.func f) (first.toList++[.func (.yield (A3 h.nx)) #[] #[]]++cap.toList) ((h.new (.aq Ah)).new (.loop .ready Z a sz ps.toList b c h.nx)) (λ_ d=>Anx (A3 h.nx) K A (g h.nx s) d)
 |_=>False
def IH (M:Md σ) (L:Nat) (sz:Nat) (c:DC):KG σ->As->σ->Y->Prop:=
 Code.rec (motive:=λ_=>KG σ->As->σ->Y->Prop)
  (λK A s h=>K.n A s h)
  (λ_ AU d K A s h=>match M.c3 with
   |false=>JA m τ call sz AU d (λA h=>K.n A s h) A h
   |true=>match Akd AU.toList with
    |some (l,x)=>d=Ah/\JV m τ call sz AU.toList (λA h=>match Dn τ A x with|some (.iface t v)=>K.p (.iface t v) A s h|_=>False) l A h
    |none=>JA m τ call sz AU d (λA h=>K.n A s h) A h)
  (λ_ _ a b K A s h=>a (K.wn (b K)) A s h)
  (λc _ _ a b K A s h=>match Dn τ A c with
   |some (.bool t)=>ZT t (a K A s h) (b K A s h)
   |_=>False)
  (λid _ c K A s h=>c (K.bk id) A s h)
  (λ_ c K A s h=>M.lp L c K A s h)
  (λf ps e i _ _ K A s h=>match M.cH with|some g=>QU m τ call g sz ps e i K A s h (Dn τ A f)|none=>False)
  (λid K A s h=>K.x id A s h)
  (λ_ c K A s h=>c K A s h)
  (λ_ K A s h=>K.n A s h)
  (λ_ _ _ _ _=>False)
  (λK A s h=>K.r A s h)
  (λ_ _ _ _ _=>False) c
abbrev kp (n:As->Y->Prop) (x:Nat->As->Y->Prop) (r:As->Y->Prop):KG Unit:=⟨λA _ h=>n A h,λi A _ h=>x i A h,λA _ h=>r A h,λ_ _ _ _=>False⟩
abbrev J2 (L sz:Nat) (c:DC) (K:KG Unit) (A:As) (h:Y):Prop:=IH Ah τ call (mdU Ah) L sz c K A () h
def Ex (A:As) (h:Y) (l:List ResultVar):(AH->Prop)->Prop:=
 Hg (motive:=λ_=>(AH->Prop)->Prop) (λk=>k []) (λr _ b k=>match r with
  |.tmp t=>(match look A t with|some v=>b (λvs=>k (v::vs))|none=>False)
  |
   .cell a t=>(match look A a with
   |some (.pointer (I ⟨id,off,Z⟩))=>∃v,Bw τ t h id off=I v/\b (λvs=>k (v::vs))
   |_=>False)) l
def PJ (l:AH):Nat->As:=Hg (motive:=λ_=>Nat->As) (λ_=>[]) (λv _ a i=>(i,v)::a (A3 i)) l
def Adq (L:Nat) (fn:BC) (a:AH) (h:Y) (Q:Aa->Y->Prop):Prop:=
 match fn.body with
 |some c=>J2 τ call L fn.ntmps c
  (kp (λA h=>Ex τ A h fn.results.toList (λvs=>Q (Ff vs) h)) (λ_ _ _=>False) (λA h=>Ex τ A h fn.results.toList (λvs=>Q (Ff vs) h))) (PJ a 0) h
 |none=>False
abbrev YR (L:Nat) (fn:BC) (a:AH) (h:Y) (Q:Aa->Y->Prop):Prop:=a.length<=fn.ntmps/\Adq τ call L fn a h Q
def Og:Bo->(Y->Prop)->Y->Prop
 |[],k,h=>k h
 |b::D,k,h=>h.t.get b=I (.aq Ah)/\Og D k (h.put b (.aq Ag))
def MT (L:Nat) (fn:BC) (a:AH) (h:Y) (Q:Aa->Y->Prop):Prop:=
 match fn.body with
 |some c=>(a.length<=fn.ntmps)/\IH m τ call mdD L fn.ntmps c
  (KG.mk (λA D h=>Og D (λh=>Ex τ A h fn.results.toList (λvs=>Q (Ff vs) h)) h) (λ_ _ _ _=>False) (λA D h=>Og D (λh=>Ex τ A h fn.results.toList (λvs=>Q (Ff vs) h)) h) λ_ _ _ _=>False) (PJ a 0) [] h
 |none=>False
end
section
variable{τ:Bb} {call:Be} {A:As} {fr:Fr}
def TY {f:Fn} {a:AH} {h:Y} {k:Aa->Y->Prop} (c:JW Ah call f a h k):∃v J,k v J/\∀kk kp,call f a h kk kp=kk v J:=by
 obtain⟨Q,⟨v,J,b,d⟩,e⟩:=c;exact⟨v,J,e _ _ b,d⟩
def X9 {a:Aa} {b:AH} {h:Y} {k:Aa->Y->Prop} (c:Akh Ah call a b h k):∃v J,k v J/\∀kk kp,Vn call a b h kk kp=kk v J:=by
 unfold Akh at c;split at c
 .exact TY c
 .exact TY c
 .cases c
def Aie {s d:Ai} {k:Cq} {n:Int} {h:Y} {a:Apj} {k':Cq} (b:τ.ds.get s=I a) (c:τ.ds.get d=I (.int k')):Ea τ s d (.int k n) h=I (.int k' (k'.wrap n),h):=by
 unfold Ea;rw[b,c]
def Aan {t e:Ai} {a:BD} {len cap:Nat} {k:Cq} {z:Int} {b:KR} (d:τ.ds.get t=I (.slice e)) (f:τ.aj.get e=I b) (c:0<=z/\z<(len:Int)):
 EE τ t (.slice (I a) len cap) (.int k z)=I (AG a.block (a.off+z.toNat*b.size)):=by
 obtain⟨n,rfl⟩:∃n:Nat,z=AQ n:=⟨z.toNat,(UQ c.1).symm⟩;unfold EE;simp only[d,Fs,f];have:AD n len=true:=by rw[AK];have:=c.2;simp only[M9] at this;omega
 rw[this];rfl
def Abm {t e:Ai} {id off len:Nat} {k:Cq} {z:Int} {a:KR} (c:τ.ds.get t=I (.array len e)) (d:τ.aj.get e=I a) (b:0<=z/\z<(len:Int)):
 EE τ t (.pointer (I ⟨id,off,Z⟩)) (.int k z)=I (AG id (off+z.toNat*a.size)):=by
 obtain⟨n,rfl⟩:∃n:Nat,z=AQ n:=⟨z.toNat,(UQ b.1).symm⟩;unfold EE;simp only[c,Fs,d];have:AD n len=true:=by rw[AK];have:=b.2;simp only[M9] at this;omega
 rw[this];rfl
def Akl {t:Ai} {s:Bd} {k:Cq} {z:Int} (c:τ.ds.get t=I .string) (a:0<=z/\z<(s.size:Int)):
 I8 τ t (.string s) (.int k z)=I (.int .u8 (Cv s z.toNat).toNat):=by
 obtain⟨n,rfl⟩:∃n:Nat,z=AQ n:=⟨z.toNat,(UQ a.1).symm⟩;unfold I8;simp only[c,Fs];have b:n<s.data.toList.length:=by
  have:=a.2;simp only[M9] at this;have:s.data.toList.length=s.size:=by simp
  omega
 rw[Ab b];simp[Cv,List.getD,Ab b]
def Uy {s d:Ai} {b:Bd} {h J:Y} {v:Aa} (c:Ea τ s d (.string b) h=I (v,J)):J.lo=h.lo:=by
 unfold Ea at c;split at c
 case h_2=>cases c
 rename_i f g _ _;cases g with
 |string=>cases f<;>(cases c;rfl)
 |
  slice e=>
  have a:(bif Gv τ e then(match τ.ds.get e with
   |some (.int .u8)=>I (PA (I ⟨h.nx,0,Z⟩) b.size b.size,h.new (.cells (T.laid (b.data.toList.map λb=>AL .u8 b.toNat) 0 .nil) b.size e 1 0 Ah))
   |some (.int .i32)=>I (PA (I ⟨h.nx,0,Z⟩) (CA b.size b.data.toList).length (CA b.size b.data.toList).length,h.new (.cells (T.laid (CA b.size b.data.toList) 0 .nil) (CA b.size b.data.toList).length e 0 0 Ah))
   |_=>Z) else Z)=I (v,J):=by cases f<;>exact c
  cases i:Gv τ e<;>rw[i] at a<;>simp only[D1,I0] at a
  .cases a
  .split at a
   .cases a;exact Lo _ _
   .cases a;exact Lo _ _
   .cases a
 |_=>cases f<;>cases c
def Kj (r:Gx A fr) {h:Y} {o:Op} {k:Aa->Y->Prop} (c:PG Ah τ call A h o k):
 ∃v J,k v J/\(∀kk kp,F9 τ call fr h o kk kp=kk v J)/\(RS o=Ag\/(∃b vs c,o=.call c/\c.callee=.builtin b/\Bx τ b c.argTypes.toList vs h=I (v,J)/\O8 τ fr c.args.toList=I vs)\/
  (∃it s K,o=.next it s/\FT K s h=I [(v,J)])\/Ch τ fr h o=I (v,J)/\(∀s d x,o=.convert s d x->J.lo=h.lo)):=by
 have R:∀{o:Op} {v:Aa} {J:Y},Ch τ fr h o=I (v,J)->(∀c,o≠.call c)->(∀i s,o≠.next i s)->(∀x,o≠.panic x)->∀kk kp,F9 τ call fr h o kk kp=kk v J:=by
  intro o v J E g l O kk kp;cases o<;>simp only[F9]<;>first|(rw[E];done)|exact Cf B (g _)|exact Cf B (l _ _)|exact Cf B (O _)|(rw[E])
 have Da:∀{o:Op} {v:Aa} {J:Y},k v J->D9 τ A h o=I (v,J)->(∀c,o≠.call c)->(∀i s,o≠.next i s)->(∀x,o≠.panic x)->(∀s d x,o=.convert s d x->J.lo=h.lo)->
  ∃v J,k v J/\(∀kk kp,F9 τ call fr h o kk kp=kk v J)/\(RS o=Ag\/(∃b vs c,o=.call c/\c.callee=.builtin b/\Bx τ b c.argTypes.toList vs h=I (v,J)/\O8 τ fr c.args.toList=I vs)\/
  (∃it s K,o=.next it s/\FT K s h=I [(v,J)])\/Ch τ fr h o=I (v,J)/\(∀s d x,o=.convert s d x->J.lo=h.lo)):=
  λF E g l O S=>⟨_,_,F,R (IS r E) g l O,.inr (.inr (.inr ⟨IS r E,S⟩))⟩
 unfold PG at c;split at c
 .rename_i x
  split at c
  .rename_i v m;exact Da (o:=.move x) c (by simp only[D9,m,CN]) (by simp) (by simp) (by simp) (by simp)
  .cases c
 .rename_i x
  split at c
  .rename_i v m;exact Da (o:=.assign x) c (by simp only[D9,m,CN]) (by simp) (by simp) (by simp) (by simp)
  .cases c
 .rename_i cl
  split at c
  .cases c
  .rename_i vs T
   have N:=FX r T;split at c
   .rename_i b hb
    have L:∀{v J},Bx τ b cl.argTypes.toList vs h=I (v,J)->k v J->∃v J,k v J/\(∀kk kp,F9 τ call fr h (.call cl) kk kp=kk v J)/\(RS (.call cl)=Ag\/(∃b vs c,Op.call cl=.call c/\c.callee=.builtin b/\Bx τ b c.argTypes.toList vs h=I (v,J)/\O8 τ fr c.args.toList=I vs)\/
     (∃it s K,Op.call cl=.next it s/\FT K s h=I [(v,J)])\/Ch τ fr h (.call cl)=I (v,J)/\(∀s d x,Op.call cl=.convert s d x->J.lo=h.lo)):=
     λC F=>⟨_,_,F,λkk kp=>by simp only[F9,Ju,N,hb,C],.inr (.inl ⟨b,vs,cl,B,hb,C,N⟩)⟩
    split at c
    .rename_i q a V M
     refine L (v:=.int q (if M<a then M else a)) (J:=h) B (c _ ?_)
     split<;>omega
    .rename_i q a V M
     refine L (v:=.int q (if M>a then M else a)) (J:=h) B (c _ ?_)
     split<;>omega
    .rename_i a n c0
     cases j:Aqb τ cl.argTypes.toList with
     |false=>rw[j] at c;cases c
     |
      true=>
      rw[j] at c;refine L (v:=.int .i64 (n:Int)) (J:=h) ?_ c
      revert j
      unfold Aqb;cases cl.argTypes.toList with
      |nil=>intro j;cases j
      |
       cons t W=>
       intro j;simp only[] at j;split at j
       .rename_i e' D
        simp only[Bx,I7,D];rfl
       .cases j
    .rename_i s
     cases j:Aqd τ cl.argTypes.toList with
     |false=>rw[j] at c;cases c
     |
      true=>
      rw[j] at c;refine L (v:=.int .i64 (s.size:Int)) (J:=h) ?_ c
      revert j
      unfold Aqd;cases cl.argTypes.toList with
      |nil=>intro j;cases j
      |
       cons t W=>
       intro j;simp only[] at j;split at j
       .rename_i D
        simp only[Bx,I7,D];rfl
       .cases j
    .obtain⟨v,J,C,F⟩:=c
     exact L C F
   .rename_i rr ab hb
    split at c
    .rename_i t v m
     obtain⟨f,r',X,hc⟩:=c;obtain⟨H,J,g,l⟩:=TY hc;exact⟨H,J,g,λkk kp=>by simp only[F9,Ju,N,hb,Bg r m,Hd,X,l],.inl (by simp[RS,hb])⟩
    .cases c
   .rename_i f hb
    split at c
    .rename_i fv m
     obtain⟨H,J,g,l⟩:=X9 c;exact⟨H,J,g,λkk kp=>by simp only[F9,Ju,N,hb,Bg r m,l],.inl (by simp[RS,hb])⟩
    .cases c
 .rename_i it s
  split at c
  .rename_i v m
   obtain⟨H,J,g,l⟩:=c;exact⟨H,J,l,λkk kp=>by simp only[F9,Bg r m,g],.inr (.inr (.inl ⟨it,s,v,B,g⟩))⟩
  .cases c
 .cases c
 .cases c
 .rename_i op t x y u
  split at c
  .rename_i a b w hb
   have j:=X7 (τ:=τ) (op:=op) (t:=t) (ox:=x) (oy:=y) (x:=a) (y:=b);split at c
   .rename_i v m
    rw[m] at j;exact Da (o:=.binOp op t x y u) c (by simp only[D9,w,hb,show Jo τ op t x y a b=I v from j,CN]) (by simp) (by simp) (by simp) (by simp)
   .rename_i p v m
    rw[m] at j;exact Da (o:=.binOp op t x y u) c.2 (by simp only[D9,w,hb,show Jo τ op t x y a b=I v from j c.1,CN]) (by simp) (by simp) (by simp) (by simp)
   .obtain⟨v,g,l⟩:=c
    exact Da (o:=.binOp op t x y u) l (by simp only[D9,w,hb,g,CN]) (by simp) (by simp) (by simp) (by simp)
  .cases c
 .rename_i Q a b
  split at c
  .rename_i t D
   cases t with
   |
    true=>
    change (match Dn τ A a with|some v=>k v h|none=>False) at c
    split at c
    .rename_i v m;exact Da (o:=.pick Q a b) c (by simp only[D9,D,if_true,m,CN]) (by simp) (by simp) (by simp) (by simp)
    .cases c
   |
    false=>
    change (match Dn τ A b with|some v=>k v h|none=>False) at c
    split at c
    .rename_i v m;exact Da (o:=.pick Q a b) c (by simp[D9,D,m,CN]) (by simp) (by simp) (by simp) (by simp)
    .cases c
  .cases c
 .rename_i t a
  split at c
  .rename_i id off w
   obtain⟨v,g,l⟩:=c;exact Da (o:=.load t a) l (by simp only[D9,w,g,CN]) (by simp) (by simp) (by simp) (by simp)
  .cases c
 .rename_i t a x
  split at c
  .rename_i id off v w C
   obtain⟨J,g,l⟩:=c;exact Da (o:=.store t a x) l (by simp only[D9,w,C,g,Nb]) (by simp) (by simp) (by simp) (by simp)
  .cases c
 .rename_i s d x
  split at c
  .rename_i q n C
   split at c
   .rename_i sd k' j hd
    obtain⟨z,hz,F⟩:=c;have:k'.wrap n=z:=by
     rcases hz with⟨g,rfl⟩|rfl
     .exact FC g
     .rfl
    exact Da (o:=.convert s d x) F (by simp only[D9,C,Aie j hd,this]) (by simp) (by simp) (by simp) (λ_ _ _ _=>rfl)
   .obtain⟨H,g,l⟩:=c
    exact Da (o:=.convert s d x) l (by simp only[D9,C,g]) (by simp) (by simp) (by simp) (λ_ _ _ _=>rfl)
  .rename_i b C
   obtain⟨H,J,g,l⟩:=c;refine Da (o:=.convert s d x) l (by simp only[D9,C,g]) (by simp) (by simp) (by simp) (λ_ _ _ _=>Uy g)
  .rename_i v _ _ C
   obtain⟨H,g,l⟩:=c;exact Da (o:=.convert s d x) l (by simp only[D9,C,g]) (by simp) (by simp) (by simp) (λ_ _ _ _=>rfl)
  .cases c
 .rename_i t x i
  split at c
  .rename_i a len cap q z e w U D
   split at c
   .rename_i aa P
    exact Da (o:=.indexAddr t x i) c.2 (by simp only[D9,w,U,Aan D P c.1,CN]) (by simp) (by simp) (by simp) (by simp)
   .cases c
  .rename_i id off q z len e w U D
   split at c
   .rename_i aa P
    exact Da (o:=.indexAddr t x i) c.2 (by simp only[D9,w,U,Abm D P c.1,CN]) (by simp) (by simp) (by simp) (by simp)
   .cases c
  .cases c
 .rename_i t x i
  split at c
  .rename_i s q z w U
   split at c
   .rename_i D
    exact Da (o:=.index t x i) c.2 (by simp only[D9,w,U,Akl D c.1,CN]) (by simp) (by simp) (by simp) (by simp)
   .cases c
  .rename_i a b _ w U
   obtain⟨v,g,l⟩:=c;exact Da (o:=.index t x i) l (by simp only[D9,w,U,g,CN]) (by simp) (by simp) (by simp) (by simp)
  .cases c
 all_goals try(
  unfold Aff at c;split at c
  .rename_i v J E
   exact Da c E (by simp) (by simp) (by simp) (by simp)
  .cases c)
 obtain⟨v,J,E,F⟩:=c;exact Da F E (λc e=>‹∀c,o=Op.call c->False› c e) (λi s e=>‹∀i s,o=Op.next i s->False› i s e) (λx e=>‹∀x,o=Op.panic x->False› x e) (λs d x e=>(‹∀s d x,o=Op.convert s d x->False› s d x e).elim)
end
section
variable{τ:Bb} {call:Be} {A:As} {fr:Fr}
def GC (i t:Nat) (v:Aa) (A:As):look ((i,v)::A) t=if i=t then I v else look A t:=by
 show(bif Am i t then I v else look A t)=_
 by_cases h:i=t
 .subst h;simp
 .rw[Bm h,show Am i t=Ah from Bool.eq_false_iff.2 λe=>h (Af e)];rfl
def Ahw {t:Nat} {v:Aa} (r:Gx A fr) (b:look A t=I v):Gx ((t,v)::A) fr:=by
 intro s u a;rw[GC] at a;split at a
 .rename_i e;subst e;cases a;exact r _ _ b
 .exact r _ _ a
def FY {sz:Nat} {d:Option Tmp} {v:Aa} {k:As->Prop} (c:HA sz A d v k) (r:Gx A fr) (f:fr.sz=sz):
 ∃g a,fr.set d v=I a/\Gx g a/\a.sz=sz/\a.ds=fr.ds/\k g:=by
 cases d with
 |none=>exact⟨A,fr,B,r,f,B,c⟩
 |
  some t=>
  change (bif AD t sz then k ((t,v)::A) else False) at c
  cases hb:AD t sz with
  |false=>rw[hb] at c;cases c
  |
   true=>
   rw[hb] at c;cases fr with
   |
    mk i s ds=>
    simp only at f;subst f;refine⟨_,⟨i.ins t v,s,ds⟩,?_,?_,B,B,c⟩
    .show(bif AD t s then _ else Z)=_
     rw[hb];rfl
    .intro x u b
     show(i.ins t v).get x=I u;rw[GC] at b;rw[T.dA];split at b
     .rename_i e;subst e;rw[Bi rfl];exact b
     .rename_i e;rw[Bm (λh=>e h.symm)];exact r _ _ b
def Kw {AU:List C0} {e skip:As->Prop} {g:Option (Nat×Bool)} (c:MW A AU e skip g) (r:Gx A fr):
 (∃a,Gx a fr/\E5 fr AU g=I Ag/\e a)\/(∃a,Gx a fr/\E5 fr AU g=I Ah/\skip a):=by
 cases g with
 |none=>exact .inl ⟨A,r,B,c⟩
 |
  some k=>
  obtain⟨j,d⟩:=k;simp only[MW] at c;split at c
  case h_2=>cases c
  rename_i o f;split at c
  case h_2=>cases c
  rename_i t h;split at c
  case h_3=>cases c
  case h_2=>
   rename_i vs hb;exact .inr ⟨A,r,by unfold E5;simp only[f,h,r _ _ hb],c⟩
  rename_i b hb;have l:E5 fr AU (I (j,d))=I (b==d):=by
   unfold E5;simp only[f,h,r _ _ hb]
  have i:=Ahw r hb;rw[l];cases b<;>cases d<;>first
   |exact .inl ⟨_,i,rfl,c⟩
   |exact .inr ⟨_,i,rfl,c⟩
def WJ (r:Gx A fr) {h:Y} {o:Op} {k:Aa->Y->Prop} (c:QD Ah τ call A h o k):∃v J,k v J/\(∀kk kp,F9 τ call fr h o kk kp=kk v J)/\∀g,o≠.defer g:=by
 unfold QD at c;split at c
 .rename_i s d x
  split at c
  .obtain⟨v,J,e,i⟩:=c
   exact⟨v,J,i,λkk kp=>by simp only[F9,IS r e],by simp⟩
  .obtain⟨v,a,b,f,_⟩:=Kj r c
   exact⟨v,a,b,f,by simp⟩
 .obtain⟨v,a,b,f,_⟩:=Kj r c
  exact⟨v,a,b,f,λg e=>by rw[e] at c;exact c⟩
def Ku {sz:Nat} {AU:List C0} {ro:Option Nat} {k:As->Y->Prop}:∀(l:List C0) {A:As} {fr:Fr} {h:Y},JV Ah τ call sz AU k l A h->Gx A fr->fr.sz=sz->
 ∃b a J,Gx b a/\a.sz=sz/\a.ds=fr.ds/\k b J/\∀kp kk,EX τ call ro AU kp kk l fr h=kk a J
 |[],A,fr,h,c,r,d=>⟨A,fr,h,r,d,B,c,λ_ _=>rfl⟩
 |
  o::l,A,fr,h,c,r,d=>by
  change MW A AU (λA=>QD Ah τ call A h o.op λv J=>HA sz A o.dst v λA=>JV Ah τ call sz AU k l A J)
   (λA=>HA sz A o.dst (.tuple #[]) λA=>JV Ah τ call sz AU k l A h) o.guard at c
  rcases Kw c r with⟨u,f,g,c1⟩|⟨u,f,g,c1⟩
  .obtain⟨v,E,w,x,y⟩:=WJ f c1
   obtain⟨z,C,i,j,m,d2,c3⟩:=FY w f d;obtain⟨b,a,J,n,p,q,s,t⟩:=Ku l c3 j m;refine⟨b,a,J,n,p,q.trans d2,s,λkp kk=>?_⟩;rw[EX,g];simp only[];unfold IB;split
   .rename_i D e;exact Cf e (y D)
   .rw[x,i]
    exact t kp kk
  .obtain⟨z,C,i,j,m,d2,c3⟩:=FY c1 f d
   obtain⟨b,a,J,n,p,q,s,t⟩:=Ku l c3 j m;refine⟨b,a,J,n,p,q.trans d2,s,λkp kk=>?_⟩;rw[EX,g];simp only[i];exact t kp kk
def Axd (τ:Bb) (call:Be) (ro:Option Nat):Prop:=∀(sz:Nat) (AU:Array C0) (b:Bool) (k:As->Y->Prop) (A:As) (fr:Fr) (h:Y),JA Ah τ call sz AU b k A h->Gx A fr->fr.sz=sz->
 ∃c a J,Gx c a/\a.sz=sz/\a.ds=fr.ds/\k c J/\∀K,T4 τ call ro AU b K fr h=K.n a J
def Hf {A:As} {fr:Fr} (r:Gx A fr) {h:Y}:∀(f:List ResultVar) {k:AH->Prop},Ex τ A h f k->∃vs,Ng τ fr h f=I vs/\k vs
 |[],k,c=>⟨[],B,c⟩
 |
  .tmp t::l,k,c=>by
  change (match look A t with|some v=>Ex τ A h l λvs=>k (v::vs)|none=>False) at c
  split at c
  .rename_i v b
   obtain⟨vs,d,e⟩:=Hf r l c;exact⟨v::vs,by simp only[Ng,r _ _ b,d],e⟩
  .cases c
 |
  .cell a t::l,k,c=>by
  change (match look A a with
   |some (.pointer (I ⟨id,off,Z⟩))=>∃v,Bw τ t h id off=I v/\Ex τ A h l λvs=>k (v::vs)
   |_=>False) at c
  split at c
  .rename_i id off b
   obtain⟨v,g,c⟩:=c;obtain⟨vs,d,e⟩:=Hf r l c;exact⟨v::vs,by simp only[Ng,r _ _ b,g,d],e⟩
  .cases c
def Sz:∀(l:AH) (i t:Nat) (v:Aa),look (PJ l i) t=I v->i<=t/\l[t-i]?=I v
 |[],i,t,v,h=>by cases h
 |
  x::l,i,t,v,h=>by
  rw[show PJ (x::l) i=(i,x)::PJ l (i+1) from B,GC] at h;split at h
  .rename_i e;subst e;cases h;exact⟨Ae _,by simp⟩
  .rename_i e
   obtain⟨b,a⟩:=Sz l (i+1) t v h;refine⟨by omega,?_⟩;obtain⟨d,rfl⟩:∃d,t=i+1+d:=⟨t-(i+1),by omega⟩;rw[show i+1+d-(i+1)=d by omega] at a;rw[show i+1+d-i=d+1 by omega];exact a
end
def DZ (h:Y):h.ad.lo=.no:=by cases h;rfl
def Ow (h:Y):h.ad.t=h.t:=by cases h;rfl
def BF (h:Y):h.ad.nx=h.nx:=by cases h;rfl
def XG {h J:Y} (w:Wr1 h.ad J):N5 h J.lo:=by
 rcases w with e|⟨b,hb,a,c,e⟩
 .rw[e,DZ];exact .inl B
 .rw[e,DZ]
  refine .inr ?_;rw[Ow] at a;exact⟨hb,a,c⟩
def Hi.R:Hi->Prop
 |.aK|.rd _|.lk _ _|.aD=>True
 |_=>False
def R4:Cl->Hi->Prop
 |.q,e=>e=.aK
 |.a,e=>e=.aK
 |.r,e=>e.R
 |.w,_=>True
section
variable{τ:Bb} {call:Be} {A:As} {fr:Fr}
def Arb {h:Y} {s:WS} (a:s.ag h.nx=Ag):Fe h s=.aD:=by
 unfold Fe;rw[a];rfl
def Alz {o:Op} {h:Y} {s:WS} (b:s.ag h.nx=Ag):(CF τ fr o h s).R:=by
 unfold CF;rw[Arb b];cases Dj o with
 |true=>trivial
 |
  false=>
  show Hi.R (match o with
   |.alloc _|.box ..|.build ..|.buildSlice ..|.makeSlice ..|.makeMap ..=>.aK
   |.load _ a=>_
   |.lookup t m _ c=>_
   |.mapEntry t m _=>_
   |.convert _ _ x=>_
   |.call {callee:=.builtin .len,args,..}=>_
   |_=>.aD)
  split<;>first|trivial|(split<;>first|trivial|(cases‹Bool›<;>trivial))
def Alg {h:Y} {s:WS} (a:N5 h s):(Fe h s).ok=true:=by
 unfold Fe;cases e:s.ag h.nx with
 |true=>rfl
 |
  false=>
  rcases a with a|a
  .rw[e] at a;cases a
  .cases s with
   |one b=>obtain⟨hb,c,d⟩:=a;simp[c,d,Hi.ok]
   |pair b lo=>obtain⟨hb,c,d⟩:=a;simp[c,d,Hi.ok]
   |_=>rfl
def Arp {t:Ai} {r:Nat} {e:Hi} (h:e.ok=Ag):(Xb t r e).ok=true:=by
 unfold Xb;split
 .cases Am _ r<;>rfl
 .exact h
def Agp {o:Op} {h:Y} {s:WS} (c:N5 h s):(CF τ fr o h s).ok=true:=by
 have b:=Alg c;unfold CF;cases Dj o with
 |true=>rfl
 |
  false=>
  show Hi.ok (match o with
   |.alloc _|.box ..|.build ..|.buildSlice ..|.makeSlice ..|.makeMap ..=>.aK
   |.load _ a=>_
   |.lookup t m _ d=>_
   |.mapEntry t m _=>_
   |.convert _ _ x=>_
   |.call {callee:=.builtin .len,args,..}=>_
   |_=>_)=Ag
  split<;>first|rfl|exact b|(split<;>first|rfl|exact b|exact Arp b|(cases‹Bool›<;>rfl))
def XW {c b:Cl} {e d:Hi} {nx nx':Nat} (g:R4 c e) (f:R4 b d) (i:b=.q->nx=nx') (a:MF e d nx nx'=Ag):Aqo c b=true:=by
 cases c<;>simp only[R4] at g
 .subst g;cases d<;>cases a
 .subst g;cases d<;>cases a
 .cases e<;>first|exact Cf g (λh=>h)|skip
  all_goals(cases d<;>first|(cases a;done)|skip)
  all_goals(cases b<;>simp only[R4] at f<;>first|(cases f;done)|rfl|exact Cf f (λh=>h))
 .cases b with
  |
   q=>
   simp only[R4] at f;subst f;have:=i B;subst this;cases e with
   |
    wr s j=>
    change s.meets nx nx=Ag at a;cases s<;>simp[WS.meets,AK] at a<;>omega
   |_=>cases a
  |_=>rfl
end
section
variable{τ:Bb} {call:Be} {A:As} {fr:Fr}
def Hi.R.ok {e:Hi} (h:e.R):e.ok=true:=by cases e<;>first|rfl|exact Cf h (λh=>h)
def Ra {o:Option Aa} {v:Aa} {h J:Y} (a:CN h o=I (v,J)):J=h:=by
 cases o with
 |none=>cases a
 |some x=>cases a;rfl
def Ru {o:Op} {h J:Y} {v:Aa} (b:Dj o=Ag) (a:Ch τ fr h o=I (v,J)):J=h:=by
 cases o<;>first|(cases b;done)|(simp only[Ch] at a;repeat' first|(cases a;done)|exact Ra a|(cases a;rfl)|split at a)
def Vq (τ:Bb) (fr:Fr) (b:Bool) (o:Op) (h a:Y):Prop:=
 R4 (K5 b o) (CF τ fr o h a.lo)/\(CF τ fr o h a.lo).ok=Ag/\(K5 b o=.q->CF τ fr o h a.lo=.aK/\a.nx=h.nx)
def Qa {a:Bool} {o:Op} {h b:Y} (c:K5 a o=.r) (d:b.lo.ag h.nx=Ag):Vq τ fr a o h b:=by
 have:=Alz (τ:=τ) (fr:=fr) (o:=o) d;exact⟨by rw[c];exact this,this.ok,λh=>by rw[c] at h;cases h⟩
def P2 {a:Bool} {o:Op} {h b:Y} (c:K5 a o=.w) (d:N5 h b.lo):Vq τ fr a o h b:=
 ⟨by rw[c];trivial,Agp d,λh=>by rw[c] at h;cases h⟩
def MZ {h a:Y} (e:a.lo=h.ad.lo):a.lo.ag h.nx=true:=by rw[e,DZ];rfl
def Aih {f:Bool} {o:Op} {h b:Y} {v:Aa} (a:Ch τ fr h.ad o=I (v,b)) (g:∀s d x,o=.convert s d x->b.lo=h.ad.lo):Vq τ fr f o h b:=by
 have i:=XG (Zr a).2;cases c:Dj o with
 |
  true=>
  have:=Ru c a;have e:CF τ fr o h b.lo=.aK:=by unfold CF;rw[c];rfl
  have j:K5 f o=.q:=by unfold K5;rw[c];rfl
  exact⟨by rw[j,e];rfl,by rw[e];rfl,λ_=>⟨e,by rw[this,BF]⟩⟩
 |
  false=>
  cases o<;>first
   |(cases c;done)
   |exact⟨rfl,rfl,λh=>by cases h⟩
   |(refine Qa rfl (MZ ?_);first|exact g _ _ _ rfl|(simp only[Ch,Gh] at a;repeat' first|(cases a;done)|(rw[Ra a];done)|(cases a;exact Lo _ _)|split at a))
   |(cases a;done)
   |exact P2 rfl i
def WO {f:Bool} {c:Call} {b:Builtin} (hb:c.callee=.builtin b) {vs:AH} {v:Aa} {h d:Y} (a:Bx τ b c.argTypes.toList vs h.ad=I (v,d)):Vq τ fr f (.call c) h d:=by
 have g:=XG (Pj a).2;have one:∀{o:Option Aa},(match o with|some v=>I (v,h.ad)|none=>Z)=I (v,d)->d.lo=h.ad.lo:=λ{o} e=>by
  cases o<;>cases e;rfl
 cases b
 case len|cap|unsafeSliceData=>exact Qa (by simp[K5,Dj,hb]) (MZ (one a))
 case min|max=>
  refine Qa (by simp[K5,Dj,hb]) (MZ ?_);simp only[Bx] at a;split at a<;>first|exact one a|cases a
 all_goals exact P2 (by simp[K5,Dj,hb]) g
def Ux {b:Builtin} {d:List Ai} {vs:AH} {v:Aa} {h c:Y} (f:(match Callee.builtin b with|.builtin .len|.builtin .cap|.builtin .min|.builtin .max|.builtin .unsafeSliceData=>Ag|_=>Ah)=Ag) (a:Bx τ b d vs h=I (v,c)):c=h:=by
 have one:∀{o:Option Aa},(match o with|some v=>I (v,h)|none=>Z)=I (v,c)->c=h:=λ{o} e=>by
  cases o<;>cases e;rfl
 cases b<;>first|(cases f;done)|exact one a|(simp only[Bx] at a;split at a<;>first|exact one a|cases a)
def Aag {o:Op} {v:Aa} {h c:Y} (a:Qy o=Ag) (b:Ch τ fr h o=I (v,c)):c=h:=by
 unfold Qy at a;rw[Dm] at a;rcases a with d|a
 .exact Ru d b
 .split at a<;>first|(cases a;done)|(simp only[Ch] at b;repeat' first|(cases b;done)|exact Ra b|split at b)
def Vc:UO->Hi->Prop
 |.ld id,e=>e=.rd id
 |.lk id t,e=>e=.lk id t
 |.wr s,e=>∀a b,e=.wr a b->a=s
 |.me t r s,e=>∀a b,e=.wr a b->a=s/\(s=.one r->b=I t)
 |.no,_=>True
def Ais {i j:UO} {e c:Hi} {nx nx':Nat} (h:ob i j) (d:Vc i e) (f:Vc j c):MF e c nx nx'=false:=by
 cases i<;>cases j<;>first|exact Cf h (λh=>h)|skip
 case ld.ld a b=>obtain rfl:e=.rd a:=d;obtain rfl:c=.rd b:=f;rfl
 case ld.wr a s=>
  obtain rfl:e=.rd a:=d;cases c<;>first|rfl|(obtain rfl:=f _ _ B;exact h)
 case ld.me a t r s=>
  obtain rfl:e=.rd a:=d;cases c<;>first|rfl|(obtain⟨rfl,_⟩:=f _ _ B;exact h)
 case wr.ld s a=>
  obtain rfl:c=.rd a:=f;cases e<;>first|rfl|(obtain rfl:=d _ _ B;exact h)
 case me.ld t r s a=>
  obtain rfl:c=.rd a:=f;cases e<;>first|rfl|(obtain⟨rfl,_⟩:=d _ _ B;exact h)
 case lk.me a g t r s=>
  obtain rfl:e=.lk a g:=d;cases c<;>first|rfl|skip
  obtain⟨rfl,k⟩:=f _ _ B;rw[k h.1];show(_&&!(Am g t))=Ah;rw[h.2];simp
 case me.lk t r s a g=>
  obtain rfl:c=.lk a g:=f;cases e<;>first|rfl|skip
  obtain⟨rfl,k⟩:=d _ _ B;rw[k h.1];show(_&&!(Am g t))=Ah;rw[h.2];simp
def Alr {h:Y} {s a:WS} {b:Option Ai} (e:Fe h s=.wr a b):a=s:=by
 unfold Fe at e;cases c:s.ag h.nx<;>rw[c] at e<;>(try simp only[I0] at e)
 all_goals repeat' first|(cases e;done)|(cases e;rfl)|(cases d:HB.live _<;>rw[d] at e)|split at e
def Ars {t:Ai} {r:Nat} {x:Hi} {s c:WS} {a:Option Ai} (d:∀f a,x=.wr f a->f=s) (e:Xb t r x=.wr c a):c=s:=by
 unfold Xb at e;split at e
 .rename_i b m
  have:=d _ _ B;cases hb:Am b r with
  |true=>rw[hb] at e;cases e;exact this
  |false=>rw[hb] at e;cases e;exact this
 .exact d _ _ e
def Q3 {o:Op} {h:Y} {s a:WS} {b:Option Ai} (e:CF τ fr o h s=.wr a b):a=s:=by
 have c:∀{a b},Fe h s=.wr a b->a=s:=λe=>Alr e;unfold CF at e;cases d:Dj o with
 |true=>rw[d] at e;cases e
 |
  false=>
  rw[d] at e;simp only[I0] at e;split at e<;>first
   |(cases e;done)
   |exact c e
   |(split at e<;>first
    |(cases e;done)
    |exact c e
    |exact Ars (λf b h=>c h) e
    |(cases‹Bool›<;>cases e))
def Aub {t:Ai} {r:Nat} {h:Y} {s c:WS} {a:Option Ai} (e:Xb t r (Fe h s)=.wr c a) (d:c=.one r):a=I t:=by
 unfold Xb at e;split at e
 .rename_i b m _
  cases hb:Am b r with
  |true=>rw[hb] at e;cases e;rfl
  |false=>rw[hb] at e;cases e;cases d;simp at hb
 .rename_i f
  rw[d] at e;exact Cf e (f r a)
def Amh (r:Gx A fr) {o:Op} {h J:Y}:Vc (Qk τ A o J) (CF τ fr o h J.lo):=by
 unfold Qk;split
 .rename_i t a
  split
  .rename_i id off g
   show CF τ fr (.load t a) h J.lo=.rd id;unfold CF;simp only[show Dj (.load t a)=Ah from B,I0,Bg r g]
  .trivial
 .rename_i t m k
  split
  .rename_i x b
   show CF τ fr (.lookup t m k Ah) h J.lo=.lk x t;unfold CF;simp only[show Dj (.lookup t m k Ah)=Ah from B,I0,Bg r b]
  .trivial
 .rename_i t m k
  split
  .rename_i x b
   intro c d e;have f:=Q3 e;refine⟨f,λi=>?_⟩;unfold CF at e;simp only[show Dj (.mapEntry t m k)=Ah from B,I0,Bg r b] at e;exact Aub e (f.trans i)
  .exact λc d e=>Q3 e
 .exact λc d e=>Q3 e
def Q2 {b:List DX} {i:Nat} {c:UO} {P:Prop}:∀{d:List (Nat×UO)},Adj b i c P d->P/\∀p∈d,exI b i p.1=Ag->ob c p.2
 |[],h=>⟨h,λp a=>by cases a⟩
 |
  q::d,h=>by
  change (bif exI b i q.1 then ob c q.2/\Adj b i c P d else Adj b i c P d) at h
  cases f:exI b i q.1 with
  |
   true=>
   rw[f] at h;obtain⟨g,j⟩:=Q2 h.2;refine⟨g,λp a e=>?_⟩;rcases List.mem_cons.1 a with rfl|a
   .exact h.1
   .exact j p a e
  |
   false=>
   rw[f] at h;obtain⟨g,j⟩:=Q2 h;refine⟨g,λp a e=>?_⟩;rcases List.mem_cons.1 a with rfl|a
   .rw[f] at e;cases e
   .exact j p a e
def Alq {e:List DX} {i j:Nat} (h:exI e i j=Ag):inX e j=true:=by
 unfold exI at h;unfold inX;rw[List.any_eq_true] at h⊢;obtain⟨d,f,c⟩:=h;refine⟨d,f,?_⟩;cases d with
 |w k=>cases c
 |x a b=>rw[An] at c;show(Am a j||Am b j)=Ag;rw[c.2,Bool.or_true]
def Aoz (b:List DX) (c:Log) (d:List (Nat×UO)):Prop:=∀x∈c,inX b x.1=Ag->∃a,(x.1,a)∈d/\Vc a x.2.1
def Alt {f:List DX} {b:Bo} {i:Nat} {c:Cl} {e:Hi} {g:Log} {cs:List Cl} {m:List (Nat×UO)} {n:UO} (s:R4 c e) (t:e.ok=Ag) (u:∀x∈g,∃a,cs[x.1]?=I a/\R4 a x.2.1/\a≠.q) (v:Nt f b i c 0 cs=Ag)
 (w:Aoz f g m) (y:∀p∈m,exI f i p.1=Ag->ob n p.2) (z:Vc n e):Lz b i e g=true:=by
 have Cw:∀(cs:List Cl) (d:Nat),Nt f b i c d cs=Ag->∀j a,cs[j]?=I a->Aqo c a=Ag->Hy b i (d+j)=Ag\/exI f i (d+j)=true:=by
  intro cs
  induction cs with
  |nil=>intro d _ j a h;simp at h
  |
   cons x cs A=>
   intro d h j a k o;rw[Nt,An] at h;cases j with
   |
    zero=>
    simp at k;subst k;rw[o] at h;simpa using h.1
   |
    succ j=>
    have:=A (d+1) h.2 j a (by simpa using k) o;rw[show d+(j+1)=d+1+j by omega];exact this
 unfold Lz;rw[t,Abz,Jf];rintro⟨j,C,nx,nx'⟩ r;obtain⟨a,D,E,F⟩:=u _ r;simp only;cases l:MF e C nx nx' with
 |false=>rfl
 |
  true=>
  have:=XW s E (λh=>Cf h F) l;have:=Cw cs 0 v j a D this;rw[Ba] at this;rcases this with this|this
  .rw[this];rfl
  .obtain⟨L,H,K⟩:=w _ r (Alq this)
   have:=Ais (nx:=nx) (nx':=nx') (y _ H this) z K;rw[this] at l;cases l
def Aim {a:Type} (e:Hi) (k:Hi->a):e.force k=k e:=by cases e<;>rfl
def SB {i:Nat} {e:Hi} {nx nx':Nat} {b:Log} {x:Nat×Hi×Nat×Nat} (a:x∈QC i e nx nx' b):x∈b\/(x=(i,e,nx,nx')/\¬(e=.aK/\nx=nx')):=by
 unfold QC at a;split at a
 .cases hb:AD nx nx' with
  |
   true=>
   rw[hb] at a;rcases List.mem_cons.1 a with h|h
   .refine .inr ⟨h,λh=>?_⟩
    rw[AK] at hb;omega
   .exact .inl h
  |false=>rw[hb] at a;exact .inl a
 .rename_i c
  rcases List.mem_cons.1 a with h|h
  .exact .inr ⟨h,λh=>c h.1⟩
  .exact .inl h
def Ja {a:List DX} {sz:Nat} {AU:List C0} {b:Bo} {k:As->Y->Prop} (M:AU.all (λo=>QI AU o.guard)=Ag):
 ∀(l:List C0) (i:Nat) (cs:List Cl) (y:Log) (d:List (Nat×UO)) {A:As} {fr:Fr} {h:Y},(∀o∈l,o∈AU)->cs.length=i->L5 a b i cs l=Ag->(∀x∈y,∃u,cs[x.1]?=I u/\R4 u x.2.1/\u≠.q)->Aoz a y d->
  Kb τ call a sz AU k l i d A h->Gx A fr->fr.sz=sz->
  ∃f z J,Gx f z/\z.sz=sz/\z.ds=fr.ds/\k f J/\∀kk,MC τ call AU b kk l i y fr h=kk z J
 |[],i,cs,y,d,A,fr,h,_,_,_,_,_,c,r,H=>⟨A,fr,h,r,H,B,c,λ_=>rfl⟩
 |
  o::l,i,cs,y,d,A,fr,h,aa,N,E,ab,O,c,r,H=>by
  have ad:QI AU o.guard=true:=List.all_eq_true.1 M o (aa o (by simp));rw[L5,An] at E;obtain⟨C,ae⟩:∃x,frI a i=x:=⟨_,B⟩;rw[ae] at E;have af:∀o∈l,o∈AU:=λx n=>aa x (Az _ n);have ag:∀x∈y,∃u,(cs++[K5 C o.op])[x.1]?=I u/\R4 u x.2.1/\u≠.q:=λx n=>by
   obtain⟨u,g,h2⟩:=ab x n;exact⟨u,by rw[AB (List.getElem?_eq_some_iff.1 g).1];exact g,h2⟩
  change MW A AU (λA=>PG Ah τ call A h.ad o.op λv J=>Adj a i (Qk τ A o.op J) (
   bif RS o.op then(bif frI a i then J.lo.ag h.nx=Ag else N5 h J.lo)/\HA sz A o.dst v λf=>Kb τ call a sz AU k l (i+1) (Tw a i (Qk τ A o.op J) d) f (h.aa J)
   else bif Qy o.op then HA sz A o.dst v (λf=>Kb τ call a sz AU k l (i+1) (Tw a i (Qk τ A o.op J) d) f h) else HA sz A o.dst v (λf=>Kb τ call a sz AU k l (i+1) (Tw a i (Qk τ A o.op J) d) f (h.aa J))) d)
   (λA=>HA sz A o.dst (.tuple #[]) λA=>Kb τ call a sz AU k l (i+1) d A h) o.guard at c
  rw[ae] at c;rcases Kw c r with⟨P,F,Q,c1⟩|⟨P,F,Q,c1⟩
  .obtain⟨v,g,j,ho,D⟩:=Kj F c1
   obtain⟨j,ah⟩:=Q2 j;have R:=Amh (τ:=τ) F (o:=o.op) (h:=h) (J:=g);obtain⟨S,aj⟩:∃x,Qk τ P o.op g=x:=⟨_,B⟩;rw[aj] at j ah R;have he:Vq τ fr C o.op h g/\HA sz P o.dst v (λA=>Kb τ call a sz AU k l (i+1) (Tw a i S d) A (h.aa g)):=by
    have ak:RS o.op=Ah->Qy o.op=Ag->h.aa g=h:=λm p=>by
     suffices g=h.ad by rw[this];cases h;rfl
     rcases D with D|⟨bb,vs,cc,e,hb,t,_⟩|⟨it,s,vi,e,t⟩|⟨t,hc⟩
     .rw[m] at D;cases D
     .rw[e] at p
      simp only[Qy,Dj,hb,Bool.false_or] at p;exact Ux p t
     .rw[e] at p;cases p
     .exact Aag p t
    cases m:RS o.op with
    |
     true=>
     simp only[m,D1] at j;refine⟨?_,j.2⟩;have ai:K5 C o.op=bif C then .r else .w:=by
      revert m
      cases o.op<;>intro m<;>first|(cases m;done)|skip
      rename_i cc;simp only[RS] at m;simp only[K5,Dj,I0];split at m
      .cases m
      .rename_i K
       split<;>first|rfl|(rename_i e;exact Cf e (K _))
     cases C with
     |true=>exact Qa ai j.1
     |false=>exact P2 ai j.1
    |
     false=>
     simp only[m,I0] at j;refine⟨?_,by
      cases p:Qy o.op with
      |true=>simp only[p,D1] at j;rw[ak m p];exact j
      |false=>simp only[p,I0] at j;exact j⟩
     rcases D with D|⟨bb,vs,cc,e,hb,t,_⟩|⟨it,s,vi,e,t⟩|⟨t,hc⟩
     .rw[m] at D;cases D
     .rw[e];exact WO hb t
     .rw[e];exact P2 B (XG (V4 t v g (List.mem_singleton.2 rfl)).2)
     .exact Aih t hc
   obtain⟨⟨e1,e2,e3⟩,c3⟩:=he;obtain⟨al,am,T,V,W,d2,c4⟩:=FY c3 F H;have hg:=Alt e1 e2 ab E.1 O ah R;obtain⟨f,z,J,X,q2,q3,q4,q5⟩:=Ja M l (i+1) (cs++[K5 C o.op]) (QC i (CF τ fr o.op h g.lo) h.nx g.nx y) (Tw a i S d) af (by simp[N]) E.2 (λx n=>by
    rcases SB n with n|⟨rfl,K⟩
    .exact ag x n
    .refine⟨K5 C o.op,by simp[←N],e1,λhq=>?_⟩
     obtain⟨z1,z2⟩:=e3 hq;exact K ⟨z1,z2.symm⟩) (λx n L=>by
    unfold Tw;rcases SB n with n|⟨rfl,K⟩
    .obtain⟨an,m1,m2⟩:=O x n L
     refine⟨an,?_,m2⟩;cases inX a i with
     |true=>exact Az _ m1
     |false=>exact m1
    .refine⟨S,?_,R⟩
     have L:inX a i=true:=L;rw[L];exact Av) c4 V W
   refine⟨f,z,J,X,q2,q3.trans d2,q4,λkk=>?_⟩;rw[MC,ad,Q];simp only[D1];rw[ho];simp only[T,Aim,hg,D1];exact q5 kk
  .obtain⟨al,am,T,V,W,d2,c4⟩:=FY c1 F H
   obtain⟨f,z,J,X,q2,q3,q4,q5⟩:=Ja M l (i+1) (cs++[K5 C o.op]) y d af (by simp[N]) E.2 ag O c4 V W;refine⟨f,z,J,X,q2,q3.trans d2,q4,λkk=>?_⟩;rw[MC,ad,Q];simp only[D1,T];exact q5 kk
def Arn (ro:Option Nat):Axd τ call ro:=by
 intro sz AU o k A fr h c r m;cases o with
 |
  false=>
  obtain⟨a,b,J,d,e,f,g,i⟩:=Ku (ro:=ro) AU.toList c r m;exact⟨a,b,J,d,e,f,g,λK=>i K.p K.n⟩
 |
  true=>
  obtain⟨q,j,c⟩:=c;rw[Aez,An] at j;obtain⟨a,b,J,d,e,f,g,i⟩:=Ja j.1 AU.toList 0 [] [] [] (λ_ h=>h) B j.2 (λx l=>by cases l) (λx l=>by cases l) c r m;exact⟨a,b,J,d,e,f,g,λK=>i K.n⟩
end
def ofD (D:Bo):List Deferred:=D.map λb=>{target:=.collected b,args:=#[]}
structure WOk (m:Bool) (call:Be) {X:Type} (P:(X->RR)->Prop):Prop where
 c:m=Ag->∀{f:Fn} {args:AH} {h:Y} {k:Aa->Y->Prop} {kk kp:X->Aa->Y->RR},JW Ag call f args h k->(∀v J,k v J->P λy=>kk y v J)->P λy=>call f args h (kk y) (kp y)
 j:m=Ag->∀a b:X->RR,P a->P b->P λy=>Ns (a y) (b y)
structure KOk {X σ:Type} (P:(X->RR)->Prop) (sz:Nat) (dl:σ->List Hh) (K:KG σ) (Kt:X->Kt):Prop where
 n:∀fr h s A,fr.sz=sz->fr.ds=dl s->Gx A fr->K.n A s h->P λy=>(Kt y).n fr h
 x:∀id fr h s A,fr.sz=sz->fr.ds=dl s->Gx A fr->K.x id A s h->P λy=>(Kt y).x id fr h
 r:∀fr h s A,fr.sz=sz->fr.ds=dl s->Gx A fr->K.r A s h->P λy=>(Kt y).r fr h
 p:∀v fr h s A,fr.sz=sz->fr.ds=dl s->Gx A fr->K.p v A s h->P λy=>(Kt y).p v fr h
structure MOk {σ:Type} (M:Md σ) (dl:σ->List Hh) (ro:Option Nat):Prop where
 lp:∀{L body K A s h},M.lp L body K A s h->Aer L body K A s h
 cH:∀{g},M.cH=I g->ro=Z/\∀b s,dl (g b s)={target:=.collected b,args:=#[]}::dl s
def R3 {b:Bool} {ds:List Hh} {ro:Option Nat}:MOk (mdU b) (λ_=>ds) ro:=⟨λ⟨a,⟨m,c,i⟩,d⟩=>⟨λm A _ h=>a m A h,⟨m,c,i⟩,λm A _ h i f=>d m A h i f⟩,λe=>by cases e⟩
def AEz:MOk mdD ofD none:=⟨λh=>h,λe=>by cases e;exact⟨B,λ_ _=>rfl⟩⟩
section
variable{τ:Bb} {call:Be} {m:Bool} {X σ:Type} {P:(X->RR)->Prop} {ro:Option Nat}
def W0:WOk Ah call P:=⟨λh=>(by cases h),λh=>(by cases h)⟩
def W1 {p:EO->Prop}:WOk Ag call λg:Unit->RR=>Sat p (g ()):=⟨λ_ _ _ _ _ _ _ ⟨_,c,a⟩ H=>c _ _ p λv J b=>H v J (a v J b),λ_ _ _ x y=>x.join y⟩
def YJ (W:WOk m call P) {f:Fn} {a:AH} {h:Y} {k:Aa->Y->Prop} (c:JW m call f a h k) {kk kp:X->Aa->Y->RR} (H:∀v J,k v J->P λy=>kk y v J):P λy=>call f a h (kk y) (kp y):=by
 cases m with
 |
  false=>
  obtain⟨v,J,b,d⟩:=TY c;rw[funext λy=>d (kk y) (kp y)];exact H v J b
 |true=>exact W.c B c H
def Ank (W:WOk m call P) (a:m=Ag) {kk:X->Aa->Y->RR}:∀(x:Aa×Y) (l:List (Aa×Y)),(∀y∈x::l,P λz=>kk z y.1 y.2)->P λz=>R2 (kk z) (x::l)
 |
  x,[],H=>by
  have e:∀r,Ns r (I [])=r:=λr=>by cases r<;>simp[Ns]
  have:=H x Av;simpa only[R2,e] using this
 |x,y::l,H=>W.j a _ _ (H x Av) (Ank W a y l λz b=>H z (Az _ b))
def opG (W:WOk m call P) {A:As} {fr:Fr} (r:Gx A fr) {h:Y} {o:Op} {k:Aa->Y->Prop} (c:PG m τ call A h o k) {kk kp:X->Aa->Y->RR} (H:∀v J,k v J->P λy=>kk y v J):P λy=>F9 τ call fr h o (kk y) (kp y):=by
 have one:PG Ah τ call A h o k->P λy=>F9 τ call fr h o (kk y) (kp y):=λc=>by
  obtain⟨v,J,e,d,_⟩:=Kj r c;rw[funext λy=>d (kk y) (kp y)];exact H v J e
 cases m with
 |false=>exact one c
 |
  true=>
  cases o with
  |
   call cl=>
   cases hb:cl.callee with
   |builtin b=>exact one (by unfold PG at c⊢;simp only[] at c⊢;rw[hb] at c⊢;exact c)
   |
    invoke p q=>
    unfold PG at c;simp only[] at c;split at c
    .cases c
    rename_i vs g;rw[hb] at c;simp only[] at c;split at c
    .rename_i t v a
     obtain⟨f,u,i,j⟩:=c;simp only[F9,Ju,FX r g,hb,Bg r a,Hd,i];exact YJ W j H
    .cases c
   |
    value f=>
    unfold PG at c;simp only[] at c;split at c
    .cases c
    rename_i vs g;rw[hb] at c;simp only[] at c;split at c
    .rename_i w a
     simp only[F9,Ju,FX r g,hb,Bg r a];unfold Akh at c;split at c
     .exact YJ W c H
     .exact YJ W c H
     .cases c
    .cases c
  |
   next it s=>
   unfold PG at c;simp only[] at c;split at c
   .rename_i v a
    obtain⟨x,l,e,d⟩:=c;simp only[F9,Bg r a,e];cases l with
    |nil=>exact H _ _ (d x.1 x.2 Av)
    |cons y l=>exact Ank W B x (y::l) λz n=>H _ _ (d z.1 z.2 n)
   .cases c
  |_=>exact one c
def Azt (W:WOk m call P) {A:As} {fr:Fr} (r:Gx A fr) {h:Y} {o:Op} {k:Aa->Y->Prop} (c:QD m τ call A h o k) {kk kp:X->Aa->Y->RR} (H:∀v J,k v J->P λy=>kk y v J):(P λy=>F9 τ call fr h o (kk y) (kp y))/\∀a,o≠.defer a:=by
 unfold QD at c;split at c
 .rename_i s d x
  split at c
  .obtain⟨v,J,e,b⟩:=c
   exact⟨by simp only[F9,IS r e];exact H v J b,by simp⟩
  .exact⟨opG W r c H,by simp⟩
 .exact⟨opG W r c H,λa e=>by rw[e] at c;exact c⟩
def YM (W:WOk m call P) {sz:Nat} {AU:List C0} {k:As->Y->Prop} {kp:X->Aa->Fr->Y->RR} {kk:X->Fr->Y->RR} {ds:List Hh} (H:∀p a J,Gx p a->a.sz=sz->a.ds=ds->k p J->P λy=>kk y a J):
 ∀(l:List C0) {A:As} {fr:Fr} {h:Y},JV m τ call sz AU k l A h->Gx A fr->fr.sz=sz->fr.ds=ds->P λy=>EX τ call ro AU (kp y) (kk y) l fr h
 |[],A,fr,h,c,r,b,d=>H A fr h r b d c
 |
  o::l,A,fr,h,c,r,b,d=>by
  change MW A AU (λA=>QD m τ call A h o.op λv J=>HA sz A o.dst v λA=>JV m τ call sz AU k l A J)
   (λA=>HA sz A o.dst (.tuple #[]) λA=>JV m τ call sz AU k l A h) o.guard at c
  rcases Kw c r with⟨s,f,g,c1⟩|⟨s,f,g,c1⟩
  .have q:=Azt W (kk:=λy v J=>match fr.set o.dst v with|some a=>EX τ call ro AU (kp y) (kk y) l a J|none=>Z) (kp:=λy v J=>kp y v fr J) f c1 λv J t=>by
    obtain⟨u,w,i,j,n,d2,c3⟩:=FY t f b;simp only[i];exact YM W H l c3 j n (d2.trans d)
   have e:∀K k',IB τ call ro fr h o K k'=F9 τ call fr h o.op (λv J=>match fr.set o.dst v with|some a=>K a J|none=>Z) k':=λK k'=>by
    unfold IB;split
    .rename_i x e;exact Cf e (q.2 x)
    .rfl
   simp only[EX,g,e];exact q.1
  .obtain⟨u,w,i,j,n,d2,c3⟩:=FY c1 f b
   simp only[EX,g,i];exact YM W H l c3 j n (d2.trans d)
def VB:∀{l l':List C0} {x:BU},Akd l=I (l',x)->∃ty a b,l=l'++[⟨Z,.panic x,ty,a,b,Z⟩]
 |[],_,_,h=>by cases h
 |
  [o],l',x,h=>by
  obtain⟨c,op,ty,a,b,g⟩:=o;change (match(⟨c,op,ty,a,b,g⟩:C0) with
   |⟨Z,.panic x,_,_,_,Z⟩=>I ([],x)
   |_=>Z)=I (l',x) at h
  split at h
  .rename_i e;cases h;cases e;exact⟨_,_,_,rfl⟩
  .cases h
 |
  o::d::l,l',x,h=>by
  change (match Akd (d::l) with|some (l',x)=>I (o::l',x)|none=>Z)=I (l',x) at h
  split at h
  .rename_i i y f
   cases h;obtain⟨ty,a,b,e⟩:=VB f;exact⟨ty,a,b,by rw[e];rfl⟩
  .cases h
def Q9 {AU:List C0} {kp:Aa->Fr->Y->RR} {k:Fr->Y->RR} {m:List C0}:∀(l:List C0) (fr:Fr) (h:Y),EX τ call ro AU kp k (l++m) fr h=EX τ call ro AU kp (λfr h=>EX τ call ro AU kp k m fr h) l fr h
 |[],_,_=>rfl
 |
  o::l,fr,h=>by
  rw[KB,EX,EX];rw[(by funext fr h;exact Q9 l fr h:(λa J=>EX τ call ro AU kp k (l++m) a J)=λa J=>EX τ call ro AU kp (λfr h=>EX τ call ro AU kp k m fr h) l a J)];simp[Q9 l]
def La (W:WOk m call P) {M:Md σ} {w:σ->List Hh} (hM:MOk M w ro) (L sz:Nat):∀(c:DC) (K:KG σ) (Kt:X->Kt) (A:As) (s:σ) (fr:Fr) (h:Y),IH m τ call M L sz c K A s h->Gx A fr->fr.sz=sz->fr.ds=w s->KOk P sz w K Kt->P λy=>B7 τ call L ro c (Kt y) fr h:=by
 intro c
 induction c with
 |skip=>exact λK Kt A s fr h c r i j H=>H.n fr h s A i j r c
 |label=>exact λK Kt A s fr h c r i j H=>H.n fr h s A i j r c
 |
  region id AU z=>
  intro K Kt A s fr h c r i j H;have ag:JA m τ call sz AU z (λA h=>K.n A s h) A h->P λy=>B7 τ call L ro (.region id AU z) (Kt y) fr h:=λc=>by
   cases z with
   |false=>exact YM W (kp:=λy=>(Kt y).p) (λC o J k V aa q=>H.n o J s C V aa k q) _ c r i j
   |
    true=>
    obtain⟨C,o,J,q1,q2,q3,q4,q5⟩:=Arn ro sz AU Ag (λA h=>K.n A s h) A fr h c r i;show P λy=>T4 τ call ro AU Ag (Kt y) fr h;rw[funext λy=>q5 (Kt y)];exact H.n o J s C q2 (q3.trans j) q1 q4
  change (match M.c3 with
   |false=>JA m τ call sz AU z (λA h=>K.n A s h) A h
   |true=>match Akd AU.toList with
    |some (l,x)=>z=Ah/\JV m τ call sz AU.toList (λA h=>match Dn τ A x with|some (.iface t v)=>K.p (.iface t v) A s h|_=>False) l A h
    |none=>JA m τ call sz AU z (λA h=>K.n A s h) A h) at c
  split at c
  .exact ag c
  split at c
  case h_2=>exact ag c
  rename_i l x hp;obtain⟨rfl,c⟩:=c;obtain⟨ty,po,ah,e⟩:=VB hp;have F:∀y,B7 τ call L ro (.region id AU Ah) (Kt y) fr h=EX τ call ro AU.toList (Kt y).p (λfr h=>EX τ call ro AU.toList (Kt y).p (Kt y).n [⟨Z,.panic x,ty,po,ah,Z⟩] fr h) l fr h:=λy=>by
   rw[←Q9,←e];rfl
  rw[funext F];refine YM W (kp:=λy=>(Kt y).p) (λC o J k V aa q=>?_) l c r i j;split at q
  case h_2=>cases q
  rename_i t v hx;have:∀y,EX τ call ro AU.toList (Kt y).p (Kt y).n [⟨Z,.panic x,ty,po,ah,Z⟩] o J=(Kt y).p (.iface t v) o J:=λy=>by
   simp[EX,E5,IB,F9,(Bg k hx)]
  simp only[this];exact H.p _ o J s C V aa k q
 |seq a b ab ad=>exact λK Kt A s fr h c r i j H=>ab _ _ A s fr h c r i j ⟨λfr h s A D d r c=>ad K Kt A s fr h c r D d H,H.x,H.r,H.p⟩
 |
  cond x a b ab ad=>
  intro K Kt A s fr h c r i j H;change (match Dn τ A x with
   |some (.bool t)=>ZT t (IH m τ call M L sz a K A s h) (IH m τ call M L sz b K A s h)
   |_=>False) at c
  split at c
  case h_2=>cases c
  rename_i t ht;show P λy=>Vg _ _ (Kt y) fr h (ev τ fr x);rw[Bg r ht];cases t with
  |true=>exact ab K Kt A s fr h c r i j H
  |false=>exact ad K Kt A s fr h c r i j H
 |
  block id c N=>
  refine λK Kt A s fr h c r i j H=>N _ _ A s fr h c r i j ⟨H.n,λS fr h s A D d r c=>?_,H.r,H.p⟩;change (bif Am S id then K.n A s h else K.x S A s h) at c
  simp only[];cases hb:Am S id with
  |true=>rw[hb] at c;exact H.n fr h s A D d r c
  |false=>rw[hb] at c;exact H.x S fr h s A D d r c
 |
  loop c N=>
  intro K Kt A s fr h q r i j H;obtain⟨ak,⟨E,A0,ae,T,U⟩,hI⟩:=hM.lp q;have Cw:∀(n E:Nat) (A:As) (s:σ) (fr:Fr) (h:Y),ak E A s h->E<n->n<=L->Gx A fr->fr.sz=sz->fr.ds=w s->P λy=>Nq (B7 τ call L ro c) n (Kt y) fr h:=by
   intro n
   induction n with
   |zero=>exact λm A s fr h _ T=>Cf T (F5 _)
   |succ n al=>exact λE A s fr h U T hn r i j=>N _ _ A s fr h (hI E A s h U (by omega)) r i j ⟨λo J s' C D d k q=>by
    obtain⟨m',A0,ae,lt,am⟩:=q;exact al m' A0 s' o J am (by omega) (by omega) (λt v u=>k t v (ae t v u)) D d,H.x,H.r,H.p⟩
  exact Cw L E A0 s fr h U T (Ae _) (λt v u=>r t v (ae t v u)) i j
 |
  rangeFunc f ps ai aj _ _=>
  intro K Kt A s fr h c r i j H;change (match M.cH with|some g=>QU m τ call g sz ps ai aj K A s h (Dn τ A f)|none=>False) at c
  split at c
  case h_2=>cases c
  rename_i g O;obtain⟨rfl,O⟩:=hM.cH O;unfold QU at c;split at c
  case h_2=>cases c
  rename_i f0 first cap hf
  obtain⟨af,c⟩:=c;split at af
  case h_2=>cases af
  rename_i fn an;obtain⟨Q,ZI,ds⟩:=fr;simp only at i j;subst i j;show P λy=>Oo τ call Z ps ai aj (Kt y) ⟨Q,ZI,w s⟩ h (ev τ ⟨Q,ZI,w s⟩ f);rw[Bg (fr:=⟨Q,ZI,w s⟩) (λt v u=>r t v u) hf];simp only[Oo,U5,an,af,D1];refine YJ W (c Q (λt v u=>r t v u)) λv h2 hh=>?_;obtain⟨st,ao,ap,aq,ar,au,av,d',e1,F,R⟩:=hh;have k:Gx A ⟨Q,ZI,{target:=.collected h.nx,args:=#[]}::w s⟩:=λt v u=>r t v u;simp only[HP,e1];split at R
  .have:=H.n _ _ _ A B (O h.nx s).symm k R
   cases st<;>first|exact Cf B F|exact this
  .have:=H.r _ _ _ A B (O h.nx s).symm k R
   cases st<;>first|exact Cf B F|exact this
  .have:=H.x _ _ _ _ A B (O h.nx s).symm k R
   cases st<;>first|exact Cf B F|exact this
  .cases R
 |scope c N=>exact λK Kt A s fr h c r i j H=>N K Kt A s fr h c r i j H
 |exit id=>exact λK Kt A s fr h c r i j H=>H.x id fr h s A i j r c
 |ret=>exact λK Kt A s fr h c r i j H=>H.r fr h s A i j r c
 |_=>exact λK Kt A s fr h c=>by cases c
def TB {a:AH} {sz:Nat} (b:a.length<=sz):Gx (PJ a 0) ⟨T.laid a 0 .nil,sz,[]⟩:=by
 intro t v b;obtain⟨_,c⟩:=Sz a 0 t v b;rw[T.an];have:=(List.getElem?_eq_some_iff.1 c).1;rw[Bi (by omega)];exact c
def Kv {dv:Au->Option (AH->Y->Option Y)} {a:List ResultVar} {A:As} {fr:Fr} (r:Gx A fr) {Q:Aa->Y->Prop}:∀(D:Bo) {h:Y},Og D (λh=>Ex τ A h a (λvs=>Q (Ff vs) h)) h->
 ∃v J,Q v J/\∀k,Iw τ dv a fr k (ofD D) h=k v J
 |
  [],h,c=>by
  obtain⟨vs,d,e⟩:=Hf r _ c;exact⟨Ff vs,h,e,λk=>by show(match Ng τ fr h a with|some vs=>k (Ff vs) h|none=>Z)=_;rw[d]⟩
 |
  b::D,h,⟨c1,f⟩=>by
  obtain⟨v,J,g,i⟩:=Kv r D f;exact⟨v,J,g,λk=>by
   show Iw τ dv a fr k ({target:=.collected b,args:=#[]}::ofD D) h=_;rw[Iw,c1];exact i k⟩
def Qt (τ:Bb) (S:A9) (fn:BC) (k kp:Aa->Y->RR):Kt:=.mk (λfr h=>Iw τ S.dv fn.results.toList fr k fr.ds h) (λ_ _ _=>Z) (λfr h=>Iw τ S.dv fn.results.toList fr k fr.ds h) (TC τ S.rc fn.results.toList k kp)
def Awu {S:A9} {fn:BC} {sz:Nat} {Q Qp:Aa->Y->Prop} {kk kp:X->Aa->Y->RR} (b:∀v J,Q v J->P λy=>kk y v J) (d:∀v J,Qp v J->P λy=>kp y v J):
 KOk P sz (λ_=>[]) (KG.mk (λA (_:Unit) h=>Ex τ A h fn.results.toList (λvs=>Q (Ff vs) h)) (λ_ _ _ _=>False) (λA _ h=>Ex τ A h fn.results.toList (λvs=>Q (Ff vs) h)) λv _ _ h=>Qp v h) λy=>Qt τ S fn (kk y) (kp y):=
 have Da:∀fr h (_:Unit) A,fr.sz=sz->fr.ds=[]->Gx A fr->Ex τ A h fn.results.toList (λvs=>Q (Ff vs) h)->P λy=>Iw τ S.dv fn.results.toList fr (kk y) fr.ds h:=λfr h _ A _ a r c=>by
  obtain⟨v,e,f,g⟩:=Kv (dv:=S.dv) r [] c;rw[show fr.ds=ofD [] from a];simp only[g];exact b v e f
 ⟨Da,λ_ _ _ _ _ _ _ _ c=>c.elim,Da,λv fr h _ A _ a _ c=>by
  show P λy=>TC τ S.rc fn.results.toList (kk y) (kp y) v fr h;unfold TC;rw[a];exact d v h c⟩
def QM {S:A9} {L:Nat} {f:Au} {fn:BC} {c:DC} {a:AH} (b:τ.fn.get f=I fn) (d:S.hk f=Z) (e:fn.body=I c) (g:a.length<=fn.ntmps) (h:Y) (k kp:Aa->Y->RR):
 DY τ S call L f a h k kp=B7 τ call L Z c (Qt τ S fn k kp) ⟨T.laid a 0 .nil,fn.ntmps,[]⟩ h:=by
 have i:GA a fn.ntmps=I ⟨T.laid a 0 .nil,fn.ntmps,[]⟩:=by
  unfold GA;rw[show Ar a.length fn.ntmps=Ag from Aq g];rfl
 unfold DY;rw[b];simp only[e,i];unfold Ss;simp only[d];rfl
def YV {S:A9} {L n:Nat} {f:Au} {g:Be->AH->Y->Jl} {a:AH} {h J:Y} {v:Aa} (b:S.ov f=I g) (e:g (B8 τ S L n) a h=I (v,J)) (k kp:Aa->Y->RR):B8 τ S L (n+1) (.func f) a h k kp=k v J:=by
 simp only[B8,b,e]
def Kl {S:A9} {L n:Nat} {f:Au} (b:S.ov f=Z) (c:S.nd f=Z) (a:AH) (h:Y) (k kp:Aa->Y->RR):B8 τ S L (n+1) (.func f) a h k kp=DY τ S (B8 τ S L n) L f a h k kp:=by
 simp only[B8,b,ndK,c]
abbrev P1 (Q:Aa->Y->Prop):((Aa->Y->RR)×(Aa->Y->RR)->RR)->Prop:=λg=>∃v J,Q v J/\∀k kp,g (k,kp)=k v J
def P1.cd {S:A9} {L n:Nat} {f:Au} {a:AH} {h:Y} {Q:Aa->Y->Prop} (b:S.ov f=Z) (c:S.nd f=Z) (H:P1 Q λy=>DY τ S (B8 τ S L n) L f a h y.1 y.2):Cd (B8 τ S L (n+1)) (.func f) a h Q:=
 H.imp λ_ h=>h.imp λ_ ⟨q,e⟩=>⟨q,λk kp=>(Kl b c _ _ _ _).trans (e k kp)⟩
def Acv {S:A9} {fn:BC} {sz:Nat} {Q:Aa->Y->Prop}:KOk (P1 Q) sz (λ_=>[]) (kp (λA h=>Ex τ A h fn.results.toList (λvs=>Q (Ff vs) h)) (λ_ _ _=>False) (λA h=>Ex τ A h fn.results.toList (λvs=>Q (Ff vs) h))) λy=>Qt τ S fn y.1 y.2:=
 Awu (Qp:=λ_ _=>False) (λv J q=>⟨v,J,q,λ_ _=>rfl⟩) λ_ _ q=>q.elim
def Aom {S:A9} {L n:Nat} {f:Au} {fn:BC} (d:τ.fn.get f=I fn) (e:S.hk f=Z) (g:S.ov f=Z) (i:S.nd f=Z) {a:AH} {h:Y} {Q:Aa->Y->Prop}
 (c:YR τ (B8 τ S L n) L fn a h Q):Cd (B8 τ S L (n+1)) (.func f) a h Q:=by
 obtain⟨b,c⟩:=c;unfold Adq at c;split at c
 case h_2=>cases c
 rename_i j;exact P1.cd g i (by simp only[QM d e j b];exact La W0 R3 L _ _ _ _ _ () _ h c (TB b) B B Acv)
def Apm (W:WOk m call P) (S:A9) (L:Nat) {f:Au} {fn:BC} (b:τ.fn.get f=I fn) (d:S.hk f=Z) {a:AH} {h:Y} {Q:Aa->Y->Prop} (c:MT m τ call L fn a h Q) {k kp:X->Aa->Y->RR} (H:∀v J,Q v J->P λy=>k y v J):
 P λy=>DY τ S call L f a h (k y) (kp y):=by
 unfold MT at c;split at c
 case h_2=>cases c
 rename_i n e;simp only[QM b d e c.1];have Da:∀fr h D A,fr.sz=fn.ntmps->fr.ds=ofD D->Gx A fr->Og D (λh=>Ex τ A h fn.results.toList (λvs=>Q (Ff vs) h)) h->P λy=>Iw τ S.dv fn.results.toList fr (k y) fr.ds h:=λfr h D A _ g r c=>by
  obtain⟨v,i,j,l⟩:=Kv (dv:=S.dv) r D c;rw[g];simp only[l];exact H v i j
 exact La W AEz L _ _ _ _ _ [] _ h c.2 (TB c.1) B B ⟨Da,λ_ _ _ _ _ _ _ _ c=>c.elim,Da,λ_ _ _ _ _ _ _ _ c=>c.elim⟩
def Afo {S:A9} {L n:Nat} {f:Au} {fn:BC} (a:τ.fn.get f=I fn) (b:S.hk f=Z) (d:S.ov f=Z) (e:S.nd f=Z) {g:AH} {h:Y} {Q:Aa->Y->Prop}
 (c:MT m τ (B8 τ S L n) L fn g h Q):CdM m (B8 τ S L (n+1)) (.func f) g h Q:=by
 cases m with
 |false=>exact P1.cd d e (Apm (P:=P1 Q) W0 S L a b c λv J q=>⟨v,J,q,λ_ _=>rfl⟩)
 |
  true=>
  intro k kp p H;rw[Kl d e];exact Apm W1 S L a b c (k:=λ_=>k) (kp:=λ_=>kp) H
end
def XF (τ:Bb) (t:Ai):Bool:=match τ.ds.get t with|some d=>!J5 d|none=>Ah
def Cell (h:Y) (b o:Nat) (v:Aa):Prop:=b<h.nx/\∃c n e lo U x,h.t.get b=I (.cells c n e lo U x)/\c.get o=I v
def ld {τ:Bb} {t:Ai} {h:Y} {b o:Nat} {v:Aa} (a:XF τ t=Ag) (c:Cell h b o v):Bw τ t h b o=I v:=by
 obtain⟨_,c,n,e,lo,U,x,g,i⟩:=c;unfold XF at a;unfold Bw;cases f:τ.ds.get t with
 |none=>rw[f] at a;cases a
 |
  some d=>
  rw[f] at a;have:J5 d=false:=by simpa using a
  simp only[g,this,I0,i]
def F2 {s:WS} {b N:Nat} (hb:N<=b) (d:s.ag N=Ag):(Gf s b).ag N=true:=by
 have hb':=Aq hb;cases s with
 |no=>exact hb'
 |
  one c=>
  rw[HT];have a:Ar N c=true:=d;cases Am c b with
  |true=>exact a
  |false=>cases Ar c b<;>simp[WS.ag,hb',a]<;>exact⟨Ac a,hb⟩
 |
  rest lo=>
  rw[Kr];have a:Ar N lo=true:=d;cases Ar lo b<;>simp[WS.ag]<;>first|exact Ac a|exact⟨hb,Ac a⟩
 |
  pair c lo=>
  rw[FL];have a:(Ar N c&&Ar N lo)=true:=d;rw[An] at a;have e:=Ac a.1;have f:=Ac a.2;cases(Am c b||Ar lo b) with
  |true=>exact d
  |
   false=>
   cases Ar c b with
   |true=>simp[WS.ag];exact⟨e,hb⟩
   |
    false=>
    simp[WS.ag];refine⟨hb,?_⟩;unfold Gg;cases Ar c lo<;>simp<;>assumption
def MY {s:WS} {j N:Nat} (d:N<=j) (b:s.ag N=Ag):(Lr s j).ag N=true:=by
 cases s with
 |no=>exact Aq d
 |
  one c=>
  rw[Ke];have a:=Ac (show Ar N c=Ag from b);cases Ar j c<;>simp[WS.ag]<;>omega
 |
  rest i=>
  have a:=Ac (show Ar N i=Ag from b);show Ar N (Gg i j)=Ag;apply Aq;unfold Gg;cases Ar i j<;>simp<;>assumption
 |
  pair c lo=>
  have a:(Ar N c&&Ar N lo)=true:=b;rw[An] at a;have e:=Ac a.1;have f:=Ac a.2;show(Ar N c&&Ar N (Gg lo j))=Ag;rw[An];refine⟨a.1,Aq ?_⟩;unfold Gg;cases Ar lo j<;>simp<;>assumption
def Rx {s c:WS} {N:Nat} (a:s.ag N=Ag) (d:c.ag N=Ag):(Pf s c).ag N=true:=by
 cases c with
 |no=>exact a
 |one i=>exact F2 (Ac d) a
 |rest j=>exact MY (Ac d) a
 |
  pair b j=>
  have e:(Ar N b&&Ar N j)=true:=d;rw[An] at e;exact F2 (Ac e.1) (MY (Ac e.2) a)
def GG (N b0:Nat) (s:WS):Prop:=s.ag N=Ag\/s=.one b0\/∃lo,N<=lo/\s=.pair b0 lo
def Jy {N i j:Nat} (a:N<=i) (b:N<=j):N<=Gg i j:=by
 unfold Gg;cases Ar i j<;>simp<;>assumption
def Ib {N b0 i:Nat} {s:WS} (hb:b0<N) (U:i=b0\/N<=i) (h:GG N b0 s):GG N b0 (Gf s i):=by
 rcases U with rfl|U
 .rcases h with h|rfl|⟨lo,a,rfl⟩
  .cases s with
   |no=>exact .inr (.inl B)
   |
    one b=>
    have h:=Ac (show Ar N b=Ag from h);rw[HT,show Am b i=Ah from Bool.eq_false_iff.2 λe=>by have:=Af e;omega,show Ar b i=Ah from Bool.eq_false_iff.2 λe=>by have:=Ac e;omega];exact .inr (.inr ⟨b,h,B⟩)
   |
    rest lo=>
    have h:=Ac (show Ar N lo=Ag from h);rw[Kr,show Ar lo i=Ah from Bool.eq_false_iff.2 λe=>by have:=Ac e;omega];exact .inr (.inr ⟨lo,h,B⟩)
   |
    pair b lo=>
    have c:(Ar N b&&Ar N lo)=true:=h;rw[An] at c;have a:=Ac c.1;have d:=Ac c.2;rw[FL,show Am b i=Ah from Bool.eq_false_iff.2 λe=>by have:=Af e;omega,show Ar lo i=Ah from Bool.eq_false_iff.2 λe=>by have:=Ac e;omega,
     show Ar b i=Ah from Bool.eq_false_iff.2 λe=>by have:=Ac e;omega]
    exact .inr (.inr ⟨Gg b lo,Jy a d,B⟩)
  .rw[HT,show Am i i=Ag by simp];exact .inr (.inl B)
  .rw[FL,show Am i i=Ag by simp];exact .inr (.inr ⟨lo,a,B⟩)
 .rcases h with h|rfl|⟨lo,a,rfl⟩
  .exact .inl (F2 U h)
  .rw[HT,show Am b0 i=Ah from Bool.eq_false_iff.2 λe=>by have:=Af e;omega,Aq (show b0<=i by omega)]
   exact .inr (.inr ⟨i,U,B⟩)
  .rw[FL,show Am b0 i=Ah from Bool.eq_false_iff.2 λe=>by have:=Af e;omega,Aq (show b0<=i by omega)]
   cases Ar lo i
   .exact .inr (.inr ⟨i,U,B⟩)
   .exact .inr (.inr ⟨lo,a,B⟩)
def Uk {N b0 j:Nat} {s:WS} (hb:b0<N) (a:N<=j) (h:GG N b0 s):GG N b0 (Lr s j):=by
 rcases h with h|rfl|⟨lo,b,rfl⟩
 .exact .inl (MY a h)
 .rw[Ke,show Ar j b0=Ah from Bool.eq_false_iff.2 λe=>by have:=Ac e;omega]
  exact .inr (.inr ⟨j,a,B⟩)
 .exact .inr (.inr ⟨Gg lo j,Jy b a,B⟩)
def YY {N b0:Nat} {s a:WS} (hb:b0<N) (h:GG N b0 s) (J:GG N b0 a):GG N b0 (Pf s a):=by
 rcases J with J|rfl|⟨lo,d,rfl⟩
 .cases a with
  |no=>exact h
  |one i=>exact Ib hb (.inr (Ac J)) h
  |rest j=>exact Uk hb (Ac J) h
  |
   pair b j=>
   have c:(Ar N b&&Ar N j)=true:=J;rw[An] at c;exact Ib hb (.inr (Ac c.1)) (Uk hb (Ac c.2) h)
 .exact Ib hb (.inl B) h
 .exact Ib hb (.inl B) (Uk hb d h)
def FQ (n:Nat) (P:Nat->Prop):WS->Prop
 |.no=>True
 |.one b=>P b\/n<=b
 |.rest _=>False
 |.pair b lo=>b<lo/\(P b\/n<=b)
def Un {n:Nat} {P:Nat->Prop} {b lo i:Nat} (d:b<lo/\(P b\/n<=b)) (U:P i\/n<=i):FQ n P (Gf (.pair b lo) i):=by
 rw[FL];cases a:Am b i||Ar lo i with
 |true=>exact d
 |
  false=>
  rw[Iy] at a;have h:b≠i:=λe=>by rw[e] at a;simp at a
  have f:i<lo:=BB λe=>by rw[Aq e] at a;cases a.2
  cases c:Ar b i with
  |true=>exact⟨by have:=Ac c;omega,d.2⟩
  |
   false=>
   have g:i<b:=BB λe=>by rw[Aq e] at c;cases c
   exact⟨Jy (N:=i+1) g f,U⟩
def NC {n:Nat} {P:Nat->Prop} {s:WS} {i:Nat} (a:FQ n P s) (U:P i\/n<=i):FQ n P (Gf s i):=by
 cases s with
 |no=>exact U
 |rest lo=>exact a.elim
 |pair b lo=>exact Un a U
 |
  one b=>
  rw[HT];cases d:Am b i with
  |true=>exact a
  |
   false=>
   have f:b≠i:=λe=>by rw[e] at d;simp at d
   cases c:Ar b i with
   |true=>exact⟨by have:=Ac c;omega,a⟩
   |false=>exact⟨BB (λe=>by rw[Aq e] at c;cases c),U⟩
def Ant {n:Nat} {P:Nat->Prop} {b j:Nat} (h:b<j) (hb:P b\/n<=b):FQ n P (Gf (.rest j) b):=by
 rw[Kr,show Ar j b=Ah from Bool.eq_false_iff.2 λe=>by have:=Ac e;omega];exact⟨h,hb⟩
def Zv {n:Nat} {P:Nat->Prop} {s d:WS} (a:FQ n P s) (J:FQ n P d):FQ n P (Pf s d):=by
 cases d with
 |no=>exact a
 |one i=>exact NC a J
 |rest j=>exact J.elim
 |
  pair b j=>
  obtain⟨f,c⟩:=J;cases s with
  |no=>exact Ant f c
  |rest lo=>exact a.elim
  |
   one i=>
   show FQ n P (Gf (Lr (.one i) j) b);rw[Ke];cases g:Ar j i with
   |true=>exact Ant f c
   |false=>exact Un ⟨BB (λe=>by rw[Aq e] at g;cases g),a⟩ c
  |
   pair i lo=>
   show FQ n P (Gf (.pair i (Gg lo j)) b);rcases A8 i j with h|h
   .exact Un ⟨Jy (N:=i+1) a.1 h,a.2⟩ c
   .have k:b+1<=Gg lo j:=Jy (by have:=a.1;omega) (by omega)
    rw[FL,show(Am i b||Ar (Gg lo j) b)=Ah from by
     rw[Iy];exact⟨Bool.eq_false_iff.2 λe=>by have:=Af e;omega,Bool.eq_false_iff.2 λe=>by have:=Ac e;omega⟩,
     show Ar i b=Ah from Bool.eq_false_iff.2 λe=>by have:=Ac e;omega]
    exact⟨Jy (N:=b+1) (by omega) k,c⟩
structure AA (h J:Y):Prop where
 nx:h.nx<=J.nx
 t:∀b,b<h.nx->J.t.get b=h.t.get b
 lo:∀N,N<=h.nx->h.lo.ag N=Ag->J.lo.ag N=Ag
 g:∀N b0,N<=h.nx->b0<N->GG N b0 h.lo->GG N b0 J.lo
 f:∀n P,n<=h.nx->FQ n P h.lo->FQ n P J.lo
def AA.refl (h:Y):AA h h:=⟨Ae _,λ_ _=>rfl,λ_ _ h=>h,λ_ _ _ _ h=>h,λ_ _ _ h=>h⟩
def AA.trans {a b c:Y} (d:AA a b) (e:AA b c):AA a c:=
 ⟨Ao d.nx e.nx,λi U=>(e.t i (AC U d.nx)).trans (d.t i U),λN j h=>e.lo N (Ao j d.nx) (d.lo N j h),
  λN b0 j hb h=>e.g N b0 (Ao j d.nx) hb (d.g N b0 j hb h),λn P k h=>e.f n P (Ao k d.nx) (d.f n P k h)⟩
def AA.ad (h:Y):AA h h.ad:=by
 cases h;exact⟨Ae _,λ_ _=>rfl,λ_ _ _=>rfl,λ_ _ _ _ _=>.inl B,λ_ _ _ _=>trivial⟩
def AA.ag {h J:Y} (e:AA h.ad J):J.lo.ag h.nx=true:=by
 have:=e.lo h.nx (by rw[BF];exact Ae _) (by rw[DZ];rfl);exact this
def DF (h J:Y):(h.aa J).t=J.t:=by cases h;cases J;rfl
def CL (h J:Y):(h.aa J).nx=J.nx:=by cases h;cases J;rfl
def J7 (h J:Y):(h.aa J).lo=Pf h.lo J.lo:=by cases h;cases J;rfl
def AA.aa {h J:Y} (e:AA h.ad J):AA h (h.aa J):=
 ⟨by rw[CL];have:=e.nx;rw[BF] at this;exact this,λb hb=>by rw[DF];have:=e.t b (by rw[BF];exact hb);rw[Ow] at this;exact this,
  λN c a=>by rw[J7];exact Rx a (e.lo N (by rw[BF];exact c) (by rw[DZ];rfl)),
  λN b0 c hb a=>by rw[J7];exact YY hb a (e.g N b0 (by rw[BF];exact c) hb (by rw[DZ];exact .inl B)),
  λn P d a=>by rw[J7];exact Zv a (e.f n P (by rw[BF];exact d) (by rw[DZ];trivial))⟩
def Ck (h:Y) (b:HB):(h.new b).nx=h.nx+1:=by cases h;rfl
def CK (h:Y) (b:HB) (i:Nat):(h.new b).t.get i=if i=h.nx then I b else h.t.get i:=by cases h;exact T.dA _ _ _ _
def Cc (h:Y) (i:Nat) (b:HB):(h.put i b).nx=h.nx:=by cases h;rfl
def BQ (h:Y) (i:Nat) (b:HB) (j:Nat):(h.put i b).t.get j=if j=i then I b else h.t.get j:=by cases h;exact T.dA _ _ _ _
def AA.new (h:Y) (b:HB):AA h (h.new b):=
 ⟨by rw[Ck];omega,λi U=>by rw[CK,Bm (by omega)],λN _ a=>by rw[Lo];exact a,λN b0 _ _ a=>by rw[Lo];exact a,λn P _ a=>by rw[Lo];exact a⟩
def AA.put {c h:Y} (e:AA c h) {i:Nat} (U:c.nx<=i) (b:HB):AA c (h.put i b):=
 ⟨by rw[Cc];exact e.nx,λj k=>by rw[BQ,Bm (by omega)];exact e.t j k,λN d a=>by rw[Of];exact F2 (by omega) (e.lo N d a),
  λN b0 d hb a=>by rw[Of];exact Ib hb (.inr (by omega)) (e.g N b0 d hb a),λn P l a=>by rw[Of];exact NC (e.f n P l a) (.inr (by omega))⟩
def Cell.ext {h J:Y} {b o:Nat} {v:Aa} (c:Cell h b o v) (e:AA h J):Cell J b o v:=by
 obtain⟨hb,c,n,t,lo,U,x,a,d⟩:=c;exact⟨AC hb e.nx,c,n,t,lo,U,x,by rw[e.t b hb];exact a,d⟩
structure Er (b:Nat) (h J:Y):Prop where
 nx:J.nx=h.nx
 t:∀i,i≠b->J.t.get i=h.t.get i
 lo:J.lo=Gf h.lo b
def Er.put (h:Y) (i:Nat) (b:HB):Er i h (h.put i b):=⟨Cc _ _ _,λj a=>by rw[BQ,Bm a],Of _ _ _⟩
def AA.ah {b h J:Y} (e:AA b h) {i:Nat} (u:Er i h J) (U:b.nx<=i):AA b J:=
 ⟨by rw[u.nx];exact e.nx,λj d=>by rw[u.t j (by omega)];exact e.t j d,λN c a=>by rw[u.lo];exact F2 (by omega) (e.lo N c a),
  λN b0 c hb a=>by rw[u.lo];exact Ib hb (.inr (by omega)) (e.g N b0 c hb a),λn P k a=>by rw[u.lo];exact NC (e.f n P k a) (.inr (by omega))⟩
def Cell.ah {h J:Y} {b o i:Nat} {v:Aa} (c:Cell h b o v) (u:Er i h J) (a:b≠i):Cell J b o v:=by
 obtain⟨hb,c,n,t,lo,U,x,d,e⟩:=c;exact⟨by rw[u.nx];exact hb,c,n,t,lo,U,x,by rw[u.t b a];exact d,e⟩
def Own (h:Y) (b:Nat) (e:Ai) (xs:AH):Prop:=b<h.nx/\∃c x,h.t.get b=I (.cells c xs.length e 0 0 x)/\∀i v,xs[i]?=I v->c.get i=I v
def Own.cell {h:Y} {b:Nat} {e:Ai} {xs:AH} (o:Own h b e xs) {i:Nat} {v:Aa} (U:xs[i]?=I v):Cell h b i v:=by
 obtain⟨hb,c,x,a,d⟩:=o;exact⟨hb,c,_,e,0,0,x,a,d i v U⟩
def Own.ext {h J:Y} {b:Nat} {e:Ai} {xs:AH} (o:Own h b e xs) (x:AA h J):Own J b e xs:=by
 obtain⟨hb,c,y,a,d⟩:=o;exact⟨AC hb x.nx,c,y,by rw[x.t b hb];exact a,d⟩
def Own.ah {h J:Y} {b i:Nat} {e:Ai} {xs:AH} (o:Own h b e xs) (u:Er i h J) (a:b≠i):Own J b e xs:=by
 obtain⟨hb,c,y,d,f⟩:=o;exact⟨by rw[u.nx];exact hb,c,y,by rw[u.t b a];exact d,f⟩
def NP (xs:AH) {i:Nat} {v:Aa} (U:xs[i]?=I v):(T.laid xs 0 .nil).get i=I v:=by
 rw[T.an];have:=(List.getElem?_eq_some_iff.1 U).1;rw[Bi (by omega)];exact U
def Own.new (h:Y) (e:Ai) (xs:AH) (x:Bool):Own (h.new (.cells (T.laid xs 0 .nil) xs.length e 0 0 x)) h.nx e xs:=
 ⟨by rw[Ck];omega,_,x,by rw[CK,Bi B],λ_ _ U=>NP xs U⟩
def Own.row (h:Y) (e:Ai) (xs:AH):Own (BN h e xs) h.nx e xs:=Own.new h e xs Ag
def Own.a4 (h:Y) (e:Ai) (xs:AH):Own (Go.Ev.HY h e xs) h.nx e xs:=Own.new h e xs Ah
def AA.row (h:Y) (e:Ai) (xs:AH):AA h (BN h e xs):=AA.new _ _
def AA.a4 (h:Y) (e:Ai) (xs:AH):AA h (Go.Ev.HY h e xs):=AA.new _ _
def I2:AH->Nat->AH->AH
 |xs,_,[]=>xs
 |xs,i,v::vs=>I2 (xs.set i v) (i+1) vs
def LH:∀(vs xs:AH) (i:Nat),(I2 xs i vs).length=xs.length
 |[],_,_=>rfl
 |v::vs,xs,i=>by rw[I2,LH vs];simp
def OF:∀(vs xs:AH) (i:Nat) (c:T Aa),(∀j v,xs[j]?=I v->c.get j=I v)->i+vs.length<=xs.length->∀j v,(I2 xs i vs)[j]?=I v->(T.laid vs i c).get j=I v
 |[],xs,i,c,b,_,j,v,a=>b j v a
 |
  x::vs,xs,i,c,b,d,j,v,a=>by
  rw[T.bC];simp only[AO] at d;refine OF vs (xs.set i x) (i+1) (c.ins i x) (λj v a=>?_) (by simp;omega) j v a;rw[T.dA];by_cases e:j=i
  .subst e
   rw[Bi B];rw[O4 (by omega)] at a;exact a
  .rw[Bm e]
   rw[Amv (λh=>e h.symm)] at a;exact b j v a
def Own.bb {h:Y} {b:Nat} {e:Ai} {xs:AH} (o:Own h b e xs) {i:Nat} {vs:AH} (U:i+vs.length<=xs.length) (a:vs.all one=Ag):
 ∃J,Gi h b i vs=I J/\Own J b e (I2 xs i vs)/\Er b h J:=by
 obtain⟨hb,c,x,d,f⟩:=o;refine⟨h.put b (.cells (T.laid vs i c) xs.length e 0 0 x),?_,⟨by rw[Cc];exact hb,_,x,by rw[BQ,Bi B,LH],OF vs xs i c f U⟩,Er.put _ _ _⟩;unfold Gi;simp only[d];have:RP xs.length 0 0 i vs.length=true:=by unfold RP;simp;omega
 rw[this,a];rfl
def Own.store {τ:Bb} {t:Ai} {a:KR} (U:τ.aj.get t=I a) (d:a.size=1) {h:Y} {b:Nat} {e:Ai} {xs:AH} (o:Own h b e xs) {i:Nat} (l:i<xs.length) {v:Aa} (c:one v=Ag):
 ∃J,BA τ t h b i v=I J/\Own J b e (xs.set i v)/\Er b h J:=by
 have f:AJ v=[v]:=by cases v<;>first|rfl|cases c
 obtain⟨J,g,j,k⟩:=o.bb (i:=i) (vs:=[v]) (by simp;omega) (by simp[c]);refine⟨J,?_,j,k⟩;unfold BA;simp only[U,d,f,Br];exact g
structure B0 (W:Nat->Prop) (h J:Y):Prop where
 nx:h.nx<=J.nx
 t:∀b,b<h.nx->¬W b->J.t.get b=h.t.get b
 lo:∀N,N<=h.nx->(∀i,W i->N<=i)->h.lo.ag N=Ag->J.lo.ag N=Ag
 g:∀N b0,N<=h.nx->b0<N->(∀i,W i->i=b0\/N<=i)->GG N b0 h.lo->GG N b0 J.lo
 f:∀n P,n<=h.nx->(∀i,W i->P i\/n<=i)->FQ n P h.lo->FQ n P J.lo
def AA.ae {h J:Y} (e:AA h J) (W:Nat->Prop):B0 W h J:=⟨e.nx,λb hb _=>e.t b hb,λN c _ a=>e.lo N c a,λN b0 c hb _ a=>e.g N b0 c hb a,λn P d _ a=>e.f n P d a⟩
def Er.ae {b:Nat} {h J:Y} (u:Er b h J):B0 (·=b) h J:=
 ⟨by rw[u.nx];exact Ae _,λi _ U=>u.t i U,λN _ a c=>by rw[u.lo];exact F2 (a b B) c,λN b0 _ hb a c=>by rw[u.lo];exact Ib hb (a b B) c,λn P _ a c=>by rw[u.lo];exact NC c (a b B)⟩
def B0.trans {W:Nat->Prop} {a b c:Y} (e:B0 W a b) (h:B0 W b c):B0 W a c:=
 ⟨Ao e.nx h.nx,λi U d=>(h.t i (AC U e.nx) d).trans (e.t i U d),λN j d k=>h.lo N (Ao j e.nx) d (e.lo N j d k),
  λN b0 j hb d k=>h.g N b0 (Ao j e.nx) hb d (e.g N b0 j hb d k),λn P l d k=>h.f n P (Ao l e.nx) d (e.f n P l d k)⟩
def B0.mono {W k:Nat->Prop} {a b:Y} (c:B0 W a b) (e:∀i,W i->k i):B0 k a b:=
 ⟨c.nx,λi U h=>c.t i U λl=>h (e i l),λN j h d=>c.lo N j (λi U=>h i (e i U)) d,λN b0 j hb h d=>c.g N b0 j hb (λi U=>h i (e i U)) d,λn P m h d=>c.f n P m (λi U=>h i (e i U)) d⟩
def AA.then {W:Nat->Prop} {k h J:Y} (e:AA k h) (c:B0 W h J) (j:∀i,W i->k.nx<=i):AA k J:=
 ⟨Ao e.nx c.nx,λb hb=>(c.t b (AC hb e.nx) λh=>by have:=j b h;omega).trans (e.t b hb),λN a d=>c.lo N (Ao a e.nx) (λi U=>Ao a (j i U)) (e.lo N a d),
  λN b0 a hb d=>c.g N b0 (Ao a e.nx) hb (λi U=>.inr (Ao a (j i U))) (e.g N b0 a hb d),λn P l d=>c.f n P (Ao l e.nx) (λi U=>.inr (Ao l (j i U))) (e.f n P l d)⟩
def Cell.ae {W:Nat->Prop} {h J:Y} {b o:Nat} {v:Aa} (c:Cell h b o v) (e:B0 W h J) (a:¬W b):Cell J b o v:=by
 obtain⟨hb,c,n,t,lo,U,x,d,f⟩:=c;exact⟨AC hb e.nx,c,n,t,lo,U,x,by rw[e.t b hb a];exact d,f⟩
def Own.ae {W:Nat->Prop} {h J:Y} {b:Nat} {e:Ai} {xs:AH} (o:Own h b e xs) (x:B0 W h J) (a:¬W b):Own J b e xs:=by
 obtain⟨hb,c,y,d,f⟩:=o;exact⟨AC hb x.nx,c,y,by rw[x.t b hb a];exact d,f⟩
def AS (h:Y) (N:Nat) (e:Ai) (k:Nat) (v:Aa) (n:Nat) (xs:AH):Prop:=
 xs.length=n*k/\((v=.slice Z 0 0/\n=0)\/∃b c sp,v=.slice (I ⟨b,0,Z⟩) n c/\N<=b/\n<=c/\(xs++sp).length=c*k/\Own h b e (xs++sp))
def BY:Aa->Nat->Prop
 |.slice (I a) _ _,i=>i=a.block
 |_,_=>False
def AS.nil (h:Y) (N:Nat) (e:Ai) (k:Nat):AS h N e k (.slice Z 0 0) 0 []:=⟨by simp,.inl ⟨B,B⟩⟩
def AS.ext {h J:Y} {N:Nat} {e:Ai} {k:Nat} {v:Aa} {n:Nat} {xs:AH} (o:AS h N e k v n xs) (x:AA h J):AS J N e k v n xs:=by
 obtain⟨d,a|⟨b,c,sp,a,f,g,i,j⟩⟩:=o
 .exact⟨d,.inl a⟩
 .exact⟨d,.inr ⟨b,c,sp,a,f,g,i,j.ext x⟩⟩
def AS.ae {W:Nat->Prop} {h J:Y} {N:Nat} {e:Ai} {k:Nat} {v:Aa} {n:Nat} {xs:AH} (o:AS h N e k v n xs) (x:B0 W h J) (f:∀i,BY v i->¬W i):AS J N e k v n xs:=by
 obtain⟨d,a|⟨b,c,sp,a,g,j,l,m⟩⟩:=o
 .exact⟨d,.inl a⟩
 .exact⟨d,.inr ⟨b,c,sp,a,g,j,l,m.ae x (f b (by rw[a];rfl))⟩⟩
def AS.ai {h:Y} {N:Nat} {e:Ai} {k:Nat} {v:Aa} {n:Nat} {xs:AH} (o:AS h N e k v n xs):∀i,BY v i->N<=i:=by
 intro i U;obtain⟨d,⟨a,_⟩|⟨b,c,sp,a,f,_⟩⟩:=o
 .rw[a] at U;exact U.elim
 .rw[a] at U;have:i=b:=U;omega
def AS.aw {h:Y} {N:Nat} {e:Ai} {k:Nat} {v:Aa} {n:Nat} {xs:AH} (o:AS h N e k v n xs):∀i,BY v i->i<h.nx:=by
 intro i U;obtain⟨f,⟨a,_⟩|⟨b,c,sp,a,g,_,_,d⟩⟩:=o
 .rw[a] at U;exact U.elim
 .rw[a] at U;have:i=b:=U;rw[this];exact d.1
def AS.cell {h:Y} {N:Nat} {e:Ai} {k:Nat} {v:Aa} {n:Nat} {xs:AH} (o:AS h N e k v n xs) {i:Nat} {u:Aa} (U:xs[i]?=I u):∃b c,v=.slice (I ⟨b,0,Z⟩) n c/\N<=b/\Cell h b i u:=by
 obtain⟨d,⟨f,a⟩|⟨b,c,sp,f,a,j,l,g⟩⟩:=o
 .subst a
  have:=(List.getElem?_eq_some_iff.1 U).1;simp at d;subst d;simp at this
 .exact⟨b,c,f,a,g.cell (by rw[AB (List.getElem?_eq_some_iff.1 U).1];exact U)⟩
def SJ {c:T Aa} {xs:AH} (a:∀i v,xs[i]?=I v->c.get i=I v):∀(k off:Nat),off+k<=xs.length->DV c k off=I ((xs.drop off).take k)
 |0,off,_=>by rw[List.take_zero];rfl
 |
  k+1,off,e=>by
  have b:off<xs.length:=by omega
  have d:=SJ a k (off+1) (G);show(match c.get off with|some v=>(match DV c k (off+1) with|some l=>I (v::l)|none=>Z)|none=>Z)=_
  rw[a off xs[off] (Ab b),d];simp only[];rw[Di b];rfl
def Own.bx {h:Y} {b:Nat} {e:Ai} {xs:AH} (o:Own h b e xs) {off k:Nat} (a:off+k<=xs.length):
 ∃c x,h.t.get b=I (.cells c xs.length e 0 0 x)/\Go.Ev.DV c k off=I ((xs.drop off).take k):=by
 obtain⟨_,c,x,d,f⟩:=o;exact⟨c,x,d,SJ f k off a⟩
def G1 (τ:Bb) (st t2 e k:Nat):Bool:=
 (match τ.ds.get st with|some (.slice a)=>Am a e|_=>Ah)&&!MU τ (I t2)&&
 (match τ.aj.get e,CP τ e with|some i,I z=>Am i.size k&&AD 0 k&&Am (AJ z).length k&&(AJ z).all one&&Ar i.bytes 1024|_,_=>Ah)
def In {τ:Bb} {st t2 e k:Nat} (h:G1 τ st t2 e k=Ag):τ.ds.get st=I (.slice e)/\MU τ (I t2)=Ah/\
 ∃i z,τ.aj.get e=I i/\CP τ e=I z/\i.size=k/\0<k/\(AJ z).length=k/\(AJ z).all one=Ag/\i.bytes<=1024:=by
 unfold G1 at h;simp only[An] at h;obtain⟨⟨b,d⟩,a⟩:=h;refine⟨?_,by simpa using d,?_⟩
 .split at b
  .rename_i n f;rw[f,Af b]
  .cases b
 .split at a
  .rename_i i z U g
   simp only[An] at a;obtain⟨⟨⟨⟨a1,c⟩,j⟩,l⟩,m⟩:=a;exact⟨i,z,U,g,Af a1,by rw[AK] at c;exact c,Af j,l,Ac m⟩
  .cases a
def Ha {n:Nat} (h:n<=1099511627776):E3 n=true:=Aq h
def M2 {m b:Nat} (a:m<=1000000000) (hb:b<=1024):Tx m b=true:=by
 have c:(m+m/4+192)*b<=1250000192*1024:=Cj (G) hb;unfold Tx;rw[Aq (show(m+m/4+192)*b<=281474976710656 by omega),Aq (show m<=70368744177664 by omega)];rfl
def by8 (τ:Bb) (e:Ai):Bool:=match τ.aj.get e with|some i=>Ar i.bytes 8|none=>Ah
def Aww {τ:Bb} {st t2 e k:Nat} (u:G1 τ st t2 e k=Ag) {h:Y} {N:Nat} {v x:Aa} {n m:Nat} {xs ys:AH} (o:AS h N e k v n xs) (R:MM x=I m) (w:MN k h x m=I ys)
 (a:ys.length=m*k) (l:ys.all one=Ag) (A:N<=h.nx) (S:m<=1000000000) (hb:n+m<=1000000000\/n+m<=26000000000000/\by8 τ e=Ag):
 ∃f J,Bx τ .append [st,t2] [v,x] h=I (f,J)/\AS J N e k f (n+m) (xs++ys)/\B0 (BY v) h J/\(∀i,BY f i->BY v i\/h.nx<=i):=by
 obtain⟨t1,T,i,z,t3,t4,t5,t6,t7,t8,t9⟩:=In u;have C:E3 (m*i.bytes)=true:=Ha (by
  have:m*i.bytes<=1000000000*1024:=Cj S t9;omega)
 have D:E3 m=true:=Ha (G);have V:Tx (n+m) i.bytes=true:=by
  rcases hb with hb|⟨hb,p⟩
  .exact M2 hb t9
  unfold by8 at p;rw[t3] at p;have:(n+m+(n+m)/4+192)*i.bytes<=32500000000192*8:=Cj (G) (Ac p);unfold Tx;rw[Aq (show(n+m+(n+m)/4+192)*i.bytes<=281474976710656 by omega),Aq (show n+m<=70368744177664 by omega)];rfl
 suffices H:∃f J,Gj τ [st,t2] [v,x] h=I (f,J)/\AS J N e k f (n+m) (xs++ys)/\B0 (BY v) h J/\(∀i,BY f i->BY v i\/h.nx<=i) by
  obtain⟨f,J,g,j⟩:=H;exact⟨f,J,by simp only[Bx,g],j⟩
 have E:(AD 0 k&&ys.all one&&Am k k&&Ag)=true:=by
  rw[l];simp[AK,t6]
 unfold Gj;simp only[List.head?_cons,T,I0,t1,t3,R,t4,t5,w,t7,t8,E,D1];obtain⟨d,⟨rfl,rfl⟩|⟨b,c,sp,rfl,F,q4,q,r⟩⟩:=o
 .simp at d;subst d
  simp only[Ba] at*;cases m with
  |
   zero=>
   simp at a;subst a;exact⟨_,_,B,AS.nil h N e k,(AA.refl h).ae _,λi U=>U.elim⟩
  |
   succ m=>
   simp only[C,D];refine⟨.slice (I ⟨h.nx,0,Z⟩) (m+1) (m+1),Go.Ev.HY h e ys,B,⟨by simpa using a,.inr ⟨h.nx,m+1,[],B,A,Ae _,by simpa using a,by simpa using Own.a4 h e ys⟩⟩,(AA.a4 h e ys).ae _,λi U=>.inr (A2 U.symm)⟩
 .simp only[]
  cases t:Ar (n+m) c with
  |
   true=>
   have K:=Ac t;have W:n*k+m*k<=(xs++sp).length:=by rw[q,←Dw];exact Ci k K
   obtain⟨J,L,M,O⟩:=r.bb (i:=0+n*k) (vs:=ys) (by rw[a];omega) l;simp only[D1,L];cases m with
   |
    zero=>
    simp at a;subst a;exact⟨_,_,B,⟨by simpa using d,.inr ⟨b,c,sp,by simp,F,G,by simpa using q,by simpa using r⟩⟩,(AA.refl h).ae _,λi U=>.inl U⟩
   |
    succ m=>
    refine⟨_,_,B,⟨by simp[d,a,Dw],.inr ⟨b,c,sp.drop ((m+1)*k),B,F,K,?_,?_⟩⟩,O.ae,λi U=>.inl U⟩
    .simp only[Aj,AV,d,a] at*;omega
    .have:I2 (xs++sp) (0+n*k) ys=xs++ys++sp.drop ((m+1)*k):=by
      rw[Ba,←d,←a];clear L M O w l C D u E;have Cw:∀(ys xs sp:AH),ys.length<=sp.length->I2 (xs++sp) xs.length ys=xs++ys++sp.drop ys.length:=by
       intro ys
       induction ys with
       |nil=>intro xs sp _;simp[I2]
       |
        cons y ys X=>
        intro xs sp P;cases sp with
        |nil=>simp at P
        |
         cons s sp=>
         rw[I2];have g:(xs++s::sp).set xs.length y=(xs++[y])++sp:=by simp
         have j:xs.length+1=(xs++[y]).length:=by simp
         rw[g,j,X (xs++[y]) sp (by simpa using P)];simp
      refine Cw ys xs sp ?_;simp only[Aj,d,a] at W⊢;omega
     rw[←this];exact M
  |
   false=>
   have aa:c<n+m:=by
    rcases A8 c (n+m) with h|h
    .exact h
    .rw[Aq h] at t;cases t
   obtain⟨cc,xb,g1,Q⟩:=r.bx (off:=0) (k:=n*k) (by simp[d]);have g3:((xs++sp).drop 0).take (n*k)=xs:=by rw[Ajb,←d,List.take_left]
   rw[g3] at Q;have g:Am e e=true:=by simp
   have j:Am (0+c*k) (xs++sp).length=true:=by rw[q,Ba];simp
   simp only[I0,V,Bool.and_self,D1,g1,g,Q,j,(rfl:Ar 0 0=Ag),Bool.true_or,Mh];refine⟨_,_,B,⟨by simp[d,a,Dw],.inr ⟨h.nx,n+m,[],?_,A,Ae _,by simp[d,a,Dw],?_⟩⟩,?_,λi U=>.inr (A2 U.symm)⟩
   .rfl
   .rw[Fb]
    have:=Own.new (h.put b .dead) e (xs++ys) Ah;rw[Cc] at this;exact this
   .exact((Er.put h b .dead).ae).trans ((AA.new _ _).ae _)
def UN {τ:Bb} {st t2 e k:Nat} (b:G1 τ st t2 e k=Ag) {h:Y} {N:Nat} {v x:Aa} {n m:Nat} {xs ys:AH} (o:AS h N e k v n xs) (c:MM x=I m) (d:MN k h x m=I ys)
 (f:ys.length=m*k) (g:ys.all one=Ag) (j:N<=h.nx) (hb:n+m<=1000000000):
 ∃a J,Bx τ .append [st,t2] [v,x] h=I (a,J)/\AS J N e k a (n+m) (xs++ys)/\B0 (BY v) h J/\(∀i,BY a i->BY v i\/h.nx<=i):=Aww b o c d f g j (G) (.inl hb)
def Il {k:Nat} {h:Y} {b:Nat} {e:Ai} {xs:AH} (o:Own h b e xs) {off n c m:Nat} {sp:Option Nat} (a:off+m*k<=xs.length):MN k h (.slice (I ⟨b,off,sp⟩) n c) m=I ((xs.drop off).take (m*k)):=by
 obtain⟨g,x,d,f⟩:=o.bx a;simp only[MN,d];exact f
def Iv {τ:Bb} {t e k:Nat} (b:G1 τ t t e k=Ag) (v:Aa) (a:(AJ v).length=k) (c:(AJ v).all one=Ag) (l:k<=1000) (h:Y):
 Bs τ t 1 [(0,v)] h=I (.slice (I ⟨h.nx,0,Z⟩) 1 1,BN h e (AJ v)):=by
 obtain⟨t1,_,i,z,t3,t4,t5,t6,t7,t8,t9⟩:=In b;unfold Bs;simp only[t1,t3,t4,t5,t7];have c1:(AD 0 k&&Am k k&&Ar (1*k) 16777216)=true:=by
  simp[AK,t6];omega
 rw[c1];simp only[D1];have d:Dy (AJ z) 1=AJ z:=by simp[Dy]
 rw[d];have Cw:∀(vs xs pre:AH),vs.length=xs.length->My (pre++xs) pre.length vs=pre++vs:=by
  intro vs
  induction vs with
  |nil=>intro xs pre h;cases xs with|nil=>rfl|cons _ _=>cases h
  |
   cons v vs f=>
   intro xs pre h;cases xs with
   |nil=>cases h
   |
    cons x xs=>
    rw[My];have g:(pre++x::xs).set pre.length v=(pre++[v])++xs:=by simp
    rw[g,show pre.length+1=(pre++[v]).length by simp,f xs (pre++[v]) (by simpa using h)];simp
 have c3:My (AJ z) (0*k) (AJ v)=AJ v:=by
  rw[Qg];exact Cw (AJ v) (AJ z) [] (by rw[a,t7])
 have c4:Jw (λj=>I (j*k,k)) [(0,v)] (AJ z)=I (AJ v):=by
  rw[Jw];simp only[a,c,t7];have:(Am k k&&Ar (0*k+k) k&&Ag)=true:=by simp
  rw[this,c3];rfl
 rw[c4]
def Tz {τ:Bb} {st t2 e k:Nat} (c:G1 τ st t2 e k=Ag) {h:Y} {N:Nat} {v:Aa} {n:Nat} {xs ys:AH} (o:AS h N e k v n xs)
 (d:ys.length=k) (f:ys.all one=Ag) (g:N<=h.nx) (hb:n+1<=1000000000):
 ∃a J,Bx τ .append [st,t2] [v,.slice (I ⟨h.nx,0,Z⟩) 1 1] (BN h e ys)=I (a,J)/\AS J N e k a (n+1) (xs++ys)/\B0 (BY v) h J/\(∀i,BY a i->BY v i\/h.nx<=i):=by
 have b:=AA.row h e ys;have j:=Own.row h e ys;obtain⟨a,J,l,p,q,r⟩:=UN c (m:=1) (ys:=ys) (o.ext b) (x:=.slice (I ⟨h.nx,0,Z⟩) 1 1) B
  (by rw[Il j (G)];simp[←d]) (G) f (Ao g b.nx) hb
 refine⟨a,J,l,p,(b.ae _).trans q,λi U=>?_⟩;rcases r i U with h|h
 .exact .inl h
 .exact .inr (Ao b.nx h)
def B0.cell {W:Nat->Prop} {h J:Y} {b o:Nat} {v:Aa} (e:B0 W h J) (c:Cell h b o v) (a:¬W b):Cell J b o v:=c.ae e a
def Rd (h:Y) (v:Aa) (k n:Nat) (xs:AH):Prop:=xs.length=n*k/\∃A c,v=.slice A n c/\n<=c/\(A=Z->c=0)/\
 ∀a,A=I a->a.block<h.nx/\∃c m e lo U x,h.t.get a.block=I (.cells c m e lo U x)/\∀i u,xs[i]?=I u->c.get (a.off+i)=I u
def Rd.ae {W:Nat->Prop} {h J:Y} {v:Aa} {k n:Nat} {xs:AH} (r:Rd h v k n xs) (e:B0 W h J) (g:∀i,BY v i->¬W i):Rd J v k n xs:=by
 obtain⟨j,A,c,b,l,o,p⟩:=r;refine⟨j,A,c,b,l,o,λa d=>?_⟩;obtain⟨f,c,m,t,lo,U,x,q,s⟩:=p a d;exact⟨AC f e.nx,c,m,t,lo,U,x,by rw[e.t _ f (g _ (by rw[b,d];rfl))];exact q,s⟩
def Rd.ext {h J:Y} {v:Aa} {k n:Nat} {xs:AH} (r:Rd h v k n xs) (e:AA h J):Rd J v k n xs:=r.ae (e.ae λ_=>False) λ_ _ h=>h
def Rd.aw {h:Y} {v:Aa} {k n:Nat} {xs:AH} (r:Rd h v k n xs):∀i,BY v i->i<h.nx:=by
 intro i U;obtain⟨_,A,c,rfl,_,_,b⟩:=r;cases A with
 |none=>exact U.elim
 |some a=>have:i=a.block:=U;rw[this];exact(b a B).1
def Rd.at_ {h:Y} {v:Aa} {k n:Nat} {xs:AH} (r:Rd h v k n xs) (p:0<n):∃a c,v=.slice (I a) n c/\n<=c/\∀i u,xs[i]?=I u->Cell h a.block (a.off+i) u:=by
 obtain⟨q,A,c,b,d,e,f⟩:=r;cases A with
 |none=>have:=e B;omega
 |
  some a=>
  refine⟨a,c,b,d,λi u U=>?_⟩;obtain⟨g,c,m,t,lo,j,x,l,o⟩:=f a B;exact⟨g,c,m,t,lo,j,x,l,o i u U⟩
def AS.rd {h:Y} {N:Nat} {e:Ai} {k:Nat} {v:Aa} {n:Nat} {xs:AH} (o:AS h N e k v n xs):Rd h v k n xs:=by
 obtain⟨f,⟨rfl,rfl⟩|⟨b,c,sp,rfl,q,g,r,j,l,y,m,p⟩⟩:=o
 .exact⟨f,Z,0,B,Ae _,λ_=>rfl,λa d=>by cases d⟩
 .refine⟨f,I ⟨b,0,Z⟩,c,B,g,(λh=>by cases h),λa d=>?_⟩
  cases d;refine⟨j,l,_,e,0,0,y,m,λi u U=>?_⟩;rw[Ba];exact p i u (by rw[AB (List.getElem?_eq_some_iff.1 U).1];exact U)
def B0.then {W m:Nat->Prop} {l h J:Y} (a:B0 W l h) (b:B0 m h J) (k:∀i,m i->W i\/l.nx<=i):B0 W l J:=
 ⟨Ao a.nx b.nx,λi U d=>(b.t i (AC U a.nx) λh=>by
  rcases k i h with h|h
  .exact d h
  .omega).trans (a.t i U d),λN e c j=>b.lo N (Ao e a.nx) (λi U=>by
  rcases k i U with h|h
  .exact c i h
  .omega) (a.lo N e c j),λN b0 e hb c j=>b.g N b0 (Ao e a.nx) hb (λi U=>by
  rcases k i U with h|h
  .exact c i h
  .right;omega) (a.g N b0 e hb c j),λn P d c j=>b.f n P (Ao d a.nx) (λi U=>by
  rcases k i U with h|h
  .exact c i h
  .right;omega) (a.f n P d c j)⟩
def Own.st {τ:Bb} {t:Ai} (a:Gv τ t=Ag) {h:Y} {b:Nat} {e:Ai} {xs:AH} (o:Own h b e xs) {i:Nat} (c:i<xs.length) {v:Aa} (d:one v=Ag):
 ∃J,BA τ t h b i v=I J/\Own J b e (xs.set i v)/\Er b h J:=by
 unfold Gv at a;split at a
 .rename_i f U;exact o.store U (Af a) c d
 .cases a
def AS.ah {h J:Y} {b:Nat} {N:Nat} {e:Ai} {k:Nat} {v:Aa} {n:Nat} {xs:AH} (o:AS h N e k v n xs) (x:Er b h J) (a:∀i,BY v i->i≠b):AS J N e k v n xs:=o.ae x.ae a
def Rd.ah {h J:Y} {b:Nat} {v:Aa} {k n:Nat} {xs:AH} (r:Rd h v k n xs) (x:Er b h J) (a:∀i,BY v i->i≠b):Rd J v k n xs:=r.ae x.ae a
def D5 {h:Y} {N:Nat} {e:Ai} {k:Nat} {v:Aa} {n:Nat} {xs:AH} (o:AS h N e k v n xs):one v=true:=by
 obtain⟨_,⟨rfl,_⟩|⟨b,c,sp,rfl,_⟩⟩:=o<;>rfl
def QV (z:Aa):∀n,Dy [z] n=AE n z
 |0=>rfl
 |n+1=>by rw[Dy,QV z n];rfl
def YH {τ:Bb} {t e k:Nat} {z:Aa} (f:G1 τ t t e k=Ag) (b:CP τ e=I z) (l m:Nat) (g:l<=m) (j:m<=16777216) (c d:Cq) (h:Y):
 ∃a,Dk τ t (.int c (l:Int)) (.int d (m:Int)) h=I (.slice (I ⟨h.nx,0,Z⟩) l m,a)/\AA h a/\Own a h.nx e (Dy (AJ z) m)/\a.nx=h.nx+1:=by
 obtain⟨t1,_,i,r,t3,t4,t5,t6,t7,t8,t9⟩:=In f;rw[b] at t4;cases t4;refine⟨BN h e (Dy (AJ z) m),?_,AA.row _ _ _,Own.row _ _ _,Ck _ _⟩;unfold Dk;have n:Fs (.int c (l:Int))=I l:=rfl;have o:Fs (.int d (m:Int))=I m:=rfl;simp only[t1,n,o,t3,b];have b1:E3 (m*i.bytes)=true:=Ha (by
  have:m*i.bytes<=16777216*1024:=Cj j t9;omega)
 have p:E3 m=true:=Ha (G);have q:(Ar l m&&E3 (m*i.bytes)&&E3 m&&AD 0 i.size&&Am (AJ z).length i.size)=true:=by
  rw[b1,p,t5,t7,Aq g];simp[AK];omega
 rw[q];rfl
def Vs {τ:Bb} {t e:Ai} {z:Aa} (d:G1 τ t t e 1=Ag) (f:CP τ e=I z) (a:one z=Ag) (l m:Nat) (g:l<=m) (i:m<=16777216) (b c:Cq) (h:Y):
 ∃a,Dk τ t (.int b (l:Int)) (.int c (m:Int)) h=I (.slice (I ⟨h.nx,0,Z⟩) l m,a)/\AA h a/\Own a h.nx e (AE m z)/\a.nx=h.nx+1:=by
 have:=YH d f l m g i b c h;have j:AJ z=[z]:=by cases z<;>first|rfl|cases a
 rwa [j,QV] at this
def MA {τ:Bb} {t e:Ai} {z:Aa} (d:G1 τ t t e 1=Ag) (f:CP τ e=I z) (a:one z=Ag) (m:Nat) (g:m<=16777216) (b c:Cq) (h:Y):
 ∃a,Dk τ t (.int b (m:Int)) (.int c (m:Int)) h=I (.slice (I ⟨h.nx,0,Z⟩) m m,a)/\AA h a/\Own a h.nx e (AE m z)/\a.nx=h.nx+1:=Vs d f a m m (Ae _) g b c h
def Own.aa {h J:Y} {b:Nat} {e:Ai} {xs:AH} (o:Own J b e xs):Own (h.aa J) b e xs:=by
 unfold Own;rw[CL,DF];exact o
def Cell.aa {h J:Y} {b i:Nat} {v:Aa} (o:Cell J b i v):Cell (h.aa J) b i v:=by
 unfold Cell;rw[CL,DF];exact o
def AS.aa {h J:Y} {N:Nat} {e:Ai} {k:Nat} {v:Aa} {n:Nat} {xs:AH} (o:AS J N e k v n xs):AS (h.aa J) N e k v n xs:=by
 obtain⟨d,a|⟨b,c,sp,a,f,g,i,j⟩⟩:=o
 .exact⟨d,.inl a⟩
 .exact⟨d,.inr ⟨b,c,sp,a,f,g,i,j.aa⟩⟩
def Rd.aa {h J:Y} {v:Aa} {k n:Nat} {xs:AH} (r:Rd J v k n xs):Rd (h.aa J) v k n xs:=by
 unfold Rd;rw[CL,DF];exact r
def Er.aa {b:Nat} {h J:Y} (u:Er b h.ad J):Er b h (h.aa J):=
 ⟨by rw[CL,u.nx,BF],λi U=>by rw[DF,u.t i U,Ow],by rw[J7,u.lo,DZ];rfl⟩
def B0.aa {W:Nat->Prop} {h J:Y} (u:B0 W h.ad J):B0 W h (h.aa J):=
 ⟨by rw[CL];have:=u.nx;rw[BF] at this;exact this,λb hb a=>by rw[DF];have:=u.t b (by rw[BF];exact hb) a;rw[Ow] at this;exact this,
  λN d a c=>by rw[J7];exact Rx c (u.lo N (by rw[BF];exact d) a (by rw[DZ];rfl)),
  λN b0 d hb a c=>by rw[J7];exact YY hb c (u.g N b0 (by rw[BF];exact d) hb a (by rw[DZ];exact .inl B)),
  λn P e a c=>by rw[J7];exact Zv c (u.f n P (by rw[BF];exact e) a (by rw[DZ];trivial))⟩
def B0.ok {b0:Nat} {W:Nat->Prop} {h J:Y} (u:B0 W h.ad J) (a:∀i,W i->i=b0) (hb:∃hb,h.t.get b0=I hb/\hb.live=Ag):N5 h J.lo:=by
 by_cases b:b0<h.nx
 .rcases u.g h.nx b0 (by rw[BF];exact Ae _) b (λi U=>.inl (a i U)) (by rw[DZ];exact .inl B) with e|e|⟨lo,_,e⟩
  .exact .inl e
  .rw[e];exact .inr hb
  .rw[e];exact .inr hb
 .exact .inl (u.lo h.nx (by rw[BF];exact Ae _) (λi U=>by rw[a i U];omega) (by rw[DZ];rfl))
def B0.de {W:Nat->Prop} {h J:Y} (u:B0 W h.ad J) (d:∀i,W i->(∃hb,h.t.get i=I hb/\hb.live=Ag)\/h.nx<=i):N5 h J.lo:=by
 have:=u.f h.nx (λi=>∃hb,h.t.get i=I hb/\hb.live=Ag) (by rw[BF];exact Ae _) d (by rw[DZ];trivial);cases c:J.lo with
 |no=>exact .inl B
 |rest _=>exact .inr trivial
 |
  one b=>
  rw[c] at this;rcases this with a|a
  .exact .inr a
  .exact .inl (Aq a)
 |
  pair b lo=>
  rw[c] at this;obtain⟨e,a|a⟩:=this
  .exact .inr a
  .refine .inl ?_
   show(Ar h.nx b&&Ar h.nx lo)=Ag;rw[Aq a,Aq (show h.nx<=lo by omega)];rfl
def B0.ag {W:Nat->Prop} {h J:Y} (u:B0 W h.ad J) (a:∀i,¬W i):J.lo.ag h.nx=true:=
 u.lo h.nx (by rw[BF];exact Ae _) (λi U=>Cf U (a i)) (by rw[DZ];rfl)
def AS.live {h:Y} {N:Nat} {e:Ai} {k:Nat} {v:Aa} {n:Nat} {xs:AH} (o:AS h N e k v n xs) {i:Nat} (U:BY v i):∃hb,h.t.get i=I hb/\hb.live=true:=by
 obtain⟨_,⟨rfl,_⟩|⟨b,c,sp,rfl,_,_,_,_,d,x,a,_⟩⟩:=o
 .exact U.elim
 .have:i=b:=U
  subst this;exact⟨_,a,B⟩
def B0.dw {h J:Y} {N:Nat} {e:Ai} {k:Nat} {v:Aa} {n:Nat} {xs:AH} (u:B0 (BY v) h.ad J) (o:AS h N e k v n xs):N5 h J.lo:=by
 obtain⟨a,⟨rfl,f⟩|⟨b,c,sp,rfl,d⟩⟩:=o
 .exact .inl (u.ag λ_ h=>h)
 .exact u.ok (b0:=b) (λi U=>U) (AS.live (N:=N) (e:=e) (k:=k) (xs:=xs) ⟨a,.inr ⟨b,c,sp,B,d⟩⟩ B)
def slK (τ:Bb) (t k:Nat):Bool:=match τ.ds.get t with
 |some (.slice e)=>(match τ.aj.get e with|some i=>Am i.size k|none=>Ah)
 |_=>Ah
def Rd.slice {τ:Bb} {t k:Nat} (b:slK τ t k=Ag) {h:Y} {A:Option BD} {n c:Nat} {xs:AH} (r:Rd h (.slice A n c) k n xs) {lo U:Option Aa} {l m:Nat} (g:RO 0 lo=I l) (j:RO n U=I m) (o:l<=m) (p:m<=n):
 ∃f,C7 τ t (.slice A n c) lo U Z=I f/\Rd h f k (m-l) ((xs.drop (l*k)).take ((m-l)*k))/\(∀i,BY f i->BY (.slice A n c) i):=by
 unfold slK at b;split at b
 case h_2=>cases b
 rename_i e q;split at b
 case h_2=>cases b
 rename_i T s;have w:=Af b;obtain⟨y,V,W,z,C,D,E⟩:=r;cases z;have X:m*k<=n*k:=Ci k p;have aa:l*k<=m*k:=Ci k o;have F:((xs.drop (l*k)).take ((m-l)*k)).length=(m-l)*k:=by
  rw[Cg,AV,y,Nat.sub_mul];omega
 cases A with
 |
  none=>
  have H:=D B;have:n=0:=by omega
  subst this;subst H;have:m=0:=by omega
  subst this;have:l=0:=by omega
  subst this;refine⟨.slice Z 0 0,?_,⟨by simp,Z,0,B,Ae _,λ_=>rfl,λa K=>by cases K⟩,λi U=>U⟩;unfold C7;simp only[q];rw[g];simp only[j,s]
 |
  some a=>
  refine⟨.slice (I ⟨a.block,a.off+l*k,a.spot⟩) (m-l) (c-l),?_,⟨F,_,_,B,G,(λh=>by cases h),λa' L=>?_⟩,λi U=>U⟩
  .unfold C7
   simp only[q];rw[g,j,s];simp only[w];have:(Ar l m&&Ar m c)=true:=by rw[Aq o,Aq (Ao p C)];rfl
   rw[this];rfl
  .cases L
   obtain⟨M,v,N,O,P,Q,x,R,S⟩:=E a B;refine⟨M,v,N,O,P,Q,x,R,λi u d=>?_⟩;show v.get (a.off+l*k+i)=I u;rw[DD];refine S _ u ?_;rw[LS] at d;split at d
   .rw[Eg] at d;exact d
   .cases d
def Ay (l:Bl):AH:=l.map λb=>AL .u8 (b.toNat:Int)
def A7 (l:Bl):(Ay l).length=l.length:=by simp[Ay]
def Ee (a b:Bl):Ay (a++b)=Ay a++Ay b:=by simp[Ay]
def Ez (l:Bl) (n:Nat):(Ay l).take n=Ay (l.take n):=by simp[Ay,List.map_take]
def EA (l:Bl) (n:Nat):(Ay l).drop n=Ay (l.drop n):=by simp[Ay,List.map_drop]
def EM:∀bs:Bl,G7 (Ay bs)=I bs
 |[]=>rfl
 |
  b::bs=>by
  show(match G7 (Ay bs) with|some r=>I (UInt8.ofNat (b.toNat:Int).toNat::r)|none=>Z)=_
  rw[EM bs];simp
def HQ {c:T Aa} {xs:AH} {off:Nat} (a:∀i u,xs[i]?=I u->c.get (off+i)=I u):DV c xs.length off=I xs:=by
 induction xs generalizing off with
 |nil=>rfl
 |
  cons x xs d=>
  have b:=a 0 x B;rw[UL] at b;have:=d (off:=off+1) (λi u U=>by rw[DD,UK 1];exact a (i+1) u (by simpa using U));show(match c.get off with|some v=>(match DV c xs.length (off+1) with|some l=>I (v::l)|none=>Z)|none=>Z)=_
  rw[b,this]
def bsT (τ:Bb) (s d:Nat):Bool:=match τ.ds.get s,τ.ds.get d with
 |some (.slice e),I .string=>(match τ.ds.get e with|some (.int .u8)=>Ag|_=>Ah)
 |_,_=>Ah
def FB {τ:Bb} {s d:Nat} (b:bsT τ s d=Ag) {h:Y} {v:Aa} {n:Nat} {bs:Bl} (r:Rd h v 1 n (Ay bs)):Ea τ s d v h=I (.string ⟨⟨bs⟩⟩,h):=by
 unfold bsT at b;split at b
 case h_2=>cases b
 rename_i e j k;split at b
 case h_2=>cases b
 rename_i f;obtain⟨g,A,c,rfl,u,l,o⟩:=r;rw[A7,BJ] at g;unfold Ea;rw[j,k];cases A with
 |
  none=>
  have:=l B;have p:bs.length=0:=by omega
  have:bs=[]:=List.length_eq_zero_iff.1 p;subst this;simp only[f];rfl
 |
  some a=>
  obtain⟨w,y,m,z,lo,U,x,q,t⟩:=o a B;have i:=HQ t;rw[A7,g] at i;simp only[f,q,i,EM]
def Aef {τ:Bb} {st t2 e k:Nat} (d:G1 τ st t2 e k=Ag) {X:Y} {N:Nat} {v:Aa} {n:Nat} {xs ys:AH} (o:AS X N e k v n xs)
 (f:ys.length=k) (g:ys.all one=Ag) (j:N<=X.nx) (hb:n+1<=1000000000):∃a,BN X.ad e ys=a/\AA X (X.aa a)/\
 ∃b J,Bx τ .append [st,t2] [v,.slice (I ⟨X.nx,0,Z⟩) 1 1] (X.aa a).ad=I (b,J)/\AS J N e k b (n+1) (xs++ys)/\B0 (BY v) (X.aa a).ad J/\(∀i,BY b i->BY v i\/(X.aa a).nx<=i):=by
 have c:AA X (X.aa (BN X.ad e ys)):=(AA.row X.ad e ys).aa;have l:Own (X.aa (BN X.ad e ys)) X.nx e ys:=by
  have:=(Own.row X.ad e ys).aa (h:=X);rw[BF] at this;exact this
 have o':=o.ext c;obtain⟨b,J,p,q,r,s⟩:=UN (h:=(X.aa (BN X.ad e ys)).ad) d (m:=1) (ys:=ys) o' (x:=.slice (I ⟨X.nx,0,Z⟩) 1 1) B
  (by
   have:Own (X.aa (BN X.ad e ys)).ad X.nx e ys:=l;rw[Il this (G)];simp[←f]) (G) g (by rw[BF];exact Ao j c.nx) hb
 refine⟨_,B,c,b,J,p,q,r,λi U=>?_⟩;rcases s i U with h|h
 .exact .inl h
 .right
  rw[BF] at h;exact h
def exT:T KS:=((((T.nil.ins 233 KS.aU).ins 357 KS.indexByte).ins 292 KS.count).ins 329 (KS.makeNoZero 5))
def Ax:Bb:=Aod prog exT [47,93,107,112,114,143,238,298] 10
def Nf:Bo:=[9,15,26,27,42,43,44,78,86,113,114,137,139,161,167,173,252,317]
structure Base (S:A9) (L:Nat):Prop where
 plain:∀f,Nf.contains f=Ah->S.ov f=Z/\S.nd f=Z/\S.hk f=Z
 aI:1125899906842624<=L
section
variable{S:A9} {L:Nat}
def Bk (S:A9) (L:Nat) (d:Nat) (f:Au) (a:AH) (h:Y) (Q:Aa->Y->Prop):Prop:=∀n,d<=n->Cd (B8 Ax S L n) (.func f) a h Q
def Fm (b:Base S L) {d:Nat} {f:Au} {fn:BC} {a:AH} {h:Y} {Q:Aa->Y->Prop} (c:Ax.fn.get f=I fn) (e:Nf.contains f=Ah)
 (H:∀n,d<=n->YR Ax (B8 Ax S L n) L fn a h Q):Bk S L (d+1) f a h Q:=by
 intro n k;obtain⟨m,rfl⟩:∃m,n=m+1:=⟨n-1,by omega⟩;obtain⟨g,i,j⟩:=b.plain f e;exact Aom c j g i (H m (by omega))
def Bk.mono {d:Nat} {f:Au} {a:AH} {h:Y} {Q Q':Aa->Y->Prop} (c:Bk S L d f a h Q) (b:∀v J,Q v J->Q' v J):Bk S L d f a h Q':=λn e=>(c n e).mono b
end
def Dc {l:AH} {n:Nat} (h:Ar l.length n=Ag):l.length<=n:=Ac h
def AGj:prog.funcs.toList.all (λx=>!x.body.isSome||!(x.name== "runtime.NumGoroutine"))=true:=by kernel_rfl
def AAk:prog.follows .mixedOrders=true:=by kernel_rfl
def AEs:([47,93,107,112,114,143,238,298]:Bo).all (λt=>!prog.stoodInHeld t&&!prog.eqGuardType prog.depth t)=true:=by kernel_rfl
def Fi:BM prog Ax:=Ary AGj AEs AAk
def ABh:J8 prog 233 .aU:=⟨f233,func233,by kernel_rfl,by kernel_rfl,by kernel_rfl,by kernel_rfl⟩
def AEl:J8 prog 357 .indexByte:=⟨f357,func357,by kernel_rfl,by kernel_rfl,by kernel_rfl,by kernel_rfl⟩
def Azs:J8 prog 292 .count:=⟨f292,func292,by kernel_rfl,by kernel_rfl,by kernel_rfl,by kernel_rfl⟩
def ACx:J8 prog 329 (.makeNoZero 5):=⟨f329.params,62,⟨f329,func329,by kernel_rfl,by kernel_rfl,by kernel_rfl,by kernel_rfl⟩,by kernel_rfl,Arc (by kernel_rfl)⟩
def Avb (f:Au) (e:KS) (h:Ax.ex.get f=I e):J8 prog f e:=by
 replace h:(((((T.nil.ins 233 KS.aU).ins 357 KS.indexByte).ins 292 KS.count).ins 329 (KS.makeNoZero 5))).get f=I e:=h;rw[Ev.T.dA,Ev.T.dA,Ev.T.dA,Ev.T.dA] at h;by_cases a:f=329
 .rw[Bi a] at h;cases h;subst a;exact ACx
 rw[Bm a] at h;by_cases a:f=292
 .rw[Bi a] at h;cases h;subst a;exact Azs
 rw[Bm a] at h;by_cases a:f=357
 .rw[Bi a] at h;cases h;subst a;exact AEl
 rw[Bm a] at h;by_cases a:f=233
 .rw[Bi a] at h;cases h;subst a;exact ABh
 rw[Bm a,Ev.T.get_nil] at h;cases h
def Aob:TJ prog Ax 137 93:=⟨_,dg,B,B,XH (by kernel_rfl),by kernel_rfl⟩
def Ayd:TJ prog Ax 167 114:=⟨_,c9,B,B,XH (by kernel_rfl),by kernel_rfl⟩
def Axm:TJ prog Ax 317 298:=⟨_,da,B,B,XH (by kernel_rfl),by kernel_rfl⟩
def Ayv:IP prog 257:=⟨f257,_,_,_,_,_,_,_,_,_,_,_,_,_,_,_,_,_,_,_,_,func257,by kernel_rfl,B,by decide,by decide,by kernel_rfl,B⟩
def Axj:IP prog 258:=⟨f258,_,_,_,_,_,_,_,_,_,_,_,_,_,_,_,_,_,_,_,_,func258,by kernel_rfl,B,by decide,by decide,by kernel_rfl,B⟩
def Arq:YB Ax 231 f231 (Ajz (atC f231 0) 0) (Ajz (atC f231 1) 0) 179 62 3 1:=
 ⟨by kernel_rfl,⟨0,1,B⟩,B,B,by kernel_rfl,by kernel_rfl,by kernel_rfl,by kernel_rfl,Ahq (by kernel_rfl),⟨5,by kernel_rfl⟩⟩
def Ayh:J1 prog Ax (HG 5 64 65 1) (atC f161 4):=
 Aue Fi (t3':=3) (Axw Fi Avb codeOk) (by kernel_rfl) Arq ⟨⟨#[179],by kernel_rfl⟩,by kernel_rfl,by decide⟩
noncomputable section
def mI (n:Nat):Value:=.int .i64 (.ofNat n)
def mJ (n:Nat):Value:=.int .u64 (.ofNat n)
def mG (n:Nat):Value:=.int .u32 (.ofNat n)
def mD (k:Nat):Nat->Bl->Bl:=UE (motive:=λ_=>Nat->Bl->Bl) (λ_ l=>l) (λ_ f n l=>f (Qe n 256) (UInt8.ofNat (Zy n 256)::l)) k
def mE (k:Nat):Nat->AH->AH:=UE (motive:=λ_=>Nat->AH->AH) (λ_ l=>l) (λ_ f n l=>f (Qe n 256) (.int .u8 (.ofNat (Zy n 256))::l)) k
def mS (k n:Nat):Value:=.string ⟨⟨mD k n []⟩⟩
def mB (k n:Nat):AH:=mE k n []
def mP (n:Nat):Value:=.pointer (I ⟨n,0,Z⟩)
def mL (n l c:Nat):Value:=.slice (I ⟨n,0,Z⟩) l c
def mT (l:AH) (t:Nat):CB:=.cells l t 0 0 Ag
def mF (l:AH) (t:Nat):CB:=.cells l t 0 0 Ah
def Ft:CB:=mT (mB 256 0xf0f0f0f0f0f0f0f0f0f0f0f0f0f0f0f0f0f0f0f0f0f0f0f0f0f0f0f0f0f0f0f0f0f0f0f0f0f0f0f0f0f0f0f0f0f0f0f0f0f0f0f0f0f0f0f0f0f0f0f0f0f0f0f0f0f0f0f0f0f0f0f0f0f0f0f0f0f0f0f0f0f0f0f0f0f0f0f0f0f0f0f0f0f0f0f0f0f0f0f0f0f0f0f0f0f0f0f0f0f0f0f0f0f0f0f0f0f0f0f0f0f0f0f0f0f0f0f0f1f1f1f1f1f1f1f1f1f1f1f1f1f1f1f1f1f1f1f1f1f1f1f1f1f1f1f1f1f1f1f1f1f1f1f1f1f1f1f1f1f1f1f1f1f1f1f1f1f1f1f1f1f1f1f1f1f1f1f1f1f1f1f1f1f1020202020202020202020202020202020202020202020202020202020202130303030303030303030303032303033404040444f1f1f1f1f1f1f1f1f1f1f1) 286
def Fu:CB:=mT (mB 32 0x80bfa0bf809f90bf808f00000000000000000000000000000000000000000000) 337
def Hu:CB:=mT [mG 0,mG 498536548,mG 997073096,mG 651767980,mG 1994146192,mG 1802195444,mG 1303535960,mG 1342533948,mG 3988292384,mG 4027552580,mG 3604390888,mG 3412177804,mG 2607071920,mG 2262029012,mG 2685067896,mG 3183342108] 415
def mq0:List CB:=[mT [mL 11 2 2,mP 12,mP 13,mP 14,mP 15,mP 16,mP 17,mP 18,mP 19,mP 20,mP 21] 127,mF [mS 3 4345683,mI 0,mS 4 1852798318,mI 0] 112,mT [mI 2,mI 10,(.map (I 22))] 296,mT [mP 23,mP 24,mL 25 6 6,mP 26,mL 27 2 2] 272,mT [mP 28,mP 29,mL 30 9 9,mP 31,mL 32 3 3] 272,mT [mI 2,mI 2,mL 33 1 1] 319,mT [mI 3,mI 2,mL 34 1 1] 319,mT [mI 3,mI 1,mL 35 1 1] 319,mT [mI 3,mI 1,mL 36 1 1] 319,mT [mI 3,mI 6,mL 37 1 1] 319,mT [mI 3,mI 2,mL 38 1 1] 319,mT [mI 3,mI 2,mL 39 1 1] 319,.map [] 0,mT [mI 15,mL 40 1 1,mL 41 1 1] 356,mT [mI 7,mL 42 1 1,mL 43 1 1] 356,mF (mB 6 0xe3818be3818d) 5,mT [mI 2,mI 1,mL 44 1 1] 319,mT [mI 3,mI 6] 3,mT [mI 21,mL 45 1 1,mL 46 1 1] 356,mT [mI 10,mL 47 1 1,mL 48 1 1] 356,mF (mB 9 0xe6e7e89fa79abf918a) 5,mT [mI 3,mI 2,mL 49 1 1] 319,mT [mI 7,mI 8,mI 9] 3,mT [mJ 8] 213,mT [mJ 9] 213,mT [mJ 7] 213,mT [mJ 7] 213,mT [mJ 165780] 213,mT [mJ 18] 213,mT [mJ 36] 213,mT [mJ 5461] 213,mF [mI 0] 3,mT [mJ 72] 213,mF [mI 0] 3,mT [mJ 2] 213,mT [mJ 87389] 213,mF [mI 0] 3,mT [mJ 896] 213,mF [mI 0] 3,mT [mJ 36] 213]
def mq1:List CB:=[mF (mB 270 0x484e4b310b03706f730c066d6174726978030872656164696e67733c056669727374060873757266616365733f077375726661636506046c656674060572696768740604636f737408056f7264657206026174060203424f5300046e6f756e00020a00100000000f00000055150000000000000000000006000000e3818be3818d10000000070000004800000000000000000000000600000002000000010202000000020810000000150000005d550100000000000000000009000000e6e7e89fa79abf918a100000000a0000008003000000000000000000000600000003000000022403000000020903000000010703000000010703000000069487020300000002120300000002242bda2e73) 5]
def mq2:List CB:=[mT [mP 11,mS 6 0xe3818be3818d,mL 12 5 5,mL 13 2 2,(.map (I 14))] 82,mT [mL 15 2 2,mP 16,mP 17,mP 18,mP 19,mP 20,mP 21,mP 22,mP 23,mP 24,mP 25] 127,mF [mI 0,mI 2,mS 3 15114175,mI 1,mI 1,mI 40,mI 1,mI 0,mI 1,mS 3 15181713,mI 1,mI 1,mI 20,mI 1,mI 0,mI 1,mS 3 15243914,mI 1,mI 1,mI 30,mI 1,mI 0,mI 1,mS 3 14909835,mI 1,mI 1,mI 10000,mI 3,mI 1,mI 2,mS 3 14909837,mI 1,mI 1,mI 10000,mI 3] 93,mT [mL 26 4 4,mL 27 1 1] 48,.map [] 0,mF [mS 3 4345683,mI 0,mS 4 1852798318,mI 0] 112,mT [mI 2,mI 10,(.map (I 28))] 296,mT [mP 29,mP 30,mL 31 6 6,mP 32,mL 33 2 2] 272,mT [mP 34,mP 35,mL 36 9 9,mP 37,mL 38 3 3] 272,mT [mI 2,mI 2,mL 39 1 1] 319,mT [mI 3,mI 2,mL 40 1 1] 319,mT [mI 3,mI 1,mL 41 1 1] 319,mT [mI 3,mI 1,mL 42 1 1] 319,mT [mI 3,mI 6,mL 43 1 1] 319,mT [mI 3,mI 2,mL 44 1 1] 319,mT [mI 3,mI 2,mL 45 1 1] 319,mF [mI 0,mI 1,mI 2,mI 3] 3,mF [mI 4] 3,.map [] 0,mT [mI 15,mL 46 1 1,mL 47 1 1] 356,mT [mI 7,mL 48 1 1,mL 49 1 1] 356,mF (mB 6 0xe3818be3818d) 5,mT [mI 2,mI 1,mL 50 1 1] 319,mT [mI 3,mI 6] 3,mT [mI 21,mL 51 1 1,mL 52 1 1] 356,mT [mI 10,mL 53 1 1,mL 54 1 1] 356,mF (mB 9 0xe6e7e89fa79abf918a) 5,mT [mI 3,mI 2,mL 55 1 1] 319,mT [mI 7,mI 8,mI 9] 3,mT [mJ 8] 213,mT [mJ 9] 213,mT [mJ 7] 213,mT [mJ 7] 213,mT [mJ 165780] 213,mT [mJ 18] 213,mT [mJ 36] 213,mT [mJ 5461] 213,mF [mI 0] 3,mT [mJ 72] 213,mF [mI 0] 3,mT [mJ 2] 213,mT [mJ 87389] 213,mF [mI 0] 3,mT [mJ 896] 213,mF [mI 0] 3,mT [mJ 36] 213]
def mq3:List CB:=[mF [mI 0,mI 2,mS 3 15114175,mI 1,mI 1,mI 40,mI 1,mI 0,mI 1,mS 3 15181713,mI 1,mI 1,mI 20,mI 1,mI 0,mI 1,mS 3 15243914,mI 1,mI 1,mI 30,mI 1,mI 0,mI 1,mS 3 14909835,mI 1,mI 1,mI 10000,mI 3,mI 1,mI 2,mS 3 14909837,mI 1,mI 1,mI 10000,mI 3] 93]
def mq4:List CB:=[mT [mS 3 4345683,mI 0,mS 4 1852798318,mI 0] 112,mT [mS 3 14909835,mS 3 15243914,mI 1,mI 1,mI 30,mS 3 14909835,mS 3 15181713,mI 1,mI 1,mI 20,mS 6 0xe3818be3818d,mS 3 15114175,mI 1,mI 1,mI 40] 114]
def mq5:List CB:=[mF [mS 3 14909835,mS 3 15181713,mI 1,mI 1,mI 20,mS 3 14909835,mS 3 15243914,mI 1,mI 1,mI 30,mS 6 0xe3818be3818d,mS 3 15114175,mI 1,mI 1,mI 40] 114]
def mq6:List CB:=[mT [mJ 5461] 213,mF [mI 0] 3,mT [mJ 72] 213,mF [mI 0] 3,mT [mJ 2] 213,mT [mJ 87389] 213,mF [mI 0] 3,mT [mJ 896] 213,mF [mI 0] 3,mT [mJ 36] 213]
def mq7:List CB:=[mF (mB 63 0x10000000150000005d550100000000000000000009000000e6e7e89fa79abf918a100000000a00000080030000000000000000000006000000030000000224) 5]
def mq8:List CB:=[mF (mB 60 0x100000000f00000055150000000000000000000006000000e3818be3818d100000000700000048000000000000000000000006000000020000000102) 5]
def mq9:List CB:=[mT [mI 7,mI 8,mI 9] 3,mT [mJ 8] 213,mT [mJ 9] 213,mT [mJ 7] 213,mT [mJ 7] 213,mT [mJ 165780] 213,mT [mJ 18] 213,mT [mJ 36] 213]
def Aqa:List CB:=[mF [mS 3 4345683,mI 0,mS 4 1852798318,mI 0] 112]
def m6:E2:=⟨[(0,Ft),(1,Fu),(5,Hu)],[(.agg ⟨[mL 10 2 2,mI 10,(.slice Z 0 0),mL 11 3 3]⟩)],mq4,(.tuple ⟨[mL 12 270 270,mI 0]⟩),mq1⟩
def m8:E2:=⟨[(5,Hu)],[mL 10 270 270],mq1,(.tuple ⟨[mL 11 11 11,mI 0]⟩),([mT [mS 3 7368563,mL 12 12 12,mS 6 0x6d6174726978,mL 13 3 3,mS 8 0x72656164696e6773,mL 14 60 60,mS 5 439855772532,mL 15 6 6,mS 8 0x7375726661636573,mL 16 63 63,mS 7 0x73757266616365,mL 17 6 6,mS 4 1818584692,mL 18 6 6,mS 5 491394656372,mL 19 6 6,mS 4 1668248436,mL 20 8 8,mS 5 478660552050,mL 21 6 6,mS 2 24948,mL 22 6 6] 203,mF (mB 12 0x203424f5300046e6f756e00) 5,mF (mB 3 133632) 5]++mq8++[mF (mB 6 2199023256072) 5]++mq7++[mF (mB 6 3298534883849) 5,mF (mB 6 3298534883591) 5,mF (mB 6 3298534883591) 5,mF (mB 8 0x300000006948702) 5,mF (mB 6 3298534883858) 5,mF (mB 6 3298534883876) 5])⟩
def m11:E2:=⟨[],[mL 10 60 60],mq8,(.tuple ⟨[mP 11,mI 0]⟩),[mT [mP 12,mP 13,mL 14 6 6,mP 15,mL 16 2 2] 272,mT [mI 15,mL 17 1 1,mL 18 1 1] 356,mT [mI 7,mL 19 1 1,mL 20 1 1] 356,mF (mB 6 0xe3818be3818d) 5,mT [mI 2,mI 1,mL 21 1 1] 319,mT [mI 3,mI 6] 3,mT [mJ 5461] 213,mF [mI 0] 3,mT [mJ 72] 213,mF [mI 0] 3,mT [mJ 2] 213]⟩
def m12:E2:=⟨[],[mL 10 63 63],mq7,(.tuple ⟨[mP 11,mI 0]⟩),[mT [mP 12,mP 13,mL 14 9 9,mP 15,mL 16 3 3] 272,mT [mI 21,mL 17 1 1,mL 18 1 1] 356,mT [mI 10,mL 19 1 1,mL 20 1 1] 356,mF (mB 9 0xe6e7e89fa79abf918a) 5,mT [mI 3,mI 2,mL 21 1 1] 319,mT [mI 7,mI 8,mI 9] 3,mT [mJ 87389] 213,mF [mI 0] 3,mT [mJ 896] 213,mF [mI 0] 3,mT [mJ 36] 213]⟩
def m15:E2:=⟨[(0,Ft),(1,Fu),(5,Hu)],[mL 10 2 2,mP 11,mL 12 3 3],(Aqa++[mT [mI 2,mI 10,(.map (I 13))] 296]++mq5++[.map [] 0]),(.tuple ⟨[mL 14 270 270,mI 0]⟩),mq1⟩
def m16:E2:=⟨[(0,Ft),(1,Fu),(5,Hu)],[mL 10 270 270],mq1,(.tuple ⟨[mP 11,mI 0]⟩),([mT [mL 12 2 2,mP 13,mP 14,mP 15,mP 16,mP 17,mP 18,mP 19,mP 20,mP 21,mP 22] 127]++Aqa++[mT [mI 2,mI 10,(.map (I 23))] 296,mT [mP 24,mP 25,mL 26 6 6,mP 27,mL 28 2 2] 272,mT [mP 29,mP 30,mL 31 9 9,mP 32,mL 33 3 3] 272,mT [mI 2,mI 2,mL 34 1 1] 319,mT [mI 3,mI 2,mL 35 1 1] 319,mT [mI 3,mI 1,mL 36 1 1] 319,mT [mI 3,mI 1,mL 37 1 1] 319,mT [mI 3,mI 6,mL 38 1 1] 319,mT [mI 3,mI 2,mL 39 1 1] 319,mT [mI 3,mI 2,mL 40 1 1] 319,.map [] 0,mT [mI 15,mL 41 1 1,mL 42 1 1] 356,mT [mI 7,mL 43 1 1,mL 44 1 1] 356,mF (mB 6 0xe3818be3818d) 5,mT [mI 2,mI 1,mL 45 1 1] 319,mT [mI 3,mI 6] 3,mT [mI 21,mL 46 1 1,mL 47 1 1] 356,mT [mI 10,mL 48 1 1,mL 49 1 1] 356,mF (mB 9 0xe6e7e89fa79abf918a) 5,mT [mI 3,mI 2,mL 50 1 1] 319]++mq9++mq6)⟩
def m22:E2:=⟨[],[mP 10,mS 6 0xe3818be3818d],mq0,(mL 50 3 3),mq5⟩
def m24:E2:=⟨[],[mP 10,mS 3 14909837],mq0,(.slice Z 0 0),[]⟩
def m25:E2:=⟨[(0,Ft),(1,Fu)],[mP 10,mS 6 0xe3818be3818d,(.slice Z 0 0)],mq0,(.tuple ⟨[mL 50 5 5,mI 0]⟩),mq3⟩
def m26:E2:=⟨[(0,Ft),(1,Fu)],[mP 10,mS 6 0xe3818be3818d,(.slice Z 0 0),(.slice Z 0 0)],mq0,(.tuple ⟨[mP 50,mI 0]⟩),([mT [mP 10,mS 6 0xe3818be3818d,mL 51 5 5,mL 52 2 2,(.map (I 53))] 82]++mq3++[mT [mL 54 4 4,mL 55 1 1] 48,.map [] 0,mF [mI 0,mI 1,mI 2,mI 3] 3,mF [mI 4] 3])⟩
def m27:E2:=⟨[(0,Ft),(1,Fu),(5,Hu)],[(.agg ⟨[mL 10 2 2,mI 10,(.slice Z 0 0),mL 11 3 3,mS 6 0xe3818be3818d,(.slice Z 0 0),(.slice Z 0 0)]⟩)],mq4,(.tuple ⟨[mP 12,mP 13,mI 0]⟩),([mT [mL 14 2 2,mP 15,mP 16,mP 17,mP 18,mP 19,mP 20,mP 21,mP 22,mP 23,mP 24] 127,mT [mP 12,mS 6 0xe3818be3818d,mL 25 5 5,mL 26 2 2,(.map (I 27))] 82]++Aqa++[mT [mI 2,mI 10,(.map (I 28))] 296,mT [mP 29,mP 30,mL 31 6 6,mP 32,mL 33 2 2] 272,mT [mP 34,mP 35,mL 36 9 9,mP 37,mL 38 3 3] 272,mT [mI 2,mI 2,mL 39 1 1] 319,mT [mI 3,mI 2,mL 40 1 1] 319,mT [mI 3,mI 1,mL 41 1 1] 319,mT [mI 3,mI 1,mL 42 1 1] 319,mT [mI 3,mI 6,mL 43 1 1] 319,mT [mI 3,mI 2,mL 44 1 1] 319,mT [mI 3,mI 2,mL 45 1 1] 319]++mq3++[mT [mL 46 4 4,mL 47 1 1] 48,.map [] 0,.map [] 0,mT [mI 15,mL 48 1 1,mL 49 1 1] 356,mT [mI 7,mL 50 1 1,mL 51 1 1] 356,mF (mB 6 0xe3818be3818d) 5,mT [mI 2,mI 1,mL 52 1 1] 319,mT [mI 3,mI 6] 3,mT [mI 21,mL 53 1 1,mL 54 1 1] 356,mT [mI 10,mL 55 1 1,mL 56 1 1] 356,mF (mB 9 0xe6e7e89fa79abf918a) 5,mT [mI 3,mI 2,mL 57 1 1] 319]++mq9++[mF [mI 0,mI 1,mI 2,mI 3] 3,mF [mI 4] 3]++mq6)⟩
def m28:E2:=⟨[],[mP 10,(.agg ⟨[mI 0,mI 2]⟩),mI 0,mI 0,mI 60],mq2,(mL 56 4 4),[mF [mL 57 1 1,mI 60,mS 3 15114175,mL 58 2 2,mI 10050,mS 6 0xe7a791e3818d,mL 59 2 2,mI 10060,mS 6 0xe89a8ae3818d,mL 60 2 2,mI 20030,mS 6 0xe3818be3818d] 50,mT [mI 0] 3,mF [mI 1,mI 4] 3,mF [mI 2,mI 4] 3,mF [mI 3,mI 4] 3]⟩
def m29:E2:=⟨[(0,Ft),(1,Fu)],[mS 6 0xe3818be3818d,mI 1],[],(.slice Z 0 0),[]⟩
def m31:E2:=⟨[(0,Ft),(1,Fu)],[mS 6 0xe3818be3818d],[],(mS 6 0xe3818be3818d),[]⟩
def m32:E2:=⟨[(0,Ft),(1,Fu)],[mS 6 0xe3818be3818d],[],(mS 6 0xefbdb6efbdb7),[]⟩
def m33:E2:=⟨[(0,Ft),(1,Fu)],[mS 6 0xe3818be3818d],[],(mL 10 3 3),[mF [mS 6 0xe3818be3818d,mS 6 0xe382abe382ad,mS 6 0xefbdb6efbdb7] 9]⟩
def m34:E2:=⟨[(0,Ft),(1,Fu)],[mP 10,(.agg ⟨[mI 0,mI 2]⟩),mI 0,mI 0,mI 1,mI 60],mq2,(mL 56 6 6),[mF [mS 3 15114175,mI 1,mS 6 0xe7a791e3818d,mI 1,mS 6 0xe89a8ae3818d,mI 1,mS 6 0xe3818be3818d,mI 1,mS 6 0xe382abe382ad,mI 3,mS 6 0xefbdb6efbdb7,mI 3] 47]⟩
def m35:E2:=⟨[(0,Ft),(1,Fu),(5,Hu)],[],[],(.bool Ag),[]⟩
end
section
variable{S:A9} {L:Nat}
def Aqh:As->As->Prop
 |[],_=>True
 |(i,v)::l,A=>look A i=I v/\Aqh l A
def CG:∀{l A:As},Aqh l A->Sub l A
 |[],_,_,t,v,h=>by cases h
 |
  (i,u)::l,A,h,t,v,a=>by
  rw[GC] at a;split at a
  .rename_i e;subst e;cases a;exact h.1
  .exact CG h.2 t v a
def Du (h:Y) (b:Nat) (l:List Bool):Prop:=
 Cell h b 0 (.int .i64 l.length)/\l.length<=1048576/\
 (∃(v:Aa) (a:Bo),Cell h b 1 v/\Rd h v 1 ((l.length+63)/64) (a.map λx:Nat=>AL .u64 x)/\(∀x∈a,x<18446744073709551616)/\∀i,i<l.length->(a.getD (i/64) 0).testBit (i%64)=l.getD i Ah)/\
 ∃v,Cell h b 2 v/\Rd h v 1 (((l.length+63)/64+7)/8) ((BG (((l.length+63)/64+7)/8)).map λg=>AL .i64 ((l.take (512*g)).count Ag))
section
variable{h:Y} {b:Nat} {l:List Bool}
def Du.c0 (v:Du h b l):Cell h b 0 (.int .i64 l.length):=v.1
def Du.len (v:Du h b l):l.length<=1048576:=v.2.1
def Du.ext {J:Y} (v:Du h b l) (e:AA h J):Du J b l:=by
 obtain⟨a,c,⟨d,f,g,i,j⟩,k,m,n⟩:=v;exact⟨a.ext e,c,⟨d,f,g.ext e,i.ext e,j⟩,k,m.ext e,n.ext e⟩
end
def Acy (a:Base S L) {h:Y} {b:Nat} {n:Int} (c:Cell h b 0 (.int .i64 n)):Bk S L 1 243 [AG b 0] h λv J=>v=.int .i64 n/\J=h:=
 Fm (fn:=f243) a (by kernel_rfl) B λn d=>by
  refine⟨Dc B,_,B,_,ld B c,B,B⟩
end
def Gr (w:Nat):Bo->Nat
 |[]=>0
 |d::l=>d+2^w*Gr w l
def D3:Bo->Bo
 |a::b::l=>(a+b)::D3 l
 |_=>[]
def Pa (w:Nat):Nat->Nat
 |0=>0
 |k+1=>(2^w-1)+2^(2*w)*Pa w k
def Fv (x:Nat):Nat->Bo
 |0=>[]
 |k+1=>(x%2)::Fv (x/2) k
def OC {n a m y M:Nat} (b:a<2^n) (c:m<2^n):(a+2^n*y)&&&(m+2^n*M)=(a&&&m)+2^n*(y&&&M):=by
 apply Nat.eq_of_testBit_eq;intro i;rw[Tt,UK a,UK m,UK (a&&&m),IX _ b,IX _ c,IX _ (Ji Ms b)];split
 .rw[Tt]
 .rw[Tt]
def Ma:∀(k:Nat) (l:Bo),l.length=2*k->(D3 l).sum=l.sum/\(D3 l).length=k
 |0,[],_=>⟨B,B⟩
 |
  k+1,a::b::l,h=>by
  have:=Ma k l (by simp at h;omega);simp[D3,this];omega
 |k+1,[a],h=>by simp at h;omega
def Q5 {w:Nat}:∀(k:Nat) (l:Bo),l.length=2*k->(∀d∈l,d<2^w)->(Gr w l/2^w&&&Pa w k)+(Gr w l&&&Pa w k)=Gr (2*w) (D3 l)
 |0,[],_,_=>by simp[Pa,Gr,D3]
 |k+1,[a],h,_=>by simp at h;omega
 |
  k+1,a::b::l,h,e=>by
  have m:=Q5 (w:=w) k l (by simp at h;omega) (λd r=>e d (by simp[r]));have f:a<2^w:=e a (by simp);have hb:b<2^w:=e b (by simp);have g:0<2^w:=Nat.two_pow_pos w;have i:2^(2*w)=2^w*2^w:=by rw[Nat.two_mul,Nat.pow_add]
  generalize n:Gr w l=c at m;have j:∀{p q:Nat},p<2^w->q<2^w->p+2^w*q<2^(2*w):=λ{p q} v s=>by
   rw[i]
   calc p+2^w*q<2^w+2^w*q:=by omega
    _=2^w*(q+1):=by rw[EG];omega
    _<=2^w*2^w:=Nat.mul_le_mul_left _ s
  have t:Gr w (a::b::l)=(a+2^w*b)+2^(2*w)*c:=by
   simp only[Gr,n,i,EG,Ajd];omega
  have u:Gr w (a::b::l)/2^w=(b+2^w*(c%2^w))+2^(2*w)*(c/2^w):=by
   have:Gr w (a::b::l)=a+2^w*(b+2^w*c):=by simp only[Gr,n]
   rw[this,Nat.add_mul_div_left _ _ g,Nat.div_eq_of_lt f,Ba,i];have:=Nat.mod_add_div c (2^w)
   calc b+2^w*c=b+2^w*(c%2^w+2^w*(c/2^w)):=by rw[this]
    _=_:=by rw[EG,←Ajd];omega
  have o:2^w-1<2^(2*w):=by
   have:=j (p:=2^w-1) (q:=0) (by omega) g;omega
  rw[u,t,Pa,OC (j hb (Je _ g)) o,OC (j f hb) o,EH,EH,WY,WY,JQ f,JQ hb];rw[D3,Gr,←m,EG];omega
def VE:∀(k:Nat) (l:Bo),l.length=2*k->(∀d∈l,d<=4)->(Gr 4 l/16+Gr 4 l)&&&Pa 4 k=Gr 8 (D3 l)
 |0,[],_,_=>by simp[Pa,Gr,D3]
 |k+1,[a],h,_=>by simp at h;omega
 |
  k+1,a::b::l,h,e=>by
  have g:=VE k l (by simp at h;omega) (λd i=>e d (by simp[i]));have n:a<=4:=e a (by simp);have hb:b<=4:=e b (by simp);have o:Gr 4 l%16<=4:=by
   cases l with
   |nil=>simp[Gr]
   |
    cons c l=>
    have p:c<=4:=e c (by simp);simp only[Gr];omega
  have j:Gr 4 (a::b::l)=a+16*(b+16*Gr 4 l):=by simp only[Gr]
  generalize Gr 4 l=f at*;have m:Gr 4 (a::b::l)/16+Gr 4 (a::b::l)=(a+b+16*(b+f%16))+2^8*(f/16+f):=by
   rw[j];omega
  rw[m,Pa,show 2*4=8 from B,OC (by omega) (by decide),EH,g,D3,Gr];omega
def VX:∀(k x:Nat),(Fv x k).length=k
 |0,_=>rfl
 |k+1,x=>by simp[Fv,VX k]
def Zq:∀(k x:Nat),∀d∈Fv x k,d<2
 |0,_,d,h=>by simp[Fv] at h
 |
  k+1,x,d,h=>by
  rw[Fv] at h;rcases List.mem_cons.1 h with rfl|h
  .omega
  .exact Zq k _ d h
def V5:∀(k x:Nat),x<2^k->Gr 1 (Fv x k)=x
 |0,x,h=>by simp at h;simp[Fv,Gr,h]
 |
  k+1,x,h=>by
  rw[Fv,Gr,V5 k (x/2) (by rw[Nat.pow_succ] at h;omega)];omega
def NN {c:Nat}:∀(l:Bo),(∀d∈l,d<=c)->∀d∈D3 l,d<=2*c
 |[],_,d,h=>by simp[D3] at h
 |[a],_,d,h=>by simp[D3] at h
 |
  a::b::l,e,d,h=>by
  rw[D3] at h;rcases List.mem_cons.1 h with rfl|h
  .have:=e a (by simp);have:=e b (by simp);omega
  .exact NN l (λd h=>e d (by simp[h])) d h
def Abl {x:Nat} (r:x<2^64):∃g b i:Bo,i.length=8/\(∀d∈i,d<=8)/\i.sum=(Fv x 64).sum/\
 (x/2&&&6148914691236517205)+(x&&&6148914691236517205)=Gr 2 g/\(Gr 2 g/4&&&3689348814741910323)+(Gr 2 g&&&3689348814741910323)=Gr 4 b/\
 (Gr 4 b/16+Gr 4 b)&&&1085102592571150095=Gr 8 i/\Gr 2 g<2^64/\Gr 4 b<2^63/\Gr 4 b/16+Gr 4 b<2^64:=by
 have b0:=V5 64 x r;have m:=VX 64 x;have d0:∀d∈Fv x 64,d<=1:=λd h=>by have:=Zq 64 x d h;omega
 have j:=Ma 32 (Fv x 64) m;have d1:=NN _ d0;have e:=Ma 16 (D3 (Fv x 64)) j.2;have d2:=NN _ d1;have n:=Ma 8 (D3 (D3 (Fv x 64))) e.2;have d3:=NN _ d2;have o:=Q5 (w:=1) 32 (Fv x 64) m (λd h=>by have:=d0 d h;omega);rw[b0] at o;have s:=Q5 (w:=2) 16 (D3 (Fv x 64)) j.2 (λd h=>by have:=d1 d h;omega);have t:=VE 8 (D3 (D3 (Fv x 64))) e.2 (λd h=>by have:=d2 d h;omega);have p:∀(w c:Nat) (l:Bo),(∀d∈l,d<=c)->c<2^w->Gr w l<2^(w*l.length):=by
  intro w c l
  induction l with
  |nil=>intro _ _;simp[Gr]
  |
   cons a l k=>
   intro f u;have v:=k (λd h=>f d (by simp[h])) u;have y:=f a (by simp);rw[Gr,AO,EG,BJ,UK (w*l.length),Nat.pow_add]
   calc a+2^w*Gr w l<2^w+2^w*Gr w l:=by omega
    _=2^w*(Gr w l+1):=by rw[EG];omega
    _<=_:=Nat.mul_le_mul_left _ v
 have q:=p 2 2 _ d1 (by decide);have z:=p 4 4 _ d2 (by decide);rw[j.2] at q;rw[e.2] at z;have A:Gr 4 (D3 (D3 (Fv x 64)))<=4*1229782938247303441:=by
  have:∀(l:Bo),(∀d∈l,d<=4)->Gr 4 l<=4*Gr 4 (AE l.length 1):=by
   intro l
   induction l with
   |nil=>intro _;simp[Gr]
   |
    cons a l k=>
    intro f;have:=k (λd h=>f d (by simp[h]));have y:=f a (by simp);simp only[Gr,AO,List.replicate_succ];omega
  have h:=this _ d2;rw[e.2] at h;exact h
 exact⟨_,_,_,n.2,λd h=>by have:=d3 d h;omega,by rw[n.1,e.1,j.1],o,s,t,q,by omega,by omega⟩
def Amd {l:Bo} (u:l.length=8) (h:∀d∈l,d<=8):
 let m:=Gr 8 l
 let n:=m+m/256
 let j:=n+n/65536
 (j+j/4294967296)%128=l.sum/\j+j/4294967296<2^63:=by
 match l,u with
 |
  [a,b,c,d,e,f,g,i],_=>
  have x:=h a (by simp);have hb:=h b (by simp);have y:=h c (by simp);have z:=h d (by simp);have A:=h e (by simp);have C:=h f (by simp);have D:=h g (by simp);have U:=h i (by simp);clear h;simp only[Gr,Amw,List.sum_nil];have p:(2:Nat)^8=256:=rfl;rw[p];obtain⟨X,v⟩:∃X,X=a+256*(b+256*(c+256*(d+256*(e+256*(f+256*(g+256*(i+256*0))))))):=⟨_,B⟩;rw[←v];obtain⟨k,o⟩:∃q,q=X/256:=⟨_,B⟩;rw[←o];have E:k=b+256*c+65536*d+16777216*e+4294967296*f+1099511627776*g+281474976710656*i:=by omega
  obtain⟨r,s⟩:∃q,q=(X+k)/65536:=⟨_,B⟩;rw[←s];have F:r=(c+d)+256*(d+e)+65536*(e+f)+16777216*(f+g)+4294967296*(g+i)+1099511627776*i:=by omega
  obtain⟨w,t⟩:∃q,q=(X+k+r)/4294967296:=⟨_,B⟩;rw[←t];have H:w=(e+f+g+i)+256*(f+g+i)+65536*(g+i)+16777216*i:=by omega
  clear o s t;constructor
  .omega
  .omega
def Sq {l A:As} (h:Aqh l A:=by repeat' first|exact trivial|refine ⟨rfl,?_⟩|refine ⟨Cs (λz=>I (AL .i64 z)) (by omega),?_⟩|refine ⟨Cs (λz=>I (AL .u64 z)) (by omega),?_⟩|refine ⟨Cs (λz=>I (AL .i32 z)) (by omega),?_⟩):Sub l A:=CG h
def Pq {p:Prop} (h:p:=by repeat' first|omega|rfl|apply And.intro):p:=h
def Bz {c:Prop} [Decidable c] {p q:Prop} (a:c->p) (b:¬c->q):ZT (decide c) p q:=Ad (λe=>a (Fp e)) (λe=>b (KK e))
def Co (fn:BC) {S:A9} {L:Nat} (b:Base S L) {d:Nat} {f:Au} {a:AH} {h:Y} {Q:Aa->Y->Prop}
 (H:∀n,d<=n->YR Ax (B8 Ax S L n) L fn a h Q) (c:Ax.fn.get f=I fn:=by kernel_rfl) (e:Nf.contains f=false:=by rfl):Bk S L (d+1) f a h Q:=Fm b c e H
def Cn (fn:BC) {S:A9} {L:Nat} (b:Base S L) {d:Nat} {f:Au} {a:AH} {h:Y} {Q:Aa->Y->Prop}
 (H:∀n,d<=n->1125899906842624<=L->Adq Ax (B8 Ax S L n) L fn a h Q) (c:Ax.fn.get f=I fn:=by kernel_rfl) (e:Nf.contains f=false:=by rfl) (g:Ar a.length fn.ntmps=true:=by rfl):Bk S L (d+1) f a h Q:=Fm b c e λn i=>⟨Ac g,H n i b.aI⟩
abbrev Vi (z:Int):Value:=.int .i64 z
def cl {S:A9} {L d n:Nat} {f:Au} {a:AH} {h:Y} {Q k:Aa->Y->Prop} (c:Bk S L d f a h Q) (H:∀v h,Q v h->k v h) (b:d<=n:=by omega):∃Q,Cd (B8 Ax S L n) (.func f) a h Q/\∀w h,Q w h->k w h:=⟨Q,c n b,H⟩
abbrev Sg (s:Bd):Value:=.string s
abbrev sN:Value:=.slice Z 0 0
abbrev sL (b n c:Nat):Value:=.slice (I ⟨b,0,Z⟩) n c
def GZ {S:A9} {L n:Nat} {f:Au} {a:AH} {h:Y} {v:Aa} {k:Aa->Y->Prop} (c:Cd (B8 Ax S L n) (.func f) a h λw J=>w=v/\J=h) (b:k v h):∃Q,Cd (B8 Ax S L n) (.func f) a h Q/\∀w J,Q w J->k w J:=⟨_,c,λ_ _ e=>e.1.symm▸e.2.symm▸b⟩
section
variable {h J h0 h1 H:Y} {v fv nv pv cv ev lv u v':Aa} {xs args vs ys:AH} {n b N i k e r j x m c q d a p t2 st sb mo ck lp rm b0 sz off:Nat} {t:Ai} {f:Au} {fn:BC} {s:Bd} {bs:Bl} {ws:Bo} {W:Nat->Prop} {Q:Aa->Y->Prop} {A:Option BD} {z df day:Int} {ss:BZ} {τ:Bb}
variable{S:A9} {L:Nat}
def Qj (x:Nat):Nat:=((BG 64).map x.testBit).count Ag
def Sm (l:List Bool) (i:Nat):Nat:=(l.take i).count Ag
def Aex (l:List Bool) (i:Nat):Sm l i<=i:=by
 unfold Sm;exact Ao HM (by simp;omega)
def PY (x:Nat):Qj x<=64:=by
 unfold Qj;exact Ao HM (by simp)
def G8 (z:Int):IntKind.wrap .u64 z=z%18446744073709551616:=by simp[IntKind.wrap,IntKind.bits,IntKind.signed]
def QN {a:Nat} (b:a<18446744073709551616):(BitVec.ofInt (IntKind.bits .u64) (a:Int)).toNat=a:=by
 show(BitVec.ofInt 64 (a:Int)).toNat=a;rw[BitVec.ofInt_natCast,BitVec.toNat_ofNat];exact JQ b
def Oh {a b:Nat} {n:Int} (c:a<18446744073709551616) (hb:b<18446744073709551616) (d:n=(b:Int)):D8 .u64 (a:Int) n=((a&&&b:Nat):Int):=by
 subst d;unfold D8;rw[BitVec.toNat_and,QN c,QN hb,G8];have:a&&&b<=a:=Ms;omega
def Als {a b:Nat} {n:Int} (c:a<9223372036854775808) (hb:b<9223372036854775808) (d:n=(b:Int)):D8 .i64 (a:Int) n=((a&&&b:Nat):Int):=by
 subst d;have e:∀{a:Nat},a<9223372036854775808->(BitVec.ofInt (IntKind.bits .i64) (a:Int)).toNat=a:=λ{a} h=>QN G;unfold D8;rw[BitVec.toNat_and,e c,e hb];have:a&&&b<=a:=Ms;exact FC Pq
def Fo {a m:Nat} {n:Int} (b:n=(m:Int)) (c:m<64):DN .u64 (a:Int) n=((a/2^m:Nat):Int):=by
 subst b;have e:min (Int.toNat (m:Int)) (IntKind.bits .u64)=m:=by
  show min m 64=m;omega
 unfold DN;rw[e,Int.fdiv_eq_ediv_of_nonneg _ (Int.le_of_lt (Int.pow_pos G))];simp
def Aif (x:Nat):Qj x=(Fv x 64).sum:=by
 have:∀(k x:Nat),((BG k).map x.testBit).count Ag=(Fv x k).sum:=by
  intro k
  induction k with
  |zero=>intro x;rfl
  |
   succ k a=>
   intro x;rw[List.range_succ_eq_map,Fv,Amw,←a (x/2)];simp only[Bp,O5,List.count_cons];have e:(x.testBit∘A3)=(x/2).testBit:=by
    funext i;simp[Nat.testBit_succ]
   rw[e,Nat.testBit_zero];by_cases h:x%2=1
   .simp[h];omega
   .have:x%2=0:=G
    simp[this]
 exact this 64 x
set_option maxHeartbeats 1000000 in
def Ajp (z:Base S L) {h:Y} {x:Nat} (o:x<18446744073709551616):Bk S L 1 244 [.int .u64 x] h λv J=>v=Vi (Qj x)/\J=h:=
 Co f244 z λn hn=>by
  let⟨A,C,D,E,F,H,p,i,j,k,q,l⟩:=Abl (x:=x) o
  let⟨t1,t2⟩:=Amd E F
  rw[Aif,←H]
  let⟨g,K⟩:∃w,w=Gr 2 A:=⟨_,B⟩
  let⟨c,M⟩:∃w,w=Gr 4 C:=⟨_,B⟩
  let⟨d,N⟩:∃w,w=Gr 8 D:=⟨_,B⟩
  rw[←K] at p i k;rw[←M] at i j q l;rw[←N] at j t1 t2;have O:(2:Nat)^64=18446744073709551616:=rfl;have P:(2:Nat)^63=9223372036854775808:=rfl;rw[O] at k l;rw[P] at q t2;have lt:∀{a b},a<18446744073709551616->a&&&b<18446744073709551616:=λ{a b} h=>Ji Ms h;refine⟨Dc B,G,?_⟩;rw[Fo (m:=1) (n:=1) B G];have a1:=Oh (a:=x/2^1) (b:=6148914691236517205) (n:=6148914691236517205) G G B;have Q:=Oh (a:=x) (b:=6148914691236517205) (n:=6148914691236517205) o G B;have r:D8 .u64 ((x/2^1:Nat):Int) 6148914691236517205+D8 .u64 (x:Int) 6148914691236517205=(g:Int):=by
   rw[a1,Q,←p];simp
  refine⟨?_,?_⟩
  .rw[r];exact⟨by omega,by omega⟩
  rw[r];refine⟨G,?_⟩;rw[Fo (m:=2) (n:=2) B G];have R:=Oh (a:=g/2^2) (b:=3689348814741910323) (n:=3689348814741910323) G G B;have T:=Oh (a:=g) (b:=3689348814741910323) (n:=3689348814741910323) k G B;have s:D8 .u64 ((g/2^2:Nat):Int) 3689348814741910323+D8 .u64 (g:Int) 3689348814741910323=(c:Int):=by
   rw[R,T,←i];simp
  refine⟨?_,?_⟩
  .rw[s];exact⟨by omega,by omega⟩
  rw[s];refine⟨G,?_⟩;rw[Fo (m:=4) (n:=4) B G];refine⟨Pq,?_⟩;have V:((c/2^4:Nat):Int)+(c:Int)=((c/16+c:Nat):Int):=by simp
  rw[V];refine⟨G,?_⟩;have W:=Oh (a:=c/16+c) (b:=1085102592571150095) (n:=1085102592571150095) l G B;rw[W,j];rw[Fo (m:=8) (n:=8) B G];have t:(d:Int)+((d/2^8:Nat):Int)=((d+d/256:Nat):Int):=by simp
  let⟨e,X⟩:∃w,w=d+d/256:=⟨_,B⟩
  rw[←X] at t t1 t2;refine⟨Pq,?_⟩;rw[t];refine⟨G,?_⟩;rw[Fo (m:=16) (n:=16) B G];have u:(e:Int)+((e/2^16:Nat):Int)=((e+e/65536:Nat):Int):=by simp
  let⟨f,aa⟩:∃w,w=e+e/65536:=⟨_,B⟩
  rw[←aa] at u t1 t2;refine⟨Pq,?_⟩;rw[u];refine⟨G,?_⟩;rw[Fo (m:=32) (n:=32) B G];have y:(f:Int)+((f/2^32:Nat):Int)=((f+f/4294967296:Nat):Int):=by simp
  let⟨ab,ad⟩:∃w,w=f+f/4294967296:=⟨_,B⟩
  rw[←ad] at y t1 t2;refine⟨Pq,?_⟩;rw[y];refine⟨_,.inl ⟨⟨by omega,by omega⟩,B⟩,?_⟩;refine⟨?_,B⟩;show Vi _=_;congr 1;rw[Als (a:=ab) (b:=127) (n:=127) G G B,show(127:Nat)=2^7-1 from B,EH];omega
def V0 {l:List Bool} {w k:Nat} (b:64*k+64<=l.length) (hb:∀i,i<64->w.testBit i=l.getD (64*k+i) Ah):Sm l (64*k+64)=Sm l (64*k)+Qj w:=by
 unfold Sm Qj;rw[List.take_add,K0];congr 1;congr 1;apply Amx
 .simp;omega
 .intro i h1 a
  simp only[A4,List.length_range] at a;simp only[List.getElem_take,List.getElem_drop,EU,Ajg];rw[hb i a,Ak,Ab G];rfl
def Aik {l:List Bool} {w k r:Nat} (c:r<64) (d:64*k+r<l.length) (hb:∀i,i<=r->w.testBit i=l.getD (64*k+i) Ah):
 Sm l (64*k+r+1)=Sm l (64*k)+Qj (w*2^(63-r)%18446744073709551616):=by
 unfold Sm Qj;rw[DD,List.take_add,K0];congr 1;have e:(BG 64).map (w*2^(63-r)%18446744073709551616).testBit=AE (63-r) Ah++((l.drop (64*k)).take (r+1)):=by
  apply Amx
  .simp;omega
  .intro i h1 f
   have a:i<64:=by simpa using h1
   simp only[EU,Ajg];rw[show(18446744073709551616:Nat)=2^64 from B,Nat.testBit_mod_two_pow,Nat.testBit_mul_two_pow];by_cases U:i<63-r
   .rw[List.getElem_append_left (by simpa using U)]
    simp;omega
   .rw[List.getElem_append_right (by simp;omega)]
    simp only[List.length_replicate,List.getElem_take,List.getElem_drop];rw[hb (i-(63-r)) G,Ak,Ab G];have b:63-r<=i:=G;simp[a,b]
 rw[e,K0,List.count_replicate];simp
def Agi {x n:Nat} (a:n<64):Es .u64 (x:Int) (n:Int)=((x*2^n%18446744073709551616:Nat):Int):=by
 have e:min (Int.toNat (n:Int)) (IntKind.bits .u64)=n:=by
  show min n 64=n;omega
 have w:∀z:Int,IntKind.wrap .u64 z=z%18446744073709551616:=λz=>by
  simp[IntKind.wrap,IntKind.bits,IntKind.signed]
 unfold Es;rw[e,w];simp
def Rd.ld {h:Y} {a:BD} {xs:AH} (q:∀i u,xs[i]?=I u->Cell h a.block (a.off+i) u) {t:Ai} (b:XF Ax t=Ag) {j i:Nat} {u:Aa} (c:j=i) (d:xs[i]?=I u):Bw Ax t h a.block (a.off+j)=I u:=by
 subst c;exact Go.Ev.ld b (q _ _ d)
def ZW (d:Base S L) {h:Y} {b:Nat} {l:List Bool} (f:Du h b l) (c:Bool) (i:Int) (U:-9223372036854775808<=i/\i<=9223372036854775807):
 Bk S L 2 175 [AG b 0,.bool c,Vi i] h λv J=>v=Vi ((l.take i.toNat).count c)/\J=h:=
 Co f175 d λn o=>by
  let⟨V,ws,q,g,E,s⟩:=f.2.2.1
  let⟨W,F,H⟩:=f.2.2.2
  have X:=f.len;refine⟨Dc B,_,Acy d f.c0 n G,?_⟩;rintro _ _ ⟨rfl,rfl⟩;intro z hz y hy;have aa:0<=y/\y<=l.length:=G;have t:((l.take i.toNat).count c)=((l.take y.toNat).count c):=by
   by_cases h1:i<=l.length
   .rw[show i.toNat=y.toNat by omega]
   .rw[Bj G,Bj G]
  rw[t];clear t;apply Bz<;>intro e
  .subst e
   exact⟨by simp[Ff],B⟩
  obtain⟨m,rfl⟩:∃m:Nat,y=m+1:=⟨(y-1).toNat,G⟩;have hw:g.1=g.1:=rfl;have ab:ws.length=(l.length+63)/64:=by have:=g.1;simpa using this
  obtain⟨a1,x1,rfl,_,u⟩:=g.at_ G;obtain⟨a2,x2,rfl,_,K⟩:=H.at_ G;have M:((m:Int)+1-1)/64=((m/64:Nat):Int):=G;refine⟨Pq,⟨G,G,G,G⟩,_,ld B F,⟨G,G,G,G⟩,G,_,Rd.ld K B (i:=m/64/8) (by show _*1=_;omega)
   (by rw[AX,Jj G];rfl),⟨G,G,G,G⟩,Pq,?_⟩
  have hL:=d.aI;have N:∀k,ws.getD k 0<18446744073709551616:=λk=>by
   rw[Ak];cases C:ws[k]? with
   |none=>simp
   |some y=>exact E y (AZ C)
  rw[M];refine⟨λD A J=>J=_/\∃(x k:Int) (kn:Nat),A=[(0,AG b 0),(1,.bool c),(2,Vi ((m:Int)+1)),(7,Vi ((m/64:Nat):Int)),(8,Vi x),(9,Vi k)]/\k=kn/\x=Sm l (64*kn)/\kn<=m/64/\D=m/64-kn,
   ⟨_,_,Sq,?_,B,_,_,m/64/8*8,B,G,?_,G,B⟩,?_⟩
  .omega
  .show((l.take (512*(m/64/8))).count Ag:Int)=_
   unfold Sm;rw[show 64*(m/64/8*8)=512*(m/64/8) by omega]
  rintro D A hh ⟨rfl,x,k,kn,rfl,rfl,rfl,C,rfl⟩ ad;have ae:=Aex l (64*kn);apply Bz<;>intro e
  .have j:(ws.map λx:Nat=>AL .u64 x)[kn]?=I (.int .u64 (ws.getD kn 0:Nat)):=by
    rw[AX,Ak,Ab G];rfl
   refine⟨_,ld B q,G,_,Rd.ld u B (i:=kn) (by show _*1=_;omega) j,_,Ajp d ?_ n o,?_⟩
   .exact N kn
   rintro _ _ ⟨rfl,rfl⟩;have O:=PY (ws.getD kn 0);refine⟨Pq,Pq,?_⟩;refine⟨_,_,Sq,?_,B,_,_,kn+1,B,G,?_,G,B⟩
   .omega
   .rw[show 64*(kn+1)=64*kn+64 by omega,V0 (w:=ws.getD kn 0) G (λi U=>by
     rw[←s (64*kn+i) G,show(64*kn+i)/64=kn by omega,show(64*kn+i)%64=i by omega])]
    omega
  .obtain rfl:kn=m/64:=G
   have j:(ws.map λx:Nat=>AL .u64 x)[m/64]?=I (.int .u64 (ws.getD (m/64) 0:Nat)):=by
    rw[AX,Ak,Ab G];rfl
   have P:=Agi (x:=ws.getD (m/64) 0) (n:=63-m%64) G;have Q:(63:Int)-((m:Int)+1-1)%64=((63-m%64:Nat):Int):=G;refine⟨_,ld B q,G,_,Rd.ld u B (i:=m/64) (by show _*1=_;omega) j,Pq,G,Pq,G,?_⟩;rw[Q,P];refine⟨_,Ajp d (Je _ G) n o,?_⟩;rintro _ _ ⟨rfl,rfl⟩;have O:=PY (ws.getD (m/64) 0*2^(63-m%64)%18446744073709551616);have R:=Aik (l:=l) (w:=ws.getD (m/64) 0) (k:=m/64) (r:=m%64) G G (λi U=>by
    rw[←s (64*(m/64)+i) (G),show(64*(m/64)+i)/64=m/64 by omega,show(64*(m/64)+i)%64=i by omega])
   rw[show 64*(m/64)+m%64+1=m+1 by omega] at R;have af:=Aex l (m+1);refine⟨Pq,?_⟩;cases c with
   |
    true=>
    refine⟨?_,B⟩;show Vi _=_;congr 1;show _=((Sm l (m+1):Nat):Int);omega
   |
    false=>
    refine⟨Pq,?_,B⟩;show Vi _=_;congr 1;have hf:(l.take (m+1)).count Ag+(l.take (m+1)).count Ah=m+1:=by
     have:=List.length_eq_countP_add_countP (p:=(·==Ag)) (l:=l.take (m+1));simp only[Cg] at this;unfold List.count;have T:(λa:Bool=>decide ¬(a==Ag)=Ag)=(λa=>a==Ah):=by funext a;cases a<;>rfl
     rw[T] at this;omega
    show _=(((l.take (m+1)).count Ah:Nat):Int);unfold Sm at*;omega
def H1 (τ:Bb) (t:Ai) (v:Aa) (h:Y):∃h1,K7 τ t v h=I (AG h.nx 0,h1)/\AA h h1/\Own h1 h.nx t (AJ v)/\h1.nx=h.nx+1:=
 ⟨_,B,AA.row _ _ _,Own.row _ _ _,Ck _ _⟩
def Azr (S:A9) (L d:Nat) (fv:Aa) (h:Y) (N:Int) (p:Int->Bool):Prop:=
 ∃g first cap,fv=.func (.func g) first cap/\∀i,0<=i->i<N->Bk S L d g (first.toList++[.int .i64 i]++cap.toList) h λv J=>v=.bool (p i)/\J=h
def Aup (a:Base S L) {N:Int} (s:0<=N/\N<=1099511627775) {p:Int->Bool} (l:Azr S L d fv h N p):
 Bk S L (d+1) 245 [Vi N,fv] h λv J=>J=h/\∃z:Int,v=Vi z/\0<=z/\z<=N/\(0<z->p (z-1)=Ah)/\(z<N->p z=Ag):=
 Co f245 a λn t=>by
  obtain⟨g,first,cap,rfl,o⟩:=l
  have u:=a.aI;refine⟨Dc B,λb A J=>J=h/\∃i j:Int,A=[(0,Vi N),(1,.func (.func g) first cap),(5,Vi i),(6,Vi j)]/\0<=i/\i<=j/\j<=N/\(0<i->p (i-1)=Ah)/\(j<N->p j=Ag)/\b=(j-i).toNat,
   ⟨_,_,Sq,?_,B,_,_,B,G,G,G,G,G,B⟩,?_⟩
  .omega
  rintro b A w ⟨rfl,i,j,rfl,h1,x,q,c,f,rfl⟩ y;apply Bz<;>intro e
  .refine⟨Pq,_,.inl Pq,G,?_⟩
   let⟨m,r⟩:∃m:Nat,i+j=m:=⟨(i+j).toNat,G⟩
   rw[r,Fo (m:=1) (n:=1) B G];refine⟨_,.inl Pq,_,o ((m/2^1:Nat):Int) G G n G,?_⟩;rintro _ _ ⟨rfl,rfl⟩;refine⟨_,_,B,?_⟩;apply Ad<;>intro k
   .refine⟨Pq,_,_,Sq,?_,B,_,_,B,G,G,G,?_,f,B⟩
    .omega
    .intro _
     rw[show((m/2^1:Nat):Int)+1-1=((m/2^1:Nat):Int) by omega];simpa using k
   .refine⟨_,_,Sq,?_,B,_,_,B,G,G,G,c,?_,B⟩
    .omega
    .intro _
     simpa using k
  .obtain rfl:i=j:=G
   exact⟨B,i,B,h1,q,c,f⟩
def AEx (a:Base S L) {b1 d e:Nat} {l:List Bool} {c:Bool} {k:Int} (f:Du h b l) (g:Cell h b1 0 (AG b 0)) (j:Cell h d 0 (.bool c)) (m:Cell h e 0 (Vi k)) {i:Int} (U:0<=i/\i<l.length):
 Bk S L 3 246 [Vi i,AG b1 0,AG d 0,AG e 0] h λv J=>v=.bool (decide (k<((l.take (i.toNat+1)).count c:Nat)))/\J=h:=
 Co f246 a λn o=>by
  have p:=f.len;refine⟨Dc B,[],Kq,_,ld B g,_,ld B j,Pq,GZ (ZW (h:=h.ad) a f c (i+1) G n o) ?_⟩;refine⟨B,_,ld B m,?_,B⟩;show CU _=_;rw[show(i+1).toNat=i.toNat+1 by omega]
def Aqx (a:Base S L) {l:List Bool} (r:Du h b l) (c:Bool) {k:Int} (N:-9223372036854775808<=k/\k<=9223372036854775807):
 Bk S L 5 176 [AG b 0,.bool c,Vi k] h λv J=>AA h J/\((k<0\/(l.count c:Nat)<=k)/\v=Vi (-1)\/∃z:Nat,v=Vi z/\z<l.length/\((l.take z).count c:Nat)<=k/\k<((l.take (z+1)).count c:Nat)):=
 Co f176 a λn O=>by
  have P:=r.len
  let⟨h1,w,x,y,Q⟩:=H1 Ax 270 (AG b 0) h
  let⟨f,A,s,C,R⟩:=H1 Ax 4 (.bool c) h1
  let⟨g,D,j,E,T⟩:=H1 Ax 3 (Vi k) f
  have o:Cell g h.nx 0 (AG b 0):=((y.ext s).ext j).cell B;have t:Cell g h1.nx 0 (.bool c):=(C.ext j).cell B;have p:Cell g f.nx 0 (Vi k):=E.cell B;have d:=(x.trans s).trans j;have q:=r.ext d;refine⟨Dc B,_,_,w,_,_,A,_,_,D,_,ld B o,GZ (Acy a q.c0 n G) ?_⟩;refine⟨[],Kq,_,ld B p,Bz (λe=>?_) (λe=>?_)⟩
  .exact⟨d,.inl ⟨.inl e,B⟩⟩
  refine⟨_,ld B p,_,ld B o,_,ld B t,GZ (ZW (h:=Y.ad _) a q c (l.length:Int) G n G) ?_⟩;rw[show((l.length:Int)).toNat=l.length from B,CS];refine⟨B,Bz (λu=>?_) (λu=>?_)⟩
  .exact⟨d,.inl ⟨.inr u,B⟩⟩
  refine⟨_,Aup a G ⟨246,#[],#[AG h.nx 0,AG h1.nx 0,AG f.nx 0],B,λi h0 h1=>AEx a q o t p ⟨h0,h1⟩⟩ n G,?_⟩;rintro _ _ ⟨rfl,z,rfl,V,W,F,H⟩;obtain⟨m,rfl⟩:∃m:Nat,z=m:=Jq;have K:((l.take m).count c:Int)<=k:=by
   rcases KQ m with rfl|X
   .simp;omega
   .have:=KK (F G)
    rw[show((m:Int)-1).toNat+1=m by omega] at this;omega
  have M:m<l.length:=Gq;exact⟨d,.inr ⟨m,B,M,K,Fp (H G)⟩⟩
def WM (w j:Nat):decide ((((w/2^j&&&1:Nat):Int))=1)=w.testBit j:=by
 rw[Nat.and_one_is_mod,Nat.testBit_eq_decide_div_mod_eq];congr 1;apply propext;omega
def Acw (c:Base S L) {l:List Bool} (a:Du h b l) {i:Int}:Bk S L 2 264 [AG b 0,Vi i] h λv J=>v=.bool (decide (0<=i)&&l.getD i.toNat Ah)/\J=h:=
 Co f264 c λn p=>by
  let⟨q,ws,f,d,g,j⟩:=a.2.2.1
  have r:=a.len;refine⟨Dc B,Bz (λe=>?_) (λe=>?_)⟩
  .refine GZ (Acy c a.c0 n G) ?_
   obtain⟨m,rfl⟩:∃m:Nat,i=m:=⟨i.toNat,G⟩;apply Bz<;>intro s
   .obtain⟨a1,t,rfl,_,k⟩:=d.at_ G
    have u:ws.length=(l.length+63)/64:=by have:=d.1;simpa using this
    have o:(ws.map λx:Nat=>AL .u64 x)[m/64]?=I (.int .u64 (ws.getD (m/64) 0:Nat)):=by
     rw[AX,Ak,Ab G];rfl
    have hb:ws.getD (m/64) 0<18446744073709551616:=g _ (by
     rw[Ak,Ab G];exact Bu _)
    refine⟨_,ld B f,⟨G,G,G,G⟩,G,_,Rd.ld k B (by show _*1=_;omega) o,G,G,?_⟩;rw[Fo (m:=m%64) G G];refine⟨?_,B⟩;show CU _=_;rw[Oh (b:=1) (n:=1) (Ji (Nat.div_le_self _ _) hb) G B,WM,j m G];simp
   .refine⟨?_,B⟩
    show CU _=_;rw[Ak,CD G];simp
  .refine⟨?_,B⟩
   show CU _=_;simp[e]
def Qn (ws:Bo) (k:Nat):Nat:=((ws.take k).map Qj).sum
def Ta (a:k<ws.length):Qn ws (k+1)=Qn ws k+Qj (ws.getD k 0):=by
 unfold Qn;rw[A5 a,BS,PC,Ak,Ab a];simp
def Alk (ws:Bo) (k:Nat):Qn ws k<=64*k:=by
 unfold Qn;have:∀l:Bo,(l.map Qj).sum<=64*l.length:=by
  intro l
  induction l with
  |nil=>simp
  |cons a l b=>have:=PY a;simp;omega
 have h:=this (ws.take k);simp only[Cg] at h;omega
def Ig (ws:Bo) (m:Nat):AH:=(BG m).map λg=>AL .i64 (Qn ws (8*g):Nat)
end
end
end Go.Ev
