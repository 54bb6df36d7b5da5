/-
  Part of the proof.
-/
import GoSem.Step
import Derived.KernelRfl
import Derived.Laws.Cells
import Derived.Laws.World
import Derived.OrdersIn
import Derived.Laws.Strings
import Derived.Laws.StructEq
import Derived.Laws.BytesString
import Derived.Laws.MakeOwn
import Derived.Lib.UnsafeStr
import Derived.Laws.Tables
import Derived.Laws.Externs
import Derived.Conc.MuLone
import Derived.RangeFuncCalls
import Derived.RangeFuncLeaves
import Derived.RangeFuncNested
import Derived.LoopNIn
import Derived.Scope
set_option maxRecDepth 100000
set_option maxHeartbeats 40000000
set_option linter.all false
open Bool renaming false->Ah,true->Ag,rec->B1,eq_iff_iff->DJ,cond_eq_ite->EF
open Go renaming BinOp->CT,Code->DC,Deferred->Hh,Func->BC,FuncId->Au,IntKind->Cq,MapEntry->Ap,Oper->C0,Operand->BU,Program->AN,TypeDesc->eT,TypeId->Ai,TypeInfo->KR,Value->Aa,World->AM,Act->FP,Addr->BD,Ending->ZG,Fence->gL,Next->RM
open Option renaming none->Z,some->I,rec->Jc
open Nat renaming rec->UE,div->Qe,beq->Am,mod->Zy,succ->A3,ble->Ar,blt->AD,ble_eq->UP,one_ne_zero->Ts,succ_ne_self->tG,testBit_or->qN
open List renaming rec->Hg,length->LT,foldr_cons->tJ,forIn_cons->tI,replicate->AE,mapM_cons->UH,length->HD,tail->nU,drop_take->qG
open Int renaming ofNat->AQ,natCast_nonneg->rx
open Go.Region renaming before->Df,wanted->tH,binds->ET
open UInt8 renaming toNat->dE,ofNat->dR
open Array renaming toList->aI,ext'->Et,replicate->Cz,toList_modify->M8,toList_push->uP,toList_filter->vW,foldl_toList->IV,toList_map->KO,map->ZA,range->qE
open ByteArray renaming ext->RL,data_append->Tr,push->vU,size->aL
open Go.Value renaming int->AL,bool->CU,tuple->C4
open Go.World renaming size_alloc->uN,cell?->WX,freeze->Gw,size_drew->EW,shape?->Jd,putObj->KY
open Go.Sem renaming run_bind->AI,run_pure->Bc,run->gN
open Go.Result renaming andThen_ok->Aw,andThen->Mr
open Go.Program renaming cellsOf->uQ,built->uJ
open Go.Utf8 renaming encode->d5,decode->io
open Prod renaming mk->eD
namespace Go.Ev
noncomputable section
def JN:=@Array.ext_getElem?
def Bh:=@Array.getD_eq_getD_getElem?
def KP:=@Array.getElem?_append_left
def By:=@Array.getElem?_eq_getElem
def Dr:=@Array.getElem?_eq_none
def dM:=@Array.getElem?_eq_some_iff
def B3:=@Array.getElem?_modify
def kN:=@Array.getElem?_push
def AY:=@Array.getElem?_setIfInBounds_ne
def Is:=@Array.getElem?_toList
def EZ:=@Array.length_toList
def An:=@Bool.and_eq_true
def Mh:=@Bool.and_true
def MK:=@Bool.eq_false_iff
def BE:=@Bool.false_eq_true
def Kz:=@Bool.not_false
def Qf:=@Bool.not_true
def Dm:=@Bool.or_eq_true
def gT:=@Bool.true_and
def UG:=@Int.toNat_natCast
def Jh:=@List.all_cons
def Jf:=@List.all_eq_true
def KA:=@List.append_assoc
def Fb:=@List.append_nil
def GR:=@List.drop_drop
def Di:=@List.drop_eq_getElem_cons
def Ef:=@List.drop_eq_nil_of_le
def dQ:=@List.drop_zero
def BO:=@List.eq_nil_of_length_eq_zero
def F7:=@List.foldl_cons
def Ak:=@List.getD_eq_getElem?_getD
def AB:=@List.getElem?_append_left
def Bq:=@List.getElem?_append_right
def B5:=@List.getElem?_cons_succ
def CO:=@List.getElem?_cons_zero
def CD:=@List.getElem?_eq_none
def cG:=@List.getElem?_eq_some_iff
def Db:=@List.getElem?_toArray
def Aj:=@List.length_append
def AO:=@List.length_cons
def A4:=@List.length_map
def Bp:=@List.map_cons
def bZ:=@List.mem_cons
def Az:=@List.mem_cons_of_mem
def Av:=@List.mem_cons_self
def AZ:=@List.mem_of_getElem?
def bQ:=@List.mem_singleton
def Bj:=@List.take_of_length_le
def DD:=@Nat.add_assoc
def Dw:=@Nat.add_mul
def Aq:=@Nat.ble_eq_true_of_le
def AK:=@Nat.blt_eq
def Af:=@Nat.eq_of_beq_eq_true
def Ac:=@Nat.le_of_ble_eq_true
def A2:=@Nat.le_of_eq
def gQ:=@Nat.le_of_not_lt
def Ae:=@Nat.le_refl
def Yr:=@Nat.le_succ
def UF:=@Nat.le_succ_of_le
def Ao:=@Nat.le_trans
def AC:=@Nat.lt_of_lt_of_le
def BB:=@Nat.lt_of_not_le
def A8:=@Nat.lt_or_ge
def Sk:=@Nat.lt_or_gt_of_ne
def HL:=@Nat.lt_succ_self
def FD:=@Nat.lt_trichotomy
def JQ:=@Nat.mod_eq_of_lt
def Je:=@Nat.mod_lt
def gO:=@Nat.mul_assoc
def Ci:=@Nat.mul_le_mul_right
def Zz:=@Nat.or_lt_two_pow
def DL:=@Nat.sub_zero
def Ba:=@Nat.zero_add
def Al:=@Nat.zero_le
def Qg:=@Nat.zero_mul
def CC:=@Option.bind_some
def EN:=@Option.getD_some
def fP:=@Option.isSome_iff_exists
def Ek:=@Option.map_some
abbrev Bd:=ByteArray
abbrev Bl:=List UInt8
abbrev BZ:=List ByteArray
abbrev Bo:=List Nat
abbrev GX:=List ((Int×Int)×Int)
abbrev AH:=List Aa
def G {p:Prop} (h:p:=by omega):p:=h
def Jq {p:Prop} (h:p:=by first|omega|trivial|assumption|decide|(simp;done)|grind|(simp_all;done)|(simp_all;omega)):p:=h
def Gq {p:Prop} (h:p:=by grind):p:=h
def wl {p:Prop} (h:p:=by simp):p:=h
def xc {p:Prop} (h:p:=by decide):p:=h
def Kq {p:Prop} (h:p:=by kernel_rfl):p:=h
def B {α:Sort _} {a:α}:a=a:=rfl
def Bi {c:Prop} {_:Decidable c} (a:c) {α:Sort _} {t e:α}:ite c t e=t:=if_pos a
def Bm {c:Prop} {_:Decidable c} (a:¬c) {α:Sort _} {t e:α}:ite c t e=e:=if_neg a
def Cs {α:Sort _} {c:Sort _} {a b:α} (f:α->c) (h:a=b):f a=f b:=congrArg f h
def Cf {a b:Prop} (h:a) (k:¬a):b:=(k h).elim
def Fp {p:Prop} [Decidable p]:decide p=Ag->p:=of_decide_eq_true
def KK {p:Prop} [Decidable p]:decide p=Ah->¬p:=of_decide_eq_false
def D1 {α:Sort _} {a b:α}:cond Ag a b=a:=rfl
def I0 {α:Sort _} {a b:α}:cond Ah a b=b:=rfl
inductive T (α:Type) where
 |nil
 |node (l:T α) (v:Option α) (r:T α)
def T.get {α:Type} (t:T α):Nat->Option α:=
 T.rec (λ_=>Z) (λ_ v _ a b i=>
  UE v (λj _=>B1 (b (Qe j 2)) (a (Qe j 2)) (Am (Zy j 2) 0)) i) t
def T.single {α a:Type} (x:α) (f:Nat):Nat->(T α->a)->a:=
 UE (λ_ k=>k .nil) (λ_ b i k=>
  UE (k (.node .nil (I x) .nil)) (λj _=>B1
   (b (Qe j 2) (λr=>k (.node .nil Z r))) (b (Qe j 2) (λl=>k (.node l Z .nil))) (Am (Zy j 2) 0)) i) f
def T.set {α a:Type} (t:T α) (x:α):Nat->(T α->a)->a:=
 T.rec (λi k=>T.single x (A3 i) i k) (λl v r b c i k=>
  UE (k (.node l (I x) r)) (λj _=>B1
   (c (Qe j 2) (λd=>k (.node l v d))) (b (Qe j 2) (λl'=>k (.node l' v r))) (Am (Zy j 2) 0)) i) t
def T.ins {α:Type} (t:T α) (i:Nat) (x:α):T α:=t.set x i λt=>t
section
variable{α:Type}
def T.C (i:Nat):(T.nil:T α).get i=none:=rfl
def T.aB (l r:T α) (v:Option α):(T.node l v r).get 0=v:=rfl
def T.au (l r:T α) (v:Option α) (j:Nat):(T.node l v r).get (j+1)=if j%2=0 then l.get (j/2) else r.get (j/2):=by
 show B1 (motive:=λ_=>Option α) (r.get (j/2)) (l.get (j/2)) (Am (j%2) 0)=_;by_cases h:j%2=0
 .rw[if_pos h,h];rfl
 .rw[if_neg h]
  have:=Bool.eq_false_iff.2 λe=>h (Af e);rw[this]
def T.bp (x:α):∀(f i:Nat) {a:Type} (k:T α->a),T.single x f i k=k (T.single x f i λt=>t):=by
 intro f
 induction f with
 |zero=>intro i a k;rfl
 |succ f b=>
  intro i a k;cases i with
  |zero=>rfl
  |succ j=>
   show B1 (T.single x f (j/2) _) (T.single x f (j/2) _) (Am (j%2) 0)=
    k (B1 (T.single x f (j/2) _) (T.single x f (j/2) _) (Am (j%2) 0))
   cases Am (j%2) 0
   .show T.single x f (j/2) (λr=>k (.node .nil Z r))=k (T.single x f (j/2) λr=>.node .nil Z r)
    rw[b (j/2) (λr=>k (T.node .nil Z r)),b (j/2) (λr=>T.node .nil Z r)]
   .show T.single x f (j/2) (λr=>k (.node r Z .nil))=k (T.single x f (j/2) λr=>.node r Z .nil)
    rw[b (j/2) (λr=>k (T.node r Z .nil)),b (j/2) (λr=>T.node r Z .nil)]
def T.b9 (x:α):∀(t:T α) (i:Nat) {b:Type} (k:T α->b),t.set x i k=k (t.ins i x):=by
 intro t
 induction t with
 |nil=>intro i b k;exact T.bp x (i+1) i k
 |node l v r c d=>
  intro i b k;cases i with
  |zero=>rfl
  |succ j=>
   show B1 (r.set x (j/2) _) (l.set x (j/2) _) (Am (j%2) 0)=
    k (B1 (r.set x (j/2) _) (l.set x (j/2) _) (Am (j%2) 0))
   cases Am (j%2) 0
   .show r.set x (j/2) (λa=>k (.node l v a))=k (r.set x (j/2) λa=>.node l v a)
    rw[d (j/2) (λa=>k (T.node l v a)),d (j/2) (λa=>T.node l v a)]
   .show l.set x (j/2) (λl'=>k (.node l' v r))=k (l.set x (j/2) λl'=>.node l' v r)
    rw[c (j/2) (λl'=>k (T.node l' v r)),c (j/2) (λl'=>T.node l' v r)]
def T.ch (l r:T α) (v:Option α) (x:α):(T.node l v r).ins 0 x=.node l (I x) r:=rfl
def T.cm (l r:T α) (v:Option α) (x:α) (j:Nat):
 (T.node l v r).ins (j+1) x=if j%2=0 then .node (l.ins (j/2) x) v r else .node l v (r.ins (j/2) x):=by
 show B1 (motive:=λ_=>T α) (r.set x (j/2) λa=>.node l v a) (l.set x (j/2) λl'=>.node l' v r) (Am (j%2) 0)=_;by_cases h:j%2=0
 .rw[if_pos h,h];exact T.b9 x l (j/2) _
 .rw[if_neg h]
  have:=Bool.eq_false_iff.2 λe=>h (Af e);rw[this];exact T.b9 x r (j/2) _
def T.bP (x:α) (f:Nat):T.single x (f+1) 0 (λt=>t)=.node .nil (I x) .nil:=rfl
def T.bS (x:α) (f j:Nat):T.single x (f+1) (j+1) (λt=>t)=
 if j%2=0 then .node (T.single x f (j/2) λt=>t) Z .nil else .node .nil Z (T.single x f (j/2) λt=>t):=by
 show B1 (motive:=λ_=>T α) (T.single x f (j/2) λr=>.node .nil Z r) (T.single x f (j/2) λl=>.node l Z .nil) (Am (j%2) 0)=_;by_cases h:j%2=0
 .rw[if_pos h,h];exact T.bp x f (j/2) _
 .rw[if_neg h]
  have:=Bool.eq_false_iff.2 λe=>h (Af e);rw[this];exact T.bp x f (j/2) _
def T.b5 (x:α):∀(f i j:Nat),i<f->(T.single x f i λt=>t).get j=if j=i then I x else none:=by
 intro f
 induction f with
 |zero=>intro i j h;omega
 |succ f b=>
  intro i j h;cases i with
  |zero=>
   rw[T.bP];cases j with
   |zero=>rfl
   |succ j=>rw[T.au,T.C,ite_self,if_neg G]
  |succ i=>
   rw[T.bS];by_cases U:i%2=0
   .rw[if_pos U]
    cases j with
    |zero=>rw[T.aB,if_neg G]
    |succ j=>
     rw[T.au];by_cases a:j%2=0
     .rw[if_pos a,b (i/2) (j/2) G]
      by_cases e:j=i
      .rw[if_pos G,if_pos G]
      .rw[if_neg G,if_neg G]
     .rw[if_neg a,T.C,if_neg G]
   .rw[if_neg U]
    cases j with
    |zero=>rw[T.aB,if_neg G]
    |succ j=>
     rw[T.au];by_cases a:j%2=0
     .rw[if_pos a,T.C,if_neg G]
     .rw[if_neg a,b (i/2) (j/2) G]
      by_cases e:j=i
      .rw[if_pos G,if_pos G]
      .rw[if_neg G,if_neg G]
def T.M (x:α):∀(t:T α) (i j:Nat),(t.ins i x).get j=if j=i then I x else t.get j:=by
 intro t
 induction t with
 |nil=>intro i j;exact T.b5 x (i+1) i j (HL i)
 |
  node l v r b d=>
  intro i j;cases i with
  |
   zero=>
   rw[T.ch];cases j with
   |zero=>rfl
   |succ j=>rw[T.au,T.au,if_neg (c:=j+1=0) (by omega)]
  |succ i=>
   rw[T.cm];by_cases U:i%2=0
   .rw[if_pos U]
    cases j with
    |zero=>rw[T.aB,T.aB,if_neg G]
    |succ j=>
     rw[T.au,T.au];by_cases a:j%2=0
     .rw[if_pos a,if_pos a,b]
      by_cases e:j=i
      .rw[if_pos G,if_pos G]
      .rw[if_neg G,if_neg G]
     .rw[if_neg a,if_neg a,if_neg G]
   .rw[if_neg U]
    cases j with
    |zero=>rw[T.aB,T.aB,if_neg G]
    |succ j=>
     rw[T.au,T.au];by_cases a:j%2=0
     .rw[if_pos a,if_pos a,if_neg G]
     .rw[if_neg a,if_neg a,d]
      by_cases e:j=i
      .rw[if_pos G,if_pos G]
      .rw[if_neg G,if_neg G]
def T.ao (x:α) (t:T α) (i:Nat):(t.ins i x).get i=I x:=by rw[T.M,if_pos rfl]
def T.aP (x:α) (t:T α) {i j:Nat} (h:j≠i):(t.ins i x).get j=t.get j:=by rw[T.M,if_neg h]
def T.laid (l:List α):Nat->T α->T α:=
 Hg (λ_ t=>t) (λx _ a i t=>t.set x i λb=>a (A3 i) b) l
def T.cn (i:Nat) (t:T α):T.laid [] i t=t:=rfl
def T.bC (x:α) (l:List α) (i:Nat) (t:T α):T.laid (x::l) i t=T.laid l (i+1) (t.ins i x):=by
 show t.set x i (λa=>T.laid l (i+1) a)=_;rw[T.b9]
def T.O:∀(l:List α) (i:Nat) (t:T α) (j:Nat),(T.laid l i t).get j=if i<=j/\j<i+LT l then l[j-i]? else t.get j:=by
 intro l
 induction l with
 |nil=>intro i t j;rw[T.cn,if_neg (by simp)]
 |
  cons x l a=>
  intro i t j;rw[T.bC,a];by_cases h:i<=j/\j<i+(x::l).length
  .rw[if_pos h]
   simp only[AO] at h;by_cases e:j=i
   .subst e;rw[if_neg (by omega),T.ao];simp
   .rw[if_pos (by omega)]
    obtain⟨d,rfl⟩:∃d,j=i+1+d:=⟨j-i-1,by omega⟩;rw[show i+1+d-(i+1)=d by omega,show i+1+d-i=d+1 by omega];rfl
  .rw[if_neg h]
   simp only[AO] at h;rw[if_neg G,T.aP _ _ G]
end
def Mt {α:Type} (l:List α):List α×List α:=
 Hg ([],[]) (λx _ a=>(x::a.2,a.1)) l
def T.table {α:Type} (f:Nat):List α->T α:=
 UE (λ_=>.nil) (λ_ a l=>
  Hg .nil (λx l _=>.node (a (Mt l).1) (I x) (a (Mt l).2)) l) f
def Tj {α:Type}:∀(l:List α) (i:Nat),(Mt l).1[i]?=l[2*i]?/\(Mt l).2[i]?=l[2*i+1]?:=by
 intro l
 induction l with
 |nil=>intro i;exact⟨Jq,Jq⟩
 |
  cons x l a=>
  intro i;refine⟨?_,?_⟩
  .show(x::(Mt l).2)[i]?=_
   cases i with
   |zero=>rfl
   |
    succ i=>
    rw[B5,(a i).2,show 2*(i+1)=(2*i+1)+1 by omega,B5]
  .show(Mt l).1[i]?=_
   rw[(a i).1,B5]
def T.a2 {α:Type}:∀(f:Nat) (l:List α) (i:Nat) (x:α),(T.table f l).get i=I x->l[i]?=I x:=by
 intro f
 induction f with
 |zero=>intro l i x h;cases h
 |succ f a=>
  intro l i x h;cases l with
  |nil=>cases h
  |cons y l=>
   change (T.node (T.table f (Mt l).1) (I y) (T.table f (Mt l).2)).get i=I x at h;cases i with
   |zero=>rw[T.aB] at h;simpa using h
   |succ j=>
    rw[T.au] at h;rw[B5];by_cases b:j%2=0
    .rw[if_pos b] at h
     have:=a _ _ _ h;rw[(Tj l (j/2)).1] at this;rw[←this];congr 1;omega
    .rw[if_neg b] at h
     have:=a _ _ _ h;rw[(Tj l (j/2)).2] at this;rw[←this];congr 1;omega
inductive HB where
 |cells (c:T Aa) (n:Nat) (e:Ai) (lo U:Nat) (x:Bool)
 |map (es:List Ap) (ck:Nat)
 |str (s:Bd) (pos:Nat)
 |ay (m:Option Nat) (since:Nat) (seen:Bo) (last:Nat)
 |loop (st:LoopState) (pending:Option DC) (tm:T Aa) (sz:Nat) (params:List Tmp) (assign body:DC) (aq:Nat)
 |aq (taken:Bool)
 |dead
def HB.live:HB->Bool
 |.dead=>Ah
 |_=>Ag
inductive WS where
 |no
 |one (id:Nat)
 |rest (lo:Nat)
 |pair (b lo:Nat)
def WS.has:WS->Nat->Prop
 |.no,_=>False
 |.one b,i=>i=b
 |.rest lo,i=>lo<=i
 |.pair b lo,i=>i=b\/lo<=i
def WS.hasB:WS->Nat->Bool
 |.no,_=>Ah
 |.one b,i=>Am i b
 |.rest lo,i=>Ar lo i
 |.pair b lo,i=>Am i b||Ar lo i
instance:LE WS:=⟨λa b=>∀i,b.has i->a.has i⟩
def WS.C (nx:Nat):WS->Bool
 |.no=>Ag
 |.one b=>Ar nx b
 |.rest lo=>Ar nx lo
 |.pair b lo=>Ar nx b&&Ar nx lo
structure Y where
 t:T HB
 a:Nat
 lo:WS
inductive KS where
 |aU|indexByte|count|index|makeNoZero (e:Ai)
structure Bb where
 fn:T BC
 ds:T eT
 b:T KR
 ex:T KS
 f:Ai->Bool
 a:Nat
structure Fr where
 M:T Aa
 sz:Nat
 ds:List Hh
def Gg (i j:Nat):Nat:=bif Ar i j then i else j
def Gf (s:WS) (i:Nat):WS:=match s with
 |.no=>.one i
 |.one b=>bif Am b i then .one b else bif Ar b i then .pair b i else .pair i b
 |.rest lo=>bif Ar lo i then .rest lo else .pair i lo
 |.pair b lo=>bif Am b i||Ar lo i then .pair b lo else bif Ar b i then .pair b i else .pair i (Gg b lo)
def Lr (s:WS) (j:Nat):WS:=match s with
 |.no=>.rest j
 |.one i=>bif Ar j i then .rest j else .pair i j
 |.rest i=>.rest (Gg i j)
 |.pair b lo=>.pair b (Gg lo j)
def Pf (s a:WS):WS:=match a with
 |.no=>s
 |.one i=>Gf s i
 |.rest j=>Lr s j
 |.pair b j=>Gf (Lr s j) b
def Y.low (h:Y) (i:Nat):WS:=Gf h.lo i
def Y.put (h:Y) (i:Nat) (b:HB):Y:=match h with|⟨t,nx,lo⟩=>⟨t.ins i b,nx,Gf lo i⟩
def Y.new (h:Y) (b:HB):Y:=match h with|⟨t,nx,lo⟩=>⟨t.ins nx b,A3 nx,lo⟩
def Y.ad (h:Y):Y:=match h with|⟨t,nx,_⟩=>⟨t,nx,.no⟩
def Y.M (h J:Y):Y:=match h with|⟨_,_,lo⟩=>match J with|⟨t,nx,a⟩=>⟨t,nx,Pf lo a⟩
abbrev Jl:=Option (Aa×Y)
def AG (id off:Nat):Value:=.pointer (I ⟨id,off,Z⟩)
def AJ:Aa->AH
 |.agg cs=>aI cs
 |v=>[v]
def one:Aa->Bool
 |.agg _|.tuple _=>Ah
 |_=>Ag
def aJ:Aa->Bool
 |.bool _|.int _ _|.float _ _|.complex _ _ _|.string _|.pointer Z|.slice Z _ _|.map Z|.chan Z|.nilFunc|.nilIface=>Ag
 |_=>Ah
def DG:Aa->Bool
 |.agg cs=>cs.toList.all aJ
 |.tuple cs=>cs.toList.all aJ
 |.iface _ v=>aJ v
 |v=>aJ v
def ev (τ:Bb) (fr:Fr):BU->Option Aa
 |.tmp t=>fr.M.get t
 |.const v=>bif DG v then I v else Z
 |.global g=>bif AD g τ.a then I (AG g 0) else Z
 |.func f=>I (.func (.func f) #[] #[])
def O8 (τ:Bb) (fr:Fr):List BU->Option AH
 |[]=>I []
 |o::l=>match ev τ fr o,O8 τ fr l with
  |I v,I vs=>I (v::vs)
  |_,_=>Z
def DV (c:T Aa) (n:Nat):Nat->Option AH:=
 UE (λ_=>I [])
  (λ_ a off=>match c.get off with
   |I v=>(match a (A3 off) with|I l=>I (v::l)|Z=>Z)
   |Z=>Z) n
def J5:eT->Bool
 |.struct _|.array _ _=>Ag
 |_=>Ah
def Bw (τ:Bb) (t:Ai) (h:Y) (id off:Nat):Option Value:=
 match h.t.get id,τ.ds.get t with
 |I (.cells c _ _ _ _ _),I d=>bif J5 d then(match τ.b.get t with
  |I i=>(match DV c i.size off with|I l=>I (.agg ⟨l⟩)|Z=>Z)
  |Z=>Z)
  else c.get off
 |_,_=>Z
def RP (n lo U off k:Nat):Bool:=Ar (off+k) n&&(Ar U lo||Ar (off+k) lo||Ar U off)
def Gi (h:Y) (id off:Nat) (vs:AH):Option Y:=
 match h.t.get id with
 |I (.cells c n e lo U x)=>bif RP n lo U off (LT vs)&&vs.all one then I (h.put id (.cells (T.laid vs off c) n e lo U x)) else Z
 |_=>Z
def BA (τ:Bb) (t:Ai) (h:Y) (id off:Nat) (v:Aa):Option Y:=
 match τ.b.get t with
 |I i=>bif Am (AJ v).length i.size then Gi h id off (AJ v) else Z
 |Z=>Z
def BN (h:Y) (e:Ai) (vs:AH):Y:=h.new (.cells (T.laid vs 0 .nil) (LT vs) e 0 0 Ag)
def HY (h:Y) (e:Ai) (vs:AH):Y:=h.new (.cells (T.laid vs 0 .nil) (LT vs) e 0 0 Ah)
def Le (τ:Bb) (t:Ai) (cs:AH) (off:Nat):Option Value:=
 match τ.ds.get t with
 |I d=>bif J5 d then(match τ.b.get t with|I i=>I (.agg ⟨(cs.drop off).take i.size⟩)|Z=>Z) else cs[off]?
 |Z=>Z
def My:AH->Nat->AH->AH
 |cs,_,[]=>cs
 |cs,off,v::vs=>My (cs.set off v) (off+1) vs
def Jw (a:Nat->Option (Nat×Nat)):List (Nat×Aa)->AH->Option AH
 |[],cs=>I cs
 |(i,v)::rest,cs=>match a i with
  |Z=>Z
  |I (off,b)=>bif Am (AJ v).length b&&Ar (off+b) (LT cs)&&(AJ v).all one then Jw a rest (My cs off (AJ v)) else Z
def Dy (z:AH):Nat->AH
 |0=>[]
 |n+1=>z++Dy z n
def Fs (v:Aa):Option Nat:=
 match v with
 |.int _ (.ofNat n)=>I n
 |_=>Z
def EY (l:Bl):Bd:=⟨⟨l⟩⟩
def Gp:Bl->Bl->Bool
 |[],[]=>Ag
 |a::l,b::m=>bif Am a.toNat b.toNat then Gp l m else Ah
 |_,_=>Ah
def KJ:Bl->Bl->Bool
 |_,[]=>Ah
 |[],_::_=>Ag
 |a::l,b::m=>bif AD a.toNat b.toNat then Ag else bif Am a.toNat b.toNat then KJ l m else Ah
def b1:Bl->Nat
 |[]=>0
 |b::_=>dE b
def ZN (a b c d:Nat):Nat×Nat:=
 bif AD a 128 then(a,1)
 else bif Am (a/32) 6&&Am (b/64) 2 then(bif Ar 128 ((a%32)*64+b%64) then((a%32)*64+b%64,2) else(65533,1))
 else bif Am (a/16) 14&&Am (b/64) 2&&Am (c/64) 2 then
  (bif Ar 2048 ((a%16)*4096+(b%64)*64+c%64)&&(AD ((a%16)*4096+(b%64)*64+c%64) 55296||Ar 57344 ((a%16)*4096+(b%64)*64+c%64)) then
   ((a%16)*4096+(b%64)*64+c%64,3) else(65533,1))
 else bif Am (a/8) 30&&Am (b/64) 2&&Am (c/64) 2&&Am (d/64) 2 then
  (bif Ar 65536 ((a%8)*262144+(b%64)*4096+(c%64)*64+d%64)&&Ar ((a%8)*262144+(b%64)*4096+(c%64)*64+d%64) 1114111 then
   ((a%8)*262144+(b%64)*4096+(c%64)*64+d%64,4) else(65533,1))
 else(65533,1)
def FF (l:Bl):Nat×Nat:=ZN (b1 l) (b1 (l.drop 1)) (b1 (l.drop 2)) (b1 (l.drop 3))
def CA:Nat->Bl->AH
 |0,_=>[]
 |_+1,[]=>[]
 |n+1,b::l=>.int .i32 (AQ (FF (b::l)).1)::CA n ((b::l).drop (FF (b::l)).2)
def IZ (τ:Bb):Nat->Ai->Aa->Aa->Option Bool
 |0,_,_,_=>Z
 |d+1,t,x,y=>
  match τ.ds.get t with
  |Z=>Z
  |I c=>match c,x,y with
   |.bool,.bool a,.bool b=>I (a==b)
   |.int _,.int k a,.int k' b=>if k=k' then I (a==b) else Z
   |.string,.string a,.string b=>I (Gp (aI a.data) (aI b.data))
   |.pointer _,.pointer Z,.pointer b=>I b.isNone
   |.pointer _,.pointer (I _),.pointer Z=>I Ah
   |.interface _,.nilIface,.iface _ _|.interface _,.iface _ _,.nilIface=>I Ah
   |.slice _,.slice Z _ _,.slice b _ _=>I b.isNone
   |.slice _,.slice (I _) _ _,.slice Z _ _=>I Ah
   |.map _ _,.map Z,.map b=>I b.isNone
   |.map _ _,.map (I _),.map Z=>I Ah
   |.func _ _ _,.nilFunc,.nilFunc=>I Ag
   |.func _ _ _,.nilFunc,.func _ _ _|.func _ _ _,.func _ _ _,.nilFunc=>I Ah
   |.struct DU,.agg xs,.agg ys=>bif τ.f t then DU.toList.foldr (λf r=>
    if f.name= "_" then r else
    match Le τ f.type (aI xs) f.offset,Le τ f.type (aI ys) f.offset with
    |I a,I b=>(match IZ τ d f.type a b with|I Ag=>r|I Ah=>I Ah|Z=>Z)
    |_,_=>Z) (I Ag) else Z
   |_,_,_=>Z
def CP (τ:Bb) (t:Ai):Option Value:=
 match τ.b.get t with
 |I i=>(match i.zero with|I z=>bif DG z then I z else Z|Z=>Z)
 |Z=>Z
def Hn:Sem Aa->Option Aa
 |.pure v=>I v
 |_=>Z
def fV (op:UnOp):Aa->Option Aa
 |.int k n=>Hn (Op.unary op (.int k n))
 |.bool b=>Hn (Op.unary op (.bool b))
 |_=>Z
def If:BU->Bool
 |.const _=>Ag
 |_=>Ah
def I1 (k:Cq):Nat:=IntKind.rec 127 32767 2147483647 9223372036854775807 255 65535 4294967295 18446744073709551615 k
def Yz (k:Cq):Nat:=IntKind.rec 8 16 32 64 8 16 32 64 k
def Ld (k:Cq):Nat:=IntKind.rec 0 1 2 3 4 5 6 7 k
def O9 (k k':Cq):Bool:=Am (Ld k) (Ld k')
def ZO (k:Cq) (n:Nat):Option Value:=B1 Z (I (.int k (AQ n))) (Ar n (I1 k))
abbrev FI:=Cq->Nat->Nat->Option Aa
def Xe:FI:=λk x y=>ZO k (Nat.add x y)
def zL:FI:=λk x y=>B1 Z (ZO k (Nat.sub x y)) (Ar y x)
def Axb:FI:=λk x y=>ZO k (Nat.mul x y)
def OB:FI:=λk x y=>B1 Z (ZO k (Qe x y)) (Ar 1 y)
def KI:FI:=λk x y=>B1 Z (I (.int k (AQ (Zy x y)))) (Ar 1 y)
def zO:FI:=λk x y=>B1 Z (B1 Z (I (.int k (AQ (Nat.land x y)))) (Ar y (I1 k))) (Ar x (I1 k))
def AEe:FI:=λk x y=>B1 Z (B1 Z (I (.int k (AQ (Nat.lor x y)))) (Ar y (I1 k))) (Ar x (I1 k))
def zI:FI:=λk x y=>B1 Z (B1 Z (I (.int k (AQ (Nat.xor x y)))) (Ar y (I1 k))) (Ar x (I1 k))
def Eo:FI:=λ_ _ _=>Z
def uC:FI:=λ_ x y=>I (.bool (Am x y))
def tP:FI:=λ_ x y=>I (.bool (!(Am x y)))
def uH:FI:=λ_ x y=>I (.bool (AD x y))
def uw:FI:=λ_ x y=>I (.bool (Ar x y))
def ud:FI:=λ_ x y=>I (.bool (AD y x))
def tO:FI:=λ_ x y=>I (.bool (Ar y x))
def Vl (op:CT):FI:=BinOp.rec Xe zL Axb OB KI zO AEe zI Eo Eo Eo uC tP uH uw ud tO op
def gX (op:CT):FI:=BinOp.rec Eo Eo Eo Eo Eo Eo Eo Eo
 (λk x y=>B1 Z (I (.int k (AQ (Zy (Nat.shiftLeft x y) (A3 (I1 k)))))) (AD y (Yz k)&&Ar 4 (Ld k)))
 (λk x y=>B1 Z (I (.int k (AQ (Nat.shiftRight x y)))) (Ar y (Yz k))) Eo Eo Eo Eo Eo Eo Eo op
def IG {c:Type} (a b:Option c):Option c:=Jc b (λv=>I v) a
def kK (op:CT) (t:Ai) (k:Cq) (a:Int) (k':Cq) (b:Int):Option Value:=
 Int.rec (λx=>Int.rec
  (λy=>IG (IG (gX op k x y) (B1 Z (Vl op k x y) (O9 k k'))) (Hn (binOp op t (.int k (AQ x)) (.int k' (AQ y)))))
  (λy=>Hn (binOp op t (.int k (AQ x)) (.int k' (Int.negSucc y)))) b)
  (λx=>Hn (binOp op t (.int k (Int.negSucc x)) (.int k' b))) a
def mH (op:CT) (a b:Bl):Option Value:=
 match op with
 |.add=>bif Ar (LT a+LT b) 1099511627776 then I (.string (EY (a++b))) else Z
 |.eql=>I (.bool (Gp a b))
 |.neq=>I (.bool (!Gp a b))
 |.lss=>I (.bool (KJ a b))
 |.leq=>I (.bool (KJ a b||Gp a b))
 |.gtr=>I (.bool !(KJ a b||Gp a b))
 |.geq=>I (.bool !KJ a b)
 |_=>Z
def Jo (τ:Bb) (op:CT) (t:Ai) (ox oy:BU) (x y:Aa):Option Value:=
 match x,y with
 |.int k a,.int k' b=>kK op t k a k' b
 |.string a,.string b=>mH op (aI a.data) (aI b.data)
 |.nilIface,.nilIface=>bif If ox||If oy then(match τ.ds.get t,op with
  |I (.interface _),.eql=>I (.bool Ag)
  |I (.interface _),.neq=>I (.bool Ah)
  |_,_=>Z) else Z
 |.pointer (I a),.pointer (I b)=>(match τ.ds.get t,τ.b.get t,op with
  |I (.pointer e),_,.eql=>(match τ.b.get e with
   |I i=>bif Am a.block b.block&&!(Am i.size 0) then I (.bool (Am a.off b.off)) else Z
   |Z=>Z)
  |I (.pointer e),_,.neq=>(match τ.b.get e with
   |I i=>bif Am a.block b.block&&!(Am i.size 0) then I (.bool (!(Am a.off b.off))) else Z
   |Z=>Z)
  |_,_,_=>Z)
 |x,y=>match op with
  |.eql=>(match IZ τ Op.maxDepth t x y with|I b=>I (.bool b)|Z=>Z)
  |.neq=>(match IZ τ Op.maxDepth t x y with|I b=>I (.bool (!b))|Z=>Z)
  |_=>Z
def G7:AH->Option Bl
 |[]=>I []
 |.int .u8 n::l=>(match G7 l with|I bs=>I (dR n.toNat::bs)|Z=>Z)
 |_::_=>Z
def FU:AH->Option Bl
 |[]=>I []
 |.int .i32 n::l=>(match FU l with|I bs=>I ((d5 n).data.toList++bs)|Z=>Z)
 |_::_=>Z
def Gv (τ:Bb) (e:Ai):Bool:=
 match τ.b.get e with
 |I i=>Am i.size 1
 |Z=>Ah
def Ea (τ:Bb) (src d:Ai) (x:Aa) (h:Y):Jl:=
 match τ.ds.get src,τ.ds.get d with
 |I f,I g=>match f,g,x with
  |_,.int k,.int _ n=>I (.int k (k.wrap n),h)
  |_,.string,.int _ n=>I (.string (d5 n),h)
  |_,.string,.string s=>I (.string s,h)
  |_,.slice e,.string s=>bif Gv τ e then(match τ.ds.get e with
   |I (.int .u8)=>I (.slice (I ⟨h.a,0,Z⟩) s.size s.size,h.new (.cells (T.laid (s.data.toList.map λb=>.int .u8 b.toNat) 0 .nil) s.size e 1 0 Ah))
   |I (.int .i32)=>
    let l:=CA s.size (aI s.data)
    I (.slice (I ⟨h.a,0,Z⟩) (LT l) (LT l),h.new (.cells (T.laid l 0 .nil) (LT l) e 0 0 Ah))
   |_=>Z) else Z
  |.slice e,.string,.slice Z _ _=>(match τ.ds.get e with
   |I (.int .u8)=>I (.string .empty,h)
   |I (.int .i32)=>I (.string .empty,h)
   |_=>Z)
  |.slice e,.string,.slice (I a) len _=>(match τ.ds.get e,h.t.get a.block with
   |I (.int .u8),I (.cells c _ _ _ _ _)=>(match DV c len a.off with
    |I l=>(match G7 l with|I bs=>I (.string ⟨⟨bs⟩⟩,h)|Z=>Z)
    |Z=>Z)
   |I (.int .i32),I (.cells c _ _ _ _ _)=>(match DV c len a.off with
    |I l=>(match FU l with|I bs=>I (.string ⟨⟨bs⟩⟩,h)|Z=>Z)
    |Z=>Z)
   |_,_=>Z)
  |.slice _,.slice e,.slice (I a) len cap=>bif Am src d then(match τ.ds.get e,h.t.get a.block with
   |I (.int .u8),I (.cells c n el 0 0 x)=>I (.slice (I a) len cap,h.put a.block (.cells c n el 1 0 x))
   |_,_=>Z) else Z
  |.pointer t,.unsafePointer,.pointer (I ⟨id,off,Z⟩)=>(match τ.b.get t,h.t.get id with
   |I i,I (.cells _ n _ _ _ _)=>bif !(Am i.size 0)&&AD off n then I (AG id off,h) else Z
   |_,_=>Z)
  |.unsafePointer,.pointer u,.pointer (I ⟨id,off,Z⟩)=>(match τ.b.get u,h.t.get id with
   |I i,I (.cells _ n e _ _ Ag)=>bif Am u e&&!(Am i.size 0)&&Am (off%i.size) 0&&Ar (off+i.size) n then I (AG id off,h) else Z
   |_,_=>Z)
  |_,_,_=>Z
 |_,_=>Z
def EE (τ:Bb) (t:Ai) (x c:Aa):Option Value:=
 match τ.ds.get t,x,Fs c with
 |I (.slice e),.slice (I a) len _,I i=>(match τ.b.get e with
  |I b=>bif AD i len then I (AG a.block (a.off+i*b.size)) else Z
  |Z=>Z)
 |I (.array len e),.pointer (I ⟨id,off,Z⟩),I i=>(match τ.b.get e with
  |I b=>bif AD i len then I (AG id (off+i*b.size)) else Z
  |Z=>Z)
 |_,_,_=>Z
def I8 (τ:Bb) (t:Ai) (x a:Aa):Option Value:=
 match τ.ds.get t,x,Fs a with
 |I (.array len e),.agg cs,I i=>(match τ.b.get e with
  |I c=>bif AD i len then Le τ e (aI cs) (i*c.size) else Z
  |Z=>Z)
 |some .string,.string s,I i=>(match s.data.toList[i]? with|I b=>I (.int .u8 b.toNat)|Z=>Z)
 |_,_,_=>Z
def Qd (τ:Bb) (t:Ai) (x:Aa):Option Value:=
 match τ.ds.get t,x with
 |I (.array n _),.slice (I a) len _=>bif Ar n len&&AD 0 n then I (AG a.block a.off) else Z
 |_,_=>Z
def GM (τ:Bb) (s:Ai) (x:Aa) (f:Nat):Option Value:=
 match τ.ds.get s,x with
 |I (.struct DU),.pointer (I ⟨id,off,Z⟩)=>(match DU.toList[f]? with
  |I a=>(match τ.b.get a.type with
   |I i=>bif Am i.size 0 then Z else I (AG id (off+a.offset))
   |Z=>Z)
  |Z=>Z)
 |_,_=>Z
def TM (τ:Bb) (t:Ai) (x:Aa) (f:Nat):Option Value:=
 match τ.ds.get t,x with
 |I (.struct DU),.agg cs=>(match DU.toList[f]? with
  |I a=>Le τ a.type (aI cs) a.offset
  |Z=>Z)
 |_,_=>Z
def RO (d:Nat):Option Aa->Option Nat
 |Z=>I d
 |I v=>Fs v
def C7 (τ:Bb) (t:Ai) (x:Aa) (lo U c:Option Aa):Option Value:=
 match τ.ds.get t with
 |Z=>Z
 |I d=>match d,x,c with
  |.string,.string s,Z=>(match RO 0 lo,RO s.size U with
   |I l,I h=>bif Ar l h&&Ar h s.size then I (.string (EY ((s.data.toList.drop l).take (h-l)))) else Z
   |_,_=>Z)
  |.slice e,.slice (I a) len cap,Z=>(match RO 0 lo,RO len U,τ.b.get e with
   |I l,I h,I i=>bif Ar l h&&Ar h cap then I (.slice (I ⟨a.block,a.off+l*i.size,a.spot⟩) (h-l) (cap-l)) else Z
   |_,_,_=>Z)
  |.slice e,.slice (I a) _ cap,I m'=>(match RO 0 lo,U,Fs m',τ.b.get e with
   |I l,I b,I m,I i=>(match Fs b with
    |I h=>bif Ar l h&&Ar h m&&Ar m cap then I (.slice (I ⟨a.block,a.off+l*i.size,I 0⟩) (h-l) (m-l)) else Z
    |Z=>Z)
   |_,_,_,_=>Z)
  |.slice e,.slice Z 0 0,Z=>(match RO 0 lo,RO 0 U,τ.b.get e with
   |I 0,I 0,I _=>I (.slice Z 0 0)
   |_,_,_=>Z)
  |.slice e,.slice Z 0 0,I m'=>(match RO 0 lo,U,Fs m',τ.b.get e with
   |I 0,I b,I 0,I _=>(match Fs b with
    |I 0=>I (.slice Z 0 0)
    |_=>Z)
   |_,_,_,_=>Z)
  |.array n e,.pointer (I ⟨id,off,Z⟩),Z=>(match RO 0 lo,RO n U,τ.b.get e with
   |I l,I h,I i=>bif Ar l h&&Ar h n then I (.slice (I ⟨id,off+l*i.size,I 0⟩) (h-l) (n-l)) else Z
   |_,_,_=>Z)
  |_,_,_=>Z
def E3 (n:Nat):Bool:=Ar n 1099511627776
def Tx (n b:Nat):Bool:=Ar ((n+n/4+192)*b) 281474976710656&&Ar n 70368744177664
def Dk (τ:Bb) (t:Ai) (l c:Aa) (h:Y):Jl:=
 match τ.ds.get t,Fs l,Fs c with
 |I (.slice e),I l,I c=>(match τ.b.get e,CP τ e with
  |I i,I z=>bif Ar l c&&E3 (c*i.bytes)&&E3 c&&AD 0 i.size&&Am (AJ z).length i.size then
   I (.slice (I ⟨h.a,0,Z⟩) l c,BN h e (Dy (AJ z) c)) else Z
  |_,_=>Z)
 |_,_,_=>Z
def MN (d:Nat) (h:Y):Aa->Nat->Option AH
 |.slice Z _ _,0=>I []
 |.slice (I a) _ _,n=>(match h.t.get a.block with
  |I (.cells c _ _ _ _ _)=>DV c (n*d) a.off
  |_=>Z)
 |.string s,n=>bif Am d 1 then I ((s.data.toList.take n).map λb=>.int .u8 b.toNat) else Z
 |_,_=>Z
def MM:Aa->Option Nat
 |.slice Z 0 0=>I 0
 |.slice (I _) n _=>I n
 |.string s=>I s.size
 |_=>Z
def MU (τ:Bb) (t:Option Ai):Bool:=
 match t with
 |Z=>Ah
 |I t=>(match τ.ds.get t with|I (.int _)=>Ag|I _=>Ah|Z=>Ag)
def Gj (τ:Bb) (d:List Ai) (vs:AH) (h:Y):Jl:=
 match d,vs with
 |st::d,[s,x]=>bif MU τ d.head? then Z else(match τ.ds.get st with
  |I (.slice e)=>(match τ.b.get e,MM x,CP τ e with
   |I i,I n,I z=>(match MN i.size h x n with
    |I b=>bif AD 0 i.size&&b.all one&&Am (AJ z).length i.size&&(AJ z).all one then(match s with
     |.slice Z 0 0=>bif Am n 0 then I (.slice Z 0 0,h) else
      bif E3 (n*i.bytes)&&E3 n then I (.slice (I ⟨h.a,0,Z⟩) n n,HY h e b) else Z
     |.slice (I a) len cap=>bif Ar (len+n) cap then
      (match Gi h a.block (a.off+len*i.size) b with
       |I J=>bif Am n 0 then I (.slice (I a) len cap,h) else I (.slice (I a) (len+n) cap,J)
       |Z=>Z)
      else bif Tx (len+n) i.bytes then(match h.t.get a.block with
       |I (.cells c m f lo U _)=>bif Am e f then(match DV c (len*i.size) a.off with
        |I old=>(match a.spot with
         |I _=>I (.slice (I ⟨h.a,0,Z⟩) (len+n) (len+n),HY h e (old++b))
         |Z=>bif Am (a.off+cap*i.size) m&&(Ar U lo||(Ar a.off lo&&Ar U (a.off+len*i.size))) then
          I (.slice (I ⟨h.a,0,Z⟩) (len+n) (len+n),
           (h.put a.block .dead).new (.cells (T.laid (old++b) 0 .nil) (old++b).length e (bif Ar U lo then lo else lo-a.off) (bif Ar U lo then U else U-a.off) Ah))
          else Z)
        |Z=>Z) else Z
       |_=>Z) else Z
     |_=>Z) else Z
    |Z=>Z)
   |_,_,_=>Z)
  |_=>Z)
 |_,_=>Z
def U8 (τ:Bb) (f:List Ai) (vs:AH) (h:Y):Jl:=
 match f,vs with
 |g::_,[d,s]=>(match τ.ds.get g with
  |I (.slice e)=>(match τ.b.get e,MM d,MM s with
   |I i,I b,I c=>(match MN i.size h s (min c b) with
    |I cs=>(match d with
     |.slice Z _ _=>I (.int .i64 0,h)
     |.slice (I a) _ _=>bif cs.isEmpty then I (.int .i64 (AQ (min c b)),h) else(match Gi h a.block a.off cs with
      |I J=>I (.int .i64 (AQ (min c b)),J)
      |Z=>Z)
     |_=>Z)
    |Z=>Z)
   |_,_,_=>Z)
  |_=>Z)
 |_,_=>Z
def I7 (τ:Bb) (a:List Ai) (vs:AH) (h:Y):Option Value:=
 match a,vs with
 |t::_,x::_=>(match τ.ds.get t with
  |Z=>Z
  |I b=>(match b,x with
   |.string,.string s=>I (.int .i64 (AQ s.size))
   |.array n _,_=>I (.int .i64 (AQ n))
   |.slice _,.slice _ n _=>I (.int .i64 (AQ n))
   |.map _ _,.map Z=>I (.int .i64 0)
   |.map _ _,.map (I r)=>(match h.t.get r with
    |I (.map es _)=>I (.int .i64 (AQ (LT es)))
    |_=>Z)
   |_,_=>Z))
 |_,_=>Z
def Oy (f:Aa->Aa->Option Aa):AH->Aa->Option Aa
 |[],x=>I x
 |y::l,x=>match f x y with|I z=>Oy f l z|Z=>Z
def YP:Aa->Aa->Option Aa
 |.int k x,.int _ y=>I (.int k (if y<x then y else x))
 |_,_=>Z
def YL:Aa->Aa->Option Aa
 |.int k x,.int _ y=>I (.int k (if y>x then y else x))
 |_,_=>Z
def Do (τ:Bb):Nat->Ai->Aa->Bool
 |0,_,_=>Ah
 |d+1,t,v=>match τ.ds.get t,v with
  |I (.int k),.int k' _=>O9 k k'
  |some .string,.string _|some .bool,.bool _=>Ag
  |I (.struct DU),.agg cs=>bif τ.f t then DU.toList.all (λf=>match Le τ f.type (aI cs) f.offset with
   |I p=>Do τ d f.type p
   |Z=>Ah) else Ah
  |_,_=>Ah
def HS:Aa->Aa->Bool
 |.bool a,.bool b=>a==b
 |.int j a,.int k b=>O9 j k&&decide (a=b)
 |.string a,.string b=>Gp (aI a.data) (aI b.data)
 |.pointer Z,.pointer Z=>Ag
 |_,_=>Ah
def Dv:AH->AH->Bool
 |[],[]=>Ag
 |a::l,b::m=>HS a b&&Dv l m
 |_,_=>Ah
def Cy:Aa->Aa->Bool
 |.agg a,.agg b=>Dv (aI a) (aI b)
 |a,b=>HS a b
def CE (τ:Bb) (kt:Ai) (k:Aa):List Ap->Nat->Option (Option (Nat×Ap))
 |[],_=>I Z
 |e::es,i=>match IZ τ Op.maxDepth kt k e.key with
  |I Ag=>I (I (i,e))
  |I Ah=>CE τ kt k es (i+1)
  |Z=>Z
def Cu (l:List Ap) (i:Nat) (f:Ap->Ap):List MapEntry:=
 match l,i with
 |[],_=>[]
 |e::es,0=>f e::es
 |e::es,i+1=>e::Cu es i f
def BW (τ:Bb) (t:Ai) (x a:Aa) (c:Bool) (h:Y):Option Value:=
 match τ.ds.get t with
 |I (.map kt et)=>bif Do τ 5 kt a then
  (
   let Da v b:Value:=if c then .tuple #[v,.bool b] else v
   match x with
   |.map Z=>(match CP τ et with|some z=>I (Da z Ah)|none=>Z)
   |.map (I r)=>(match h.t.get r with
    |
     some (.map es _)=>(match CE τ kt a es 0 with
     |some (I (_,e))=>I (Da e.val Ag)
     |some Z=>(match CP τ et with|some z=>I (Da z Ah)|none=>Z)
     |none=>Z)
    |_=>Z)
   |_=>Z) else Z
 |_=>Z
def BH (τ:Bb) (t:Ai) (m k v:Aa) (h:Y):Option Y:=
 match τ.ds.get t,m with
 |I (.map kt _),.map (I r)=>bif Do τ 5 kt k then(match h.t.get r with
  |I (.map es a)=>(match CE τ kt k es 0 with
   |I (I (i,e))=>bif Cy e.key k then I (h.put r (.map (Cu es i λe=>{e with key:=k,val:=v}) a)) else Z
   |some Z=>I (h.put r (.map (es++[{key:=k,val:=v,born:=a}]) (a+1)))
   |none=>Z)
  |_=>Z) else Z
 |_,_=>Z
def D6 (τ:Bb) (t:Ai) (m k:Aa) (h:Y):Jl:=
 match τ.ds.get t,m with
 |I (.map kt et),.map (I r)=>bif Do τ 5 kt k then(match h.t.get r with
  |I (.map es a)=>(match CE τ kt k es 0 with
   |I (I (i,e))=>bif Cy e.key k then
    I (.tuple #[e.val,.int .i64 (AQ e.born)],h.put r (.map (Cu es i λe=>{e with key:=k}) a)) else Z
   |some Z=>(match CP τ et with
    |I z=>I (.tuple #[z,.int .i64 (AQ a)],h.put r (.map (es++[{key:=k,val:=z,born:=a}]) (a+1)))
    |Z=>Z)
   |Z=>Z)
  |_=>Z) else Z
 |_,_=>Z
def Fx (n:Nat):List Ap->Nat->Option Nat
 |[],_=>Z
 |e::es,i=>bif Am e.born n then I i else Fx n es (i+1)
def DM (m a v:Aa) (h:Y):Option Y:=
 match m,Fs a with
 |.map (I r),I n=>(match h.t.get r with
  |I (.map es b)=>(match Fx n es 0 with
   |I i=>I (h.put r (.map (Cu es i λe=>{e with val:=v}) b))
   |none=>Z)
  |_=>Z)
 |_,_=>Z
def II (τ:Bb) (b:List Ai) (vs:AH) (h:Y):Option Y:=
 match b,vs with
 |t::_,[m,k]=>(match τ.ds.get t,m with
  |I (.map kt _),.map Z=>bif Do τ 5 kt k then I h else Z
  |I (.map kt _),.map (I r)=>bif Do τ 5 kt k then(match h.t.get r with
   |I (.map es a)=>(match CE τ kt k es 0 with
    |I (I (i,_))=>I (h.put r (.map (es.eraseIdx i) a))
    |I Z=>I (h.put r (.map es a))
    |Z=>Z)
   |_=>Z) else Z
  |_,_=>Z)
 |_,_=>Z
def Gh (τ:Bb) (t:Ai) (x:Aa) (h:Y):Jl:=
 match τ.ds.get t with
 |Z=>Z
 |I b=>match b,x with
  |.string,.string s=>I (AG h.a 0,h.new (.str s 0))
  |.map _ _,.map Z=>I (AG h.a 0,h.new (.ay Z 0 [] 0))
  |.map _ _,.map (I m)=>(match h.t.get m with
   |I (.map _ a)=>I (AG h.a 0,h.new (.ay (I m) a [] a))
   |_=>Z)
  |_,_=>Z
def FT (c:Aa) (Fh:Bool) (h:Y):Option (List (Aa×Y)):=
 match c with
 |.pointer (I ⟨r,0,Z⟩)=>(match h.t.get r,Fh with
  |I (.str s a),Ag=>bif AD a s.size then
   I [(.tuple #[.bool Ag,.int .i64 (AQ a),.int .i32 (AQ (FF (s.data.toList.drop a)).1)],h.put r (.str s (a+(FF (s.data.toList.drop a)).2)))]
   else I [(.tuple #[.bool Ah],h)]
  |I (.ay Z _ _ _),Ah=>I [(.tuple #[.bool Ah],h)]
  |I (.ay (I m) b seen d),Ah=>(match h.t.get m with
   |I (.map es f)=>bif !seen.isEmpty&&!es.isEmpty&&es.all (λe=>Ar d e.born) then Z else
    bif es.all (λe=>AD e.born b) then(match es.filter (λe=>!seen.contains e.born) with
     |[]=>I [(.tuple #[.bool Ah],h)]
     |l=>I (l.map λe=>(.tuple #[.bool Ag,e.key,e.val],h.put r (.ay (I m) b (seen++[e.born]) f)))) else Z
   |_=>Z)
  |_,_=>Z)
 |_=>Z
def Ou (a:Aa) (h:Y):Option Value:=
 match a with
 |.pointer (I ⟨r,0,Z⟩)=>(match h.t.get r with
  |I (.ay (I m) _ seen b)=>(match seen.getLast?,h.t.get m with
   |I st,I (.map es c)=>bif Am c b then(match es.find? (λe=>e.born==st) with
    |I e=>I (.tuple #[e.key,e.val])
    |Z=>Z) else Z
   |_,_=>Z)
  |_=>Z)
 |_=>Z
def P8 (τ:Bb) (x:Aa) (b:Ai) (c:Bool):Option Value:=
 let a:Option Value:=bif c then(match CP τ b with|I z=>I (.tuple #[z,.bool Ah])|Z=>Z) else Z
 let d v:Option Value:=I (if c then .tuple #[v,.bool Ag] else v)
 match τ.ds.get b with
 |Z=>Z
 |I e=>match e,x with
  |.interface _,.nilIface=>a
  |.interface f,.iface t v=>(match τ.b.get t with
   |I i=>(match Instr.missingMethod f i.methods with
    |Z=>d (.iface t v)
    |I _=>a)
   |Z=>Z)
  |_,.nilIface=>a
  |_,.iface t v=>if t=b then d v else a
  |_,_=>Z
def No (τ:Bb) (h:Y) (t:Ai) (v:Aa) (a:String):Option (Au×Aa):=
 match τ.b.get t,τ.ds.get t with
 |I i,I b=>(match i.methods.find? (·.name==a) with
  |I m=>bif m.path.isEmpty then(match m.func,b with
   |I (f,Ag),.pointer _=>I (f,v)
   |I (f,Ah),.pointer e=>(match v with
    |.pointer (I ⟨id,off,Z⟩)=>(match Bw τ e h id off with|I r=>I (f,r)|Z=>Z)
    |_=>Z)
   |I (f,Ah),_=>I (f,v)
   |_,_=>Z) else Z
  |Z=>Z)
 |_,_=>Z
def R6 (τ:Bb) (e:KS) (vs:AH) (h:Y):Jl:=
 match e,vs with
 |.aU,[x]=>I (x,h)
 |.indexByte,[.string s,.int .u8 c]=>
  (match s.data.toList.findIdx? (·==dR c.toNat) with
   |I i=>I (.int .i64 (AQ i),h)
   |Z=>I (.int .i64 (-1),h))
 |.count,[.string s,.int .u8 c]=>I (.int .i64 (AQ (s.data.toList.foldl (λn x=>if x==dR c.toNat then n+1 else n) 0)),h)
 |.makeNoZero e,[.int .i64 (.ofNat n)]=>bif E3 n then I (.slice (I ⟨h.a,0,Z⟩) n n,h.new (.cells .nil n e 0 0 Ah)) else Z
 |_,_=>Z
def LA (τ:Bb) (a:List Ai) (vs:AH) (h:Y):Jl:=
 match a,vs with
 |st::t2::_,[.slice Z 0 0,.int .i64 (.ofNat n)]=>(match τ.ds.get t2,τ.ds.get st with
  |I (.int _),I (.slice e)=>(match τ.b.get e,CP τ e with
   |I i,I z=>bif AD 0 n&&E3 (n*i.bytes)&&E3 n&&AD 0 i.size&&Am (AJ z).length i.size then I (.slice (I ⟨h.a,0,Z⟩) n n,HY h e (Dy (AJ z) n)) else Z
   |_,_=>Z)
  |_,_=>Z)
 |_,_=>Z
def ZM (τ:Bb) (a:List Ai) (vs:AH):Option Value:=
 match a,vs with
 |t::_,x::_=>(match τ.ds.get t,x with
  |I (.slice _),.slice Z _ n=>I (.int .i64 (AQ n))
  |I (.slice _),.slice (I ⟨_,_,I _⟩) _ n=>I (.int .i64 (AQ n))
  |I (.array n _),_=>I (.int .i64 (AQ n))
  |_,_=>Z)
 |_,_=>Z
def EP (τ:Bb) (b:List Ai) (vs:AH) (h:Y):Jl:=
 match b,vs with
 |a::_,[.pointer Z,.int _ 0]=>I (.string .empty,h)
 |a::_,[.pointer (I ⟨id,off,Z⟩),.int _ (.ofNat n)]=>
  bif Am n 0 then I (.string .empty,h) else bif E3 n then
  (match τ.ds.get a,h.t.get id with
   |I (.pointer u),I (.cells c m e lo U x)=>bif Am u e&&!(Am lo 1&&Am U 0)&&Ar (off+n) m then
    (match τ.ds.get e,τ.b.get e,DV c n off with
     |I (.int .u8),I i,I l=>(match G7 l with
      |I bs=>bif Am i.size 1 then I (.string ⟨⟨bs⟩⟩,h.put id (.cells c m e (bif Ar U lo then off else min lo off) (bif Ar U lo then off+n else max U (off+n)) x)) else Z
      |Z=>Z)
     |_,_,_=>Z) else Z
   |_,_=>Z) else Z
 |_,_=>Z
def Fg:AH->Option Aa
 |[.slice Z _ _]=>I (.pointer Z)
 |[.slice (I ⟨id,off,_⟩) _ c]=>bif Am c 0 then Z else I (.pointer (I ⟨id,off,Z⟩))
 |_=>Z
def QQ (τ:Bb) (b:List Ai) (vs:AH) (h:Y):Option Y:=
 match b,vs with
 |t::_,[x]=>(match τ.ds.get t,x with
  |I (.slice _),.slice Z _ _=>I h
  |I (.slice _),.slice (I _) 0 _=>I h
  |I (.slice e),.slice (I a) (n+1) _=>(match τ.b.get e,CP τ e with
   |I i,I z=>bif Am (AJ z).length i.size&&AD 0 i.size then Gi h a.block a.off (Dy (AJ z) (n+1)) else Z
   |_,_=>Z)
  |I (.map _ _),.map Z=>I h
  |I (.map _ _),.map (I r)=>(match h.t.get r with
   |I (.map _ c)=>I (h.put r (.map [] c))
   |_=>Z)
  |_,_=>Z)
 |_,_=>Z
def Bx (τ:Bb) (b:Builtin) (a:List Ai) (vs:AH) (h:Y):Jl:=
 match b with
 |.append=>(match Gj τ a vs h with|I r=>I r|Z=>LA τ a vs h)
 |.cap=>(match ZM τ a vs with|I v=>I (v,h)|Z=>Z)
 |.unsafeString=>EP τ a vs h
 |.unsafeSliceData=>(match Fg vs with|I v=>I (v,h)|Z=>Z)
 |.len=>(match I7 τ a vs h with|I v=>I (v,h)|Z=>Z)
 |.copy=>U8 τ a vs h
 |.min=>(match vs with|x::l=>(match Oy YP l x with|I v=>I (v,h)|Z=>Z)|[]=>Z)
 |.max=>(match vs with|x::l=>(match Oy YL l x with|I v=>I (v,h)|Z=>Z)|[]=>Z)
 |.clear=>(match QQ τ a vs h with|I J=>I (.tuple #[],J)|Z=>Z)
 |.delete=>(match II τ a vs h with|I J=>I (.tuple #[],J)|Z=>Z)
 |_=>Z
inductive EO where
 |val (v:Aa) (h:Y)
 |aE (fr:Fr) (h:Y)
 |flat (n:Nat) (l:AH)
abbrev RR:=Option (List EO)
def Ns:RR->RR->RR
 |I a,I b=>I (a++b)
 |_,_=>Z
def ZK (τ:Bb) (fr:Fr):Option BU->Option (Option Aa)
 |Z=>I Z
 |I o=>(match ev τ fr o with|I v=>I (I v)|Z=>Z)
def Ql (τ:Bb) (fr:Fr):List (Nat×BU)->Option (List (Nat×Aa))
 |[]=>I []
 |(i,o)::l=>match ev τ fr o,Ql τ fr l with
  |I v,I vs=>I ((i,v)::vs)
  |_,_=>Z
def CN (h:Y):Option Aa->Jl
 |I v=>I (v,h)
 |Z=>Z
def Nb:Option Y->Jl
 |I h=>I (.tuple #[],h)
 |Z=>Z
def TO (τ:Bb) (t:Ai) (ps:List (Nat×Aa)):Option Value:=
 match τ.ds.get t,CP τ t with
 |I (.struct DU),I z=>bif DU.toList.all (λf=>(τ.b.get f.type).isSome) then(match Jw (λi=>match DU.toList[i]? with
  |I f=>(match τ.b.get f.type with|I a=>I (f.offset,a.size)|Z=>Z)
  |Z=>Z) ps (AJ z) with
  |I cs=>I (.agg ⟨cs⟩)
  |Z=>Z) else Z
 |I (.array _ e),I z=>(match τ.b.get e with
  |I a=>(match Jw (λi=>I (i*a.size,a.size)) ps (AJ z) with
   |I cs=>I (.agg ⟨cs⟩)
   |Z=>Z)
  |Z=>Z)
 |_,_=>Z
def Bs (τ:Bb) (t:Ai) (len:Nat) (ps:List (Nat×Aa)) (h:Y):Jl:=
 match τ.ds.get t with
 |I (.slice e)=>(match τ.b.get e,CP τ e with
  |I i,I z=>bif AD 0 i.size&&Am (AJ z).length i.size&&Ar (len*i.size) 16777216 then
   (match Jw (λk=>I (k*i.size,i.size)) ps (Dy (AJ z) len) with
    |I cs=>I (.slice (I ⟨h.a,0,Z⟩) len len,BN h e cs)
    |Z=>Z) else Z
  |_,_=>Z)
 |_=>Z
def K7 (τ:Bb) (t:Ai) (v:Aa) (h:Y):Jl:=I (AG h.a 0,BN h t (AJ v))
def iH (τ:Bb) (F:BU->Option Aa) (L:List (Nat×BU)->Option (List (Nat×Aa))) (O:List BU->Option AH) (K:Option BU->Option (Option Aa)) (h:Y) (o:Op):Jl:=
 match o with
 |.move x|.assign x=>CN h (F x)
 |.pick c a b=>(match F c with
  |I (.bool t)=>CN h (F (if t then a else b))
  |_=>Z)
 |.alloc t=>(match CP τ t with|I z=>K7 τ t z h|Z=>Z)
 |.box t x=>(match F x with|I v=>K7 τ t v h|Z=>Z)
 |.build t ps=>(match L (aI ps) with|I vs=>CN h (TO τ t vs)|Z=>Z)
 |.buildSlice t n ps=>(match L (aI ps) with|I vs=>Bs τ t n vs h|Z=>Z)
 |.load t a=>(match F a with|I (.pointer (I ⟨id,off,Z⟩))=>CN h (Bw τ t h id off)|_=>Z)
 |.store t a x=>(match F a,F x with
  |I (.pointer (I ⟨id,off,Z⟩)),I v=>Nb (BA τ t h id off v)
  |_,_=>Z)
 |.nilCheck x=>(match F x with
  |I (.pointer (I a))=>I (.pointer (I a),h)
  |I (.func (.func f) a b)=>I (.func (.func f) a b,h)
  |I (.iface t v)=>I (.iface t v,h)
  |_=>Z)
 |.binOp op t x y _=>(match F x,F y with|I a,I b=>CN h (Jo τ op t x y a b)|_,_=>Z)
 |.unOp op _ x=>(match F x with|I v=>CN h (fV op v)|Z=>Z)
 |.convert s d x=>(match F x with|I v=>Ea τ s d v h|Z=>Z)
 |.makeInterface t x=>(match F x,τ.ds.get t with
  |I _,I (.interface _)=>Z
  |I v,I _=>I (.iface t v,h)
  |_,_=>Z)
 |.makeFunc fn first cap=>(match O (aI first),O (aI cap) with
  |I a,I b=>(match fn with
   |.func f=>I (.func (.func f) ⟨a⟩ ⟨b⟩,h)
   |_=>Z)
  |_,_=>Z)
 |.makeMap t r=>(match K r with
  |I Z=>I (.map (I h.a),h.new (.map [] 0))
  |I (I (.int _ _))=>(match τ.ds.get t with|I (.map _ _)=>I (.map (I h.a),h.new (.map [] 0))|_=>Z)
  |_=>Z)
 |.makeSlice t l c=>(match F l,F c with|I a,I b=>Dk τ t a b h|_,_=>Z)
 |.slice t x lo U g=>(match F x,K lo,K U,K g with
  |I v,I a,I b,I c=>CN h (C7 τ t v a b c)
  |_,_,_,_=>Z)
 |.fieldAddr s x f=>(match F x with|I v=>CN h (GM τ s v f)|Z=>Z)
 |.field t x f=>(match F x with|I v=>CN h (TM τ t v f)|Z=>Z)
 |.indexAddr t x i=>(match F x,F i with|I a,I b=>CN h (EE τ t a b)|_,_=>Z)
 |.index t x i=>(match F x,F i with|I a,I b=>CN h (I8 τ t a b)|_,_=>Z)
 |.lookup t x i e=>(match F x,F i with|I a,I b=>CN h (BW τ t a b e h)|_,_=>Z)
 |.mapUpdate t m k x|.insert t m k x=>(match F m,F k,F x with
  |I a,I b,I c=>Nb (BH τ t a b c h)
  |_,_,_=>Z)
 |.mapEntry t m k=>(match F m,F k with|I a,I b=>D6 τ t a b h|_,_=>Z)
 |.entryStore _ m s x=>(match F m,F s,F x with|I a,I b,I c=>Nb (DM a b c h)|_,_,_=>Z)
 |.range t x=>(match F x with|I v=>Gh τ t v h|Z=>Z)
 |.entry j=>(match F j with|I v=>CN h (Ou v h)|Z=>Z)
 |.typeAssert x _ t e=>(match F x with|I v=>CN h (P8 τ v t e)|Z=>Z)
 |.extract t i=>(match F t with|I (.tuple vs)=>CN h vs.toList[i]?|_=>Z)
 |.sliceToArrayPointer t x=>(match F x with|I v=>CN h (Qd τ t v)|Z=>Z)
 |_=>Z
def Ch (τ:Bb) (fr:Fr) (h:Y) (o:Op):Jl:=iH τ (ev τ fr) (Ql τ fr) (O8 τ fr) (ZK τ fr) h o
abbrev Be:=Fn->AH->Y->(Aa->Y->RR)->(Aa->Y->RR)->RR
section
variable(τ:Bb) (call:Be)
def Hd (a:Aa) (b:String) (c:AH) (h:Y) (k kp:Aa->Y->RR):RR:=
 match a with
 |.iface t v=>(match No τ h t v b with
  |I (f,r)=>call (.func f) (r::c) h k kp
  |Z=>Z)
 |_=>Z
def Vn (b:Aa) (a:AH) (h:Y) (k kp:Aa->Y->RR):RR:=
 match b with
 |.func (.func f) first cap=>call (.func f) (aI first++a++aI cap) h k kp
 |.func (.yield l) first _=>call (.yield l) (aI first++a) h k kp
 |_=>Z
def Ju (fr:Fr) (h:Y) (c:Call) (k kp:Aa->Y->RR):RR:=
 match O8 τ fr (aI c.args) with
 |Z=>Z
 |I vs=>match c.callee with
  |.builtin b=>(match Bx τ b (aI c.argTypes) vs h with|I (v,J)=>k v J|Z=>Z)
  |.invoke r a=>(match ev τ fr r with|I d=>Hd τ call d a vs h k kp|Z=>Z)
  |.value f=>(match ev τ fr f with|I e=>Vn call e vs h k kp|Z=>Z)
def R2 (k:Aa->Y->RR):List (Aa×Y)->RR
 |[]=>I []
 |(v,h)::l=>Ns (k v h) (R2 k l)
def F9 (fr:Fr) (h:Y) (o:Op) (k kp:Aa->Y->RR):RR:=
 match o with
 |.call c=>Ju τ call fr h c k kp
 |.next it s=>(match ev τ fr it with
  |I v=>(match FT v s h with
   |I [(a,J)]=>k a J
   |I l=>R2 k l
   |Z=>Z)
  |Z=>Z)
 |.panic x=>(match ev τ fr x with
  |I (.iface t v)=>kp (.iface t v) h
  |_=>Z)
 |o=>(match Ch τ fr h o with|I (v,J)=>k v J|Z=>Z)
def Fr.set (fr:Fr) (d:Option Tmp) (v:Aa):Option Fr:=
 match d with
 |Z=>I fr
 |I t=>bif AD t fr.sz then I (match fr with|⟨a,sz,ds⟩=>⟨a.ins t v,sz,ds⟩) else Z
def E5 (fr:Fr) (AU:List C0):Option (Nat×Bool)->Option Bool
 |Z=>I Ag
 |I (j,a)=>match AU[j]? with
  |I o=>(match o.dst with
   |I t=>(match fr.M.get t with|I (.bool b)=>I (b==a)|I _=>I Ah|Z=>Z)
   |Z=>Z)
  |Z=>Z
def Xv (fr:Fr) (c:Call):Option Deferred:=
 match c.callee,O8 τ fr (aI c.args) with
 |.value f,I vs=>(match ev τ fr f with
  |I (.func (.func g) first cap)=>I {target:=.fn (.func g) cap,args:=⟨aI first++vs⟩}
  |_=>Z)
 |_,_=>Z
def IB (ro:Option Nat) (fr:Fr) (h:Y) (o:C0) (k:Fr->Y->RR) (kp:Aa->Y->RR):RR:=
 match o.op with
 |.defer c=>(match Xv τ fr c,ro,o.dst with
  |I d,Z,Z=>k (match fr with|⟨a,sz,ds⟩=>⟨a,sz,d::ds⟩) h
  |_,_,_=>Z)
 |op=>F9 τ call fr h op (λv J=>match fr.set o.dst v with|I b=>k b J|Z=>Z) kp
def EX (ro:Option Nat) (AU:List C0) (kp:Aa->Fr->Y->RR) (k:Fr->Y->RR):List C0->Fr->Y->RR
 |[],fr,h=>k fr h
 |
  o::l,fr,h=>match E5 fr AU o.guard with
  |some Ag=>IB τ call ro fr h o (λa J=>EX ro AU kp k l a J) (λv J=>kp v fr J)
  |some Ah=>(match fr.set o.dst (.tuple #[]) with|some a=>EX ro AU kp k l a h|none=>Z)
  |none=>Z
def Dj:Op->Bool
 |.move _|.assign _|.pick ..|.binOp ..|.unOp ..|.fieldAddr ..|.field ..|.indexAddr ..|.index ..|.extract ..|.makeInterface ..|.nilCheck _|.slice ..|.makeFunc ..|.sliceToArrayPointer ..=>Ag
 |_=>Ah
def Hy (b:Bo) (i j:Nat):Bool:=bif Ar j i then(b.getD i 0).testBit j else(b.getD j 0).testBit i
inductive Hi where
 |aK
 |rd (id:Nat)
 |lk (id:Nat) (t:Ai)
 |aD
 |wr (s:WS) (me:Option Ai)
 |bad
def Hi.ok:Hi->Bool
 |.bad=>Ah
 |_=>Ag
def WS.M (s:WS) (nx nx':Nat):Bool:=match s with
 |.no=>Ah
 |.one b=>Ar nx b&&AD b nx'
 |.rest lo=>AD nx nx'&&AD lo nx'
 |.pair b lo=>(Ar nx b&&AD b nx')||(AD nx nx'&&AD lo nx')
def ZU (t:Ai):Option Ai->Bool
 |Z=>Ah
 |I a=>Am t a
def MF:Hi->Hi->Nat->Nat->Bool
 |.rd a,.wr s _,_,_=>s.hasB a
 |.lk a t,.wr s b,_,_=>s.hasB a&&!ZU t b
 |.aD,.wr _ _,_,_=>Ag
 |.wr s _,.aK,nx,nx'=>s.M nx nx'
 |.wr s _,.rd a,_,_=>s.hasB a
 |.wr s b,.lk a t,_,_=>s.hasB a&&!ZU t b
 |.wr _ _,.aD,_,_=>Ag
 |.wr _ _,.wr _ _,_,_=>Ag
 |_,_,_,_=>Ah
def WS.top:WS->Option Nat
 |.one b=>I b
 |.pair b _=>I b
 |_=>Z
def Fe (h:Y) (s:WS):Hi:=bif s.C h.a then .aD else match s with
 |.one b=>(match h.t.get b with|I hb=>bif hb.live then .wr s Z else .bad|Z=>.bad)
 |.pair b _=>(match h.t.get b with|I hb=>bif hb.live then .wr s Z else .bad|Z=>.bad)
 |s=>.wr s Z
def Xb (t:Ai) (r:Nat):Hi->Hi
 |.wr (.one b) _=>bif Am b r then .wr (.one b) (I t) else .wr (.one b) Z
 |e=>e
def CF (τ:Bb) (fr:Fr) (o:Op) (h:Y) (lo:WS):Hi:=
 bif Dj o then .aK else match o with
 |.alloc _|.box ..|.build ..|.buildSlice ..|.makeSlice ..|.makeMap ..=>.aK
 |.load _ a=>(match ev τ fr a with
  |I (.pointer (I ⟨id,_,Z⟩))=>.rd id
  |_=>Fe h lo)
 |.lookup t m _ b=>(match ev τ fr m with
  |I (.map (I r))=>bif b then .rd r else .lk r t
  |_=>Fe h lo)
 |.mapEntry t m _=>(match ev τ fr m with
  |I (.map (I r))=>Xb t r (Fe h lo)
  |_=>Fe h lo)
 |.convert _ _ x=>(match ev τ fr x with
  |I (.int _ _)|I (.string _)=>.aK
  |_=>Fe h lo)
 |.call {callee:=.builtin .len,args,..}=>(match O8 τ fr (aI args) with
  |I [.slice _ _ _]|I [.string _]=>.aK
  |_=>Fe h lo)
 |_=>Fe h lo
def Hi.C {b:Type} (e:Hi) (k:Hi->b):b:=Hi.rec (k .aK) (λa=>k (.rd a)) (λa t=>k (.lk a t)) (k .aD) (λs c=>k (.wr s c)) (k .bad) e
abbrev fw:=List (Nat×Hi×Nat×Nat)
def Lz (b:Bo) (i:Nat) (e:Hi) (a:fw):Bool:=e.ok&&a.all λ(j,c,nx,nx')=>!(MF e c nx nx')||Hy b i j
def QC (i:Nat) (e:Hi) (nx nx':Nat) (a:fw):fw:=
 match e with
 |.aK=>bif AD nx nx' then(i,.aK,nx,nx')::a else a
 |e=>(i,e,nx,nx')::a
def NG (t j:Nat):Nat->List C0->Bool
 |_,[]=>Ag
 |i,o::l=>(Am i j||(match o.dst with|I d=>!(Am d t)|Z=>Ag))&&NG t j (A3 i) l
def QI (AU:List C0):Option (Nat×Bool)->Bool
 |Z=>Ag
 |I (j,_)=>match AU[j]? with
  |I o=>(match o.dst with|I t=>NG t j 0 AU|Z=>Ah)
  |Z=>Ah
def MC (AU:List C0) (b:Bo) (k:Fr->Y->RR):List C0->Nat->fw->Fr->Y->RR
 |[],_,_,fr,h=>k fr h
 |
  o::l,i,c,fr,h=>bif QI AU o.guard then(match E5 fr AU o.guard with
  |some Ag=>(match F9 τ call fr h.ad o.op (λv J=>match fr.set o.dst v with|some a=>I [.aE a J]|none=>Z) (λ_ _=>Z) with
   |
    some [.aE a J]=>(CF τ fr o.op h J.lo).C λe=>
    bif Lz b i e c then MC AU b k l (A3 i) (QC i e h.a J.a c) a (h.M J) else Z
   |_=>Z)
  |some Ah=>(match fr.set o.dst (.tuple #[]) with|some a=>MC AU b k l (A3 i) c a h|none=>Z)
  |none=>Z) else Z
structure Kt where
 n:Fr->Y->RR
 x:Nat->Fr->Y->RR
 r:Fr->Y->RR
 p:Aa->Fr->Y->RR
def Nq (a:Kt->Fr->Y->RR):Nat->Kt->Fr->Y->RR
 |0,_,_,_=>Z
 |n+1,K,fr,h=>a {n:=λfr h=>Nq a n K fr h,x:=K.x,r:=K.r,p:=K.p} fr h
def T4 (ro:Option Nat) (AU:Array C0) (a:Bool) (K:Kt) (fr:Fr) (h:Y):RR:=
 match a with
 |Ah=>EX τ call ro (aI AU) K.p K.n (aI AU) fr h
 |Ag=>MC τ call (aI AU) (Df AU).toList K.n (aI AU) 0 [] fr h
def Vg (a b:Kt->Fr->Y->RR) (K:Kt) (fr:Fr) (h:Y):Option Aa->RR
 |I (.bool t)=>(match t with|Ag=>a K fr h|Ah=>b K fr h)
 |_=>Z
def HP (l:Nat) (K:Kt) (fr:Fr) (h:Y):RR:=
 match h.t.get l with
 |I (.loop st a b sz ps c e d)=>(match st with
  |.busy=>Z
  |_=>(match a with
   |Z=>K.n fr (h.put l (.loop .exhausted a b sz ps c e d))
   |some .ret=>K.r fr (h.put l (.loop .exhausted a b sz ps c e d))
   |I (.exit id)=>K.x id fr (h.put l (.loop .exhausted a b sz ps c e d))
   |_=>Z))
 |_=>Z
def U5 (a:Aa) (l:Nat) (h:Y) (k kp:Aa->Y->RR):RR:=
 match a with
 |.func (.func f) first cap=>(match τ.fn.get f with
  |I fn=>bif fn.body.isSome then call (.func f) (aI first++[.func (.yield l) #[] #[]]++aI cap) h k kp else Z
  |Z=>Z)
 |_=>Z
def Oo (ro:Option Nat) (ps:Array Tmp) (b c:DC) (K:Kt) (fr:Fr) (h:Y):Option Aa->RR
 |I e=>(match ro with
  |Z=>
   let l:=A3 h.a
   let J:=(h.new (.aq Ah)).new (.loop .ready Z fr.M fr.sz (aI ps) b c h.a)
   let f:Fr:=match fr with|⟨g,sz,ds⟩=>⟨g,sz,{target:=.collected h.a,args:=#[]}::ds⟩
   U5 τ call e l J (λ_ a=>HP l K f a) (λ_ _=>Z)
  |I i=>(match h.t.get i with
   |I (.loop _ _ _ _ _ _ _ d)=>
    U5 τ call e h.a (h.new (.loop .ready Z fr.M fr.sz (aI ps) b c d)) (λ_ a=>HP h.a K fr a) (λ_ _=>Z)
   |_=>Z))
 |Z=>Z
def B7 (L:Nat) (ro:Option Nat):DC->Kt->Fr->Y->RR
 |.skip,K,fr,h=>K.n fr h
 |.label _,K,fr,h=>K.n fr h
 |.region _ AU e,K,fr,h=>T4 τ call ro AU e K fr h
 |.seq a b,K,fr,h=>B7 L ro a {n:=λfr h=>B7 L ro b K fr h,x:=K.x,r:=K.r,p:=K.p} fr h
 |.cond c a b,K,fr,h=>Vg (B7 L ro a) (B7 L ro b) K fr h (ev τ fr c)
 |.block id c,K,fr,h=>B7 L ro c {n:=K.n,x:=λd fr h=>bif Am d id then K.n fr h else K.x d fr h,r:=K.r,p:=K.p} fr h
 |.loop c,K,fr,h=>Nq (B7 L ro c) L K fr h
 |.scope c,K,fr,h=>B7 L ro c K fr h
 |.rangeFunc f ps g i,K,fr,h=>Oo τ call ro ps g i K fr h (ev τ fr f)
 |.exit id,K,fr,h=>K.x id fr h
 |.ret,K,fr,h=>K.r fr h
 |_,_,_,_=>Z
def Ng (fr:Fr) (h:Y):List ResultVar->Option AH
 |[]=>I []
 |.tmp t::l=>(match fr.M.get t,Ng fr h l with|some v,I vs=>I (v::vs)|_,_=>Z)
 |
  .cell a t::l=>(match fr.M.get a with
  |some (.pointer (I ⟨id,off,Z⟩))=>(match Bw τ t h id off,Ng fr h l with|some v,I vs=>I (v::vs)|_,_=>Z)
  |_=>Z)
def Ff:AH->Aa
 |[v]=>v
 |vs=>.tuple ⟨vs⟩
def GA (a:AH) (n:Nat):Option Fr:=bif Ar (LT a) n then I ⟨T.laid a 0 .nil,n,[]⟩ else Z
def Iw (dv:Au->Option (AH->Y->Option Y)) (a:List ResultVar) (fr:Fr) (k:Aa->Y->RR):List Hh->Y->RR
 |[],h=>(match Ng τ fr h a with|some vs=>k (Ff vs) h|none=>Z)
 |
  {target:=.fn (.func f) cap,args}::ds,h=>(match dv f with
  |
   some g=>(match g (aI args++aI cap) h with
   |some J=>Iw dv a fr k ds J
   |none=>Z)
  |none=>Z)
 |
  {target:=.collected b,..}::ds,h=>(match h.t.get b with
  |some (.aq Ah)=>Iw dv a fr k ds (h.put b (.aq Ag))
  |_=>Z)
 |_::_,_=>Z
end
def MB (h:Y) (nx:Nat) (e:Ai) (b:Nat):Aa->Option (Nat×AH)
 |.slice Z 0 0=>I (0,[.pointer Z])
 |.slice (I a) len cap=>(match h.t.get a.block with
  |I (.cells c n el 0 0 _)=>bif Ar nx a.block&&Am el e&&Ar (a.off+cap*b) n&&Ar len cap then(match DV c (len*b) a.off with
   |I l=>bif l.all aJ then I (len,l) else Z
   |Z=>Z) else Z
  |_=>Z)
 |_=>Z
abbrev Lc:=Fr->Y->Option (Fr×Y)
def IC:DC->List DC
 |.seq a b=>IC a++IC b
 |c=>[c]
def Qq (τ:Bb) (call:Be) (L:Nat) (ro:Option Nat) (g:Nat->Option Lc):List DC->Nat->Kt->Fr->Y->RR
 |[],_,K,fr,h=>K.n fr h
 |c::l,i,K,fr,h=>match g i with
  |I x=>(match x fr h with|I (a,J)=>Qq τ call L ro g l (A3 i) K a J|Z=>Z)
  |Z=>B7 τ call L ro c {n:=λfr h=>Qq τ call L ro g l (A3 i) K fr h,x:=K.x,r:=K.r,p:=K.p} fr h
structure A9 where
 a:Au->Option (Be->AH->Y->Jl)
 M:Au->Option Ai
 b:Au->Option (AH->Y->Option Y)
 hk:Au->Option (Nat->Option Lc)
 c:Au->Option (AH->Aa->Y->Option Y)
def J3 (h:Y) (e:Ai):RR->Jl
 |I (.flat n l::rest)=>bif rest.all (λx=>match x with|.flat n' l'=>Am n' n&&Dv l l'|_=>Ah) then
  bif Am n 0 then(match l with|[.pointer Z]=>I (.slice Z 0 0,h)|_=>Z)
   else I (.slice (I ⟨h.a,0,Z⟩) n n,HY h e l) else Z
 |_=>Z
def Ss (τ:Bb) (S:A9) (call:Be) (L:Nat) (f:Au) (c:DC) (K:Kt) (fr:Fr) (h:Y):RR:=
 match S.hk f with
 |Z=>B7 τ call L Z c K fr h
 |I g=>Qq τ call L Z g (IC c) 0 K fr h
def TC (τ:Bb) (a:Au->Option (AH->Aa->Y->Option Y)) (b:List ResultVar) (k kp:Aa->Y->RR) (v:Aa) (fr:Fr) (h:Y):RR:=
 match fr.ds with
 |[]=>kp v h
 |[{target:=.fn (.func f) cap,args}]=>(match a f with
  |I g=>(match g (aI args++aI cap) v h with
   |I J=>(match Ng τ fr J b with|I vs=>k (Ff vs) J|Z=>Z)
   |Z=>Z)
  |Z=>Z)
 |_=>Z
def DY (τ:Bb) (S:A9) (call:Be) (L:Nat) (f:Au) (a:AH) (h:Y) (k kp:Aa->Y->RR):RR:=
 match τ.fn.get f with
 |Z=>Z
 |I fn=>match fn.body with
  |Z=>(match τ.ex.get f with
   |I e=>(match R6 τ e a h with|I (v,J)=>k v J|Z=>Z)
   |Z=>Z)
  |I c=>match GA a fn.ntmps with
   |I b=>Ss τ S call L f c (.mk (λfr h=>Iw τ S.b (aI fn.results) fr k fr.ds h) (λ_ _ _=>Z)
    (λfr h=>Iw τ S.b (aI fn.results) fr k fr.ds h) (TC τ S.c (aI fn.results) k kp)) b h
   |Z=>Z
def JY (sz:Nat):List Tmp->AH->T Aa->Option (T Aa)
 |[],[],t=>I t
 |p::ps,v::vs,t=>bif AD p sz then JY sz ps vs (t.ins p v) else Z
 |_,_,_=>Z
def IJ (h:Y) (l:Nat) (st:LoopState) (a:Option DC):Option Y:=
 match h.t.get l with
 |I (.loop _ _ b sz ps c e d)=>I (h.put l (.loop st a b sz ps c e d))
 |_=>Z
def Fy (l:Nat) (a:Option DC) (k:Aa->Y->RR) (fr:Fr) (h:Y):RR:=
 match fr.ds,IJ h l (match a with|Z=>.ready|I _=>.done) a with
 |[],I J=>k (.bool a.isNone) J
 |_,_=>Z
def Ll (τ:Bb) (call:Be) (L:Nat) (l:Nat) (b:AH) (h:Y) (k:Aa->Y->RR):RR:=
 match h.t.get l with
 |I (.loop _ _ tm sz ps c d _)=>(match JY sz ps b tm with
  |I e=>B7 τ call L (I l) c (.mk (λfr a=>
   (match fr.ds,a.t.get l with
    |[],I (.loop .ready Z _ _ _ _ _ _)=>(match IJ a l .busy Z with
     |I f=>B7 τ call L (I l) d (.mk (Fy l Z k) (λid=>Fy l (I (.exit id)) k) (Fy l (I .ret) k) (λ_ _ _=>Z)) fr f
     |Z=>Z)
    |_,_=>Z))
   (λ_ _ _=>Z) (λ_ _=>Z) (λ_ _ _=>Z)) {M:=e,sz:=sz,ds:=[]} h
  |Z=>Z)
 |_=>Z
def fB (τ:Bb) (S:A9) (a:(Aa->Y->RR)->RR) (f:Au) (h:Y):Jl:=
 match S.M f with
 |I e=>(match τ.b.get e with
  |I i=>J3 h e (a λv J=>bif J.lo.C h.a then(match MB J h.a e i.size v with|I (n,l)=>I [.flat n l]|Z=>Z) else Z)
  |Z=>Z)
 |Z=>Z
def B8 (τ:Bb) (S:A9) (L:Nat):Nat->Be
 |0=>λ_ _ _ _ _=>Z
 |n+1=>λfn a h k kp=>match fn with
  |.func f=>(match(match S.a f with|I g=>g (B8 τ S L n) a h|Z=>Z) with
   |I (v,J)=>k v J
   |Z=>match fB τ S (λk=>DY τ S (B8 τ S L n) L f a h.ad k (λ_ _=>Z)) f h with
    |I (v,J)=>k v J
    |Z=>DY τ S (B8 τ S L n) L f a h k kp)
  |.yield l=>Ll τ (B8 τ S L n) L l a h k
  |_=>Z
structure Pl where
 b:Nat
 o:Nat
 s:Nat
abbrev Ren:=Nat->Option Pl
inductive Yw (ρ:Ren):Fn->Fn->Prop
 |func (f):Yw ρ (.func f) (.func f)
 |yield {l pl}:ρ l=I pl->Yw ρ (.yield l) (.yield pl.b)
def Hl (sp:Option Nat) (pl:Pl):Nat:=if sp.isSome then 0 else pl.s
mutual
inductive VR (ρ:Ren):Aa->Aa->Prop
 |bool (b):VR ρ (.bool b) (.bool b)
 |int (k n):VR ρ (.int k n) (.int k n)
 |float (k n):VR ρ (.float k n) (.float k n)
 |complex (k n m):VR ρ (.complex k n m) (.complex k n m)
 |string (s):VR ρ (.string s) (.string s)
 |bn:VR ρ (.pointer Z) (.pointer Z)
 |ptr {id off pl}:ρ id=I pl->VR ρ (.pointer (I ⟨id,off,Z⟩)) (.pointer (I ⟨pl.b,pl.o+off,Z⟩))
 |az (l c):VR ρ (.slice Z l c) (.slice Z l c)
 |slice {id off sp len cap pl o'}:ρ id=I pl->(len+cap+Hl sp pl≠0->o'=pl.o+off)->
  VR ρ (.slice (I ⟨id,off,sp⟩) len cap) (.slice (I ⟨pl.b,o',Z⟩) len (cap+Hl sp pl))
 |bw:VR ρ (.map Z) (.map Z)
 |map {id pl}:ρ id=I pl->VR ρ (.map (I id)) (.map (I pl.b))
 |bj:VR ρ (.chan Z) (.chan Z)
 |func {fn fn' a a' c c'}:Yw ρ fn fn'->LR ρ a a'->LR ρ c c'->VR ρ (.func fn ⟨a⟩ ⟨c⟩) (.func fn' ⟨a'⟩ ⟨c'⟩)
 |nilFunc:VR ρ .nilFunc .nilFunc
 |iface {t v v'}:VR ρ v v'->VR ρ (.iface t v) (.iface t v')
 |nilIface:VR ρ .nilIface .nilIface
 |agg {l l'}:LR ρ l l'->VR ρ (.agg ⟨l⟩) (.agg ⟨l'⟩)
 |tuple {l l'}:LR ρ l l'->VR ρ (.tuple ⟨l⟩) (.tuple ⟨l'⟩)
inductive LR (ρ:Ren):AH->AH->Prop
 |nil:LR ρ [] []
 |cons {v v' l l'}:VR ρ v v'->LR ρ l l'->LR ρ (v::l) (v'::l')
end
def Ren.le (ρ a:Ren):Prop:=∀id pl,ρ id=I pl->a id=I pl
def Ren.le_refl (ρ:Ren):ρ.le ρ:=λ_ _ h=>h
def Yw.mono {ρ a:Ren} (h:ρ.le a) {f b} (r:Yw ρ f b):Yw a f b:=by
 cases r with
 |func f=>exact .func f
 |yield e=>exact .yield (h _ _ e)
mutual
def VR.mono {ρ d:Ren} (h:ρ.le d) {v g:Aa} (r:VR ρ v g):VR d v g:=
 match r with
 |.bool b=>.bool b
 |.int k n=>.int k n
 |.float k n=>.float k n
 |.complex k n m=>.complex k n m
 |.string s=>.string s
 |.bn=>.bn
 |.ptr e=>.ptr (h _ _ e)
 |.az l c=>.az l c
 |.slice e f=>.slice (h _ _ e) f
 |.bw=>.bw
 |.map e=>.map (h _ _ e)
 |.bj=>.bj
 |.func f a c=>.func (f.mono h) (LR.mono h a) (LR.mono h c)
 |.nilFunc=>.nilFunc
 |.iface r=>.iface (VR.mono h r)
 |.nilIface=>.nilIface
 |.agg l=>.agg (LR.mono h l)
 |.tuple l=>.tuple (LR.mono h l)
def LR.mono {ρ c:Ren} (h:ρ.le c) {l l':AH} (r:LR ρ l l'):LR c l l':=
 match r with
 |.nil=>.nil
 |.cons a b=>.cons (VR.mono h a) (LR.mono h b)
end
section
variable{ρ:Ren}
def LR.length:∀{l l':AH},LR ρ l l'->LT l=LT l'
 |_,_,.nil=>rfl
 |_,_,.cons _ h=>by simp[h.length]
def LR.get:∀{l l':AH},LR ρ l l'->∀{i:Nat} {v:Aa},l[i]?=I v->∃b,l'[i]?=I b/\VR ρ v b
 |_,_,.nil,i,v,h=>Jq
 |_,_,.cons a r,i,v,h=>by
  cases i with
  |zero=>simp at h;subst h;exact⟨_,B,a⟩
  |succ i=>simp at h;let⟨b,c,d⟩:=r.get h;exact⟨b,Jq,d⟩
def LR.append:∀{l l' m m':AH},LR ρ l l'->LR ρ m m'->LR ρ (l++m) (l'++m')
 |_,_,_,_,.nil,h=>h
 |_,_,_,_,.cons a r,h=>.cons a (r.append h)
def LR.take:∀{l l':AH} (n:Nat),LR ρ l l'->LR ρ (l.take n) (l'.take n)
 |_,_,0,_=>by simp;exact .nil
 |_,_,_+1,.nil=>by simp;exact .nil
 |_,_,n+1,.cons a r=>by simp;exact .cons a (r.take n)
def LR.drop:∀{l l':AH} (n:Nat),LR ρ l l'->LR ρ (l.drop n) (l'.drop n)
 |_,_,0,h=>Jq
 |_,_,_+1,.nil=>by simp;exact .nil
 |_,_,n+1,.cons a r=>by simp;exact r.drop n
def LR.set:∀{l l':AH} (i:Nat) {v b:Aa},LR ρ l l'->VR ρ v b->LR ρ (l.set i v) (l'.set i b)
 |_,_,_,_,_,.nil,_=>by simp;exact .nil
 |_,_,0,_,_,.cons _ r,h=>by simp;exact .cons h r
 |_,_,i+1,_,_,.cons a r,h=>by simp;exact .cons a (r.set i h)
def VR.cellsOf {v a:Aa} (h:VR ρ v a):LR ρ (AJ v) (aI a.cells):=by
 have b:=h;cases h<;>first
  |exact LR.cons b LR.nil
  |assumption
def VR.cP {v a:Aa} (h:VR ρ v a):a.oneCell'=one v:=by cases h<;>rfl
def LR.C:∀{l l':AH},LR ρ l l'->l.all one=Ag->∀u∈l',u.oneCell'=Ag
 |_,_,.nil,_,u,b=>by simp at b
 |
  _,_,.cons a r,h,u,b=>by
  simp only[Jh,An] at h;rcases List.mem_cons.1 b with rfl|b
  .rw[a.cP];exact h.1
  .exact r.C h.2 u b
def VR.C {v:Aa} (h:aJ v=Ag):VR ρ v v:=by
 unfold aJ at h;split at h<;>first
  |constructor
  |(simp at h;done)
def LR.ak:∀{l:AH},l.all aJ=Ag->LR ρ l l
 |[],_=>.nil
 |
  v::l,h=>by
  simp only[Jh,An] at h;exact .cons (VR.C h.1) (LR.ak h.2)
def VR.ak {v:Aa} (h:DG v=Ag):VR ρ v v:=by
 unfold DG at h;split at h
 .rename_i cs;let⟨l⟩:=cs;exact .agg (LR.ak h)
 .rename_i cs;let⟨l⟩:=cs;exact .tuple (LR.ak h)
 .exact .iface (VR.C h)
 .exact VR.C h
def VR.O {v a:Aa} (h:VR ρ v a) (b:aJ v=Ag):a=v:=by
 cases h<;>simp_all [aJ]
def LR.M:∀{l l':AH},LR ρ l l'->l.all aJ=Ag->l'=l
 |_,_,.nil,_=>rfl
 |
  _,_,.cons a r,h=>by
  simp only[Jh,An] at h;rw[a.O h.1,r.M h.2]
end
inductive ER (ρ:Ren):List Ap->List Ap->Prop
 |nil:ER ρ [] []
 |cons {e e' l l'}:VR ρ e.key e'.key->VR ρ e.val e'.val->e.born=e'.born->ER ρ l l'->ER ρ (e::l) (e'::l')
def ER.mono {ρ d:Ren} (h:ρ.le d):∀{l l':List Ap},ER ρ l l'->ER d l l'
 |_,_,.nil=>.nil
 |_,_,.cons a b c r=>.cons (a.mono h) (b.mono h) c (r.mono h)
def TR (ρ:Ren) (t:T Aa) (sz:Nat) (a:Array Aa):Prop:=sz=a.size/\∀i v,t.get i=I v->∃b,a[i]?=I b/\VR ρ v b
def TR.mono {ρ b:Ren} (h:ρ.le b) {t sz a} (r:TR ρ t sz a):TR b t sz a:=
 ⟨r.1,λi v e=>let⟨c,d,f⟩:=r.2 i v e;⟨c,d,f.mono h⟩⟩
def CR (P:AN):DC->Prop
 |.region _ AU d=>d=Ag->Region.ok P.types AU Ag=Ag
 |.seq a b=>CR P a/\CR P b
 |.cond _ a b=>CR P a/\CR P b
 |.rangeFunc _ _ a b=>CR P a/\CR P b
 |.block _ c=>CR P c
 |.loop c=>CR P c
 |.scope c=>CR P c
 |_=>True
def BR (P:AN) (ρ:Ren) (pl:Pl) (w:AM):HB->Prop
 |.cells c n e lo U x=>∃(C:Array Aa) (a:Nat×Nat),w.heap[pl.b]?=I (.cells C e a)/\pl.o+n<=C.size/\
  (∀i,P.info? e=I i->pl.o+n+pl.s*i.size<=C.size)/\
  (∀i v,c.get i=I v->i<n/\∃h,C[pl.o+i]?=I h/\VR ρ v h)/\
  (a.1=a.2\/(lo=1/\U=0/\C.size<=a.1)\/(pl.o+lo<=a.1/\(a.1<=a.2\/lo<U)/\a.2<=pl.o+U))/\(x=Ag->pl.o=0/\C.size=n)
 |.map es q=>∃j,w.heap[pl.b]?=I (.map j q)/\ER ρ es (aI j)
 |.str s r=>w.heap[pl.b]?=I (.stringIter s r)/\pl.o=0
 |.ay Z f seen g=>w.heap[pl.b]?=I (.mapIter Z f ⟨seen⟩ g)/\pl.o=0
 |.ay (I m) f seen g=>∃k,ρ m=I k/\w.heap[pl.b]?=I (.mapIter (I k.b) f ⟨seen⟩ g)/\pl.o=0
 |.loop st t u sz ps l o d=>∃L:Loop,w.heap[pl.b]?=I (.loop L)/\L.state=st/\L.pending=t/\aI L.params=ps/\L.assign=l/\L.body=o/\
  TR ρ u sz L.tmps/\CR P l/\CR P o/\∃p,ρ d=I p/\L.defers=p.b
 |.aq y=>w.heap[pl.b]?=I (.deferred (if y then Z else I []))
 |.dead=>True
def BR.mono {P:AN} {ρ q:Ren} (h:ρ.le q) {pl:Pl} {w w':AM} (f:w'.heap[pl.b]?=w.heap[pl.b]?) {hb:HB} (r:BR P ρ pl w hb):BR P q pl w' hb:=by
 cases hb with
 |cells c n e lo U x=>
  let⟨C,u,g,j,k,l,o,p⟩:=r;exact⟨C,u,f.trans g,j,k,λi v e=>let⟨a,y,b,c⟩:=l i v e;⟨a,y,b,c.mono h⟩,o,p⟩
 |map es N=>let⟨z,g,j⟩:=r;exact⟨z,f.trans g,j.mono h⟩
 |str s O=>exact⟨f.trans r.1,r.2⟩
 |ay m Q seen R=>
  cases m with
  |none=>exact⟨f.trans r.1,r.2⟩
  |some m=>let⟨A,g,j,k⟩:=r;exact⟨A,h _ _ g,f.trans j,k⟩
 |loop st S T sz ps V W d=>
  let⟨L,g,j,k,l,o,p,D,E,F,H,K,M⟩:=r;exact⟨L,f.trans g,j,k,l,o,p,D.mono h,E,F,H,h _ _ K,M⟩
 |aq t=>exact f.trans r
 |dead=>trivial
structure Sl (P:AN) (τ:Bb) (ρ:Ren) (H:Nat->Option HB) (nx:Nat) (w:AM):Prop where
 fresh:∀id,nx<=id->ρ id=Z
 hr:∀id pl hb,ρ id=I pl->H id=I hb->BR P ρ pl w hb
 b:∀id pl,ρ id=I pl->pl.b<w.heap.size
 ord:∀i j pi pj U,ρ i=I pi->ρ j=I pj->H i=I U->i<j->pi.b=pj.b->U.live=Ah
 a:∀g,g<τ.a->ρ g=I ⟨g,0,0⟩
def Sl.inj {P:AN} {τ:Bb} {ρ:Ren} {H:Nat->Option HB} {nx:Nat} {w:AM} (h:Sl P τ ρ H nx w):∀i j a c U e,ρ i=I a->ρ j=I c->H i=I U->H j=I e->U.live=Ag->e.live=Ag->a.b=c.b->i=j:=by
 intro i j a c U e f g m n k l hb;rcases FD i j with d|d|d
 .rw[h.ord i j a c U f g m d hb] at k;cases k
 .exact d
 .rw[h.ord j i c a e g f n d hb.symm] at l;cases l
structure Mj (ρ:Ren) (w:AM) (nx:Nat) (C2:Ren) (w':AM) (nx':Nat) (lo:WS):Prop where
 C:∀id,id<nx->C2 id=ρ id
 size:w.heap.size<=w'.heap.size
 O:∀b,b<w.heap.size->(∀id pl,lo.has id->ρ id=I pl->pl.b≠b)->w'.heap[b]?=w.heap[b]?
 new:∀id pl,nx<=id->C2 id=I pl->w.heap.size<=pl.b\/∃j pj,lo.has j/\ρ j=I pj/\pj.b=pl.b
 a:nx<=nx'
 os:w'.os=w.os
 out:w'.output=w.output
 tape:w'.tape=w.tape
 drawn:w.drawn<=w'.drawn
def Mj.refl (ρ:Ren) (w:AM) (nx:Nat) (lo:WS) (a:∀id,nx<=id->ρ id=Z):Mj ρ w nx ρ w nx lo:=
 ⟨λ_ _=>rfl,Ae _,λ_ _ _=>rfl,λid pl h e=>Jq,Ae _,B,B,B,Ae _⟩
def Mj.trans {ρ r s:Ren} {w k t:AM} {nx l u:Nat} {v m:WS} (a:Mj ρ w nx r k l v) (c:Mj r k l s t u m)
 (g:m<=v) (z:∀id,nx<=id->ρ id=Z):Mj ρ w nx s t u m:={
 C id h:=(c.C id (AC h a.a)).trans (a.C id h)
 size:=Ao a.size c.size
 O b hb n:=by
  have x:=a.O b hb λid pl o e=>n id pl (g _ o) e;rw[←x];refine c.O b (AC hb a.size) λid pl o e=>?_;rcases A8 id nx with f|f
  .rw[a.C id f] at e;exact n id pl o e
  .rcases a.new id pl f e with h|⟨j,pj,hj,ej,d⟩
   .omega
   .rw[←d];exact n j pj (g _ hj) ej
 new id pl f e:=by
  rcases A8 id l with p|p
  .rw[c.C id p] at e
   rcases a.new id pl f e with h|⟨j,pj,hj,ej,d⟩
   .exact .inl h
   .exact .inr ⟨j,pj,g _ hj,ej,d⟩
  .rcases c.new id pl p e with h|⟨j,pj,hj,ej,d⟩
   .exact .inl (Ao a.size h)
   .rcases A8 j nx with q|q
    .rw[a.C j q] at ej;exact .inr ⟨j,pj,hj,ej,d⟩
    .rcases a.new j pj q ej with h|⟨i,pi,U,ei,y⟩
     .exact .inl Jq
     .exact .inr ⟨i,pi,g _ U,ei,y.trans d⟩
 a:=Ao a.a c.a
 os:=c.os.trans a.os
 out:=c.out.trans a.out
 tape:=c.tape.trans a.tape
 drawn:=Ao a.drawn c.drawn}
def Mj.le {ρ b:Ren} {w w':AM} {nx nx':Nat} {lo:WS} (h:Mj ρ w nx b w' nx' lo) (c:∀id,nx<=id->ρ id=Z):ρ.le b:=λid pl e=>by
 rcases A8 id nx with a|a
 .rw[h.C id a];exact e
 .rw[c id a] at e;cases e
def AF (h J:Y):Prop:=h.a<=J.a/\J.lo<=h.lo/\∀id,id<h.a->¬J.lo.has id->J.t.get id=h.t.get id
def WS.le_refl (s:WS):s<=s:=λ_ h=>h
def WS.le_trans {a b c:WS} (h:a<=b) (J:b<=c):a<=c:=λi U=>h i (J i U)
def AF.refl (h:Y):AF h h:=⟨Ae _,WS.le_refl _,λ_ _ _=>rfl⟩
def AF.trans {h c d:Y} (a:AF h c) (b:AF c d):AF h d:=
 ⟨Ao a.1 b.1,WS.le_trans b.2.1 a.2.1,λid U e=>(b.2.2 id (AC U a.1) e).trans (a.2.2 id U λf=>e (b.2.1 _ f))⟩
def Lv (i j:Nat):Gg i j<=i/\Gg i j<=j:=by
 unfold Gg;cases e:Ar i j with
 |true=>have:=Ac e;simp;omega
 |false=>
  have:¬i<=j:=λa=>by rw[Aq a] at e;cases e
  simp;omega
def HT (b i:Nat):Gf (.one b) i=bif Am b i then .one b else bif Ar b i then .pair b i else .pair i b:=rfl
def Kr (lo i:Nat):Gf (.rest lo) i=bif Ar lo i then .rest lo else .pair i lo:=rfl
def FL (b lo i:Nat):Gf (.pair b lo) i=bif Am b i||Ar lo i then .pair b lo else bif Ar b i then .pair b i else .pair i (Gg b lo):=rfl
def Ke (i j:Nat):Lr (.one i) j=bif Ar j i then .rest j else .pair i j:=rfl
def G4 (s:WS) (i:Nat):Gf s i<=s/\(Gf s i).has i:=by
 cases s with
 |no=>exact⟨λ_ h=>h.elim,B⟩
 |one b=>
  rw[HT];cases e:Am b i with
  |true=>have:=Af e;subst this;exact⟨λ_ h=>h,B⟩
  |false=>
   cases a:Ar b i with
   |true=>exact⟨λ_ h=>Or.inl h,Or.inr (Ae i)⟩
   |false=>exact⟨λx h=>(Or.inr (A2 h.symm)),Or.inl B⟩
 |rest lo=>
  rw[Kr];cases a:Ar lo i with
  |true=>exact⟨λ_ h=>h,Ac a⟩
  |false=>exact⟨λ_ h=>Or.inr h,Or.inl B⟩
 |pair b lo=>
  rw[FL];cases e:(Am b i||Ar lo i) with
  |
   true=>
   refine⟨λ_ h=>h,?_⟩;rw[Dm] at e;rcases e with e|e
   .exact Or.inl (Af e).symm
   .exact Or.inr (Ac e)
  |
   false=>
   have c:Ar lo i=false:=by cases h:Ar lo i with
    |true=>rw[h,Bool.or_true] at e;cases e
    |false=>rfl
   have f:¬lo<=i:=λd=>by rw[Aq d] at c;cases c
   cases a:Ar b i with
   |true=>exact⟨λx h=>h.imp id λh=>G,Or.inr (Ae i)⟩
   |false=>exact⟨λx h=>Or.inr (by have:=Lv b lo;rcases h with h|h<;>omega),Or.inl B⟩
def Mb (s:WS) (j:Nat):Lr s j<=s/\∀x,j<=x->(Lr s j).has x:=by
 cases s with
 |no=>exact⟨λ_ h=>h.elim,λ_ h=>h⟩
 |one i=>
  rw[Ke];cases e:Ar j i with
  |true=>exact⟨λx h=>(by subst h;exact Ac e),λ_ h=>h⟩
  |false=>exact⟨λ_ h=>Or.inl h,λ_ h=>Or.inr h⟩
 |rest i=>exact⟨λx h=>Ao (Lv i j).1 h,λx h=>Ao (Lv i j).2 h⟩
 |pair b lo=>exact⟨λx h=>h.imp id λh=>Ao (Lv lo j).1 h,λx h=>Or.inr (Ao (Lv lo j).2 h)⟩
def Ahj (s a:WS):Pf s a<=s/\Pf s a<=a:=by
 cases a with
 |no=>exact⟨λ_ h=>h,λ_ h=>h.elim⟩
 |one i=>exact⟨(G4 s i).1,λx h=>h▸(G4 s i).2⟩
 |rest j=>exact⟨(Mb s j).1,(Mb s j).2⟩
 |pair b j=>exact⟨λx h=>(G4 _ b).1 x ((Mb s j).1 x h),λx h=>h.elim (λh=>h▸(G4 _ b).2) λh=>(G4 _ b).1 x ((Mb s j).2 x h)⟩
def GO {s:WS} {nx:Nat} (h:s.C nx=Ag) {id:Nat} (c:id<nx):¬s.has id:=by
 cases s with
 |no=>exact λh=>h
 |one b=>intro a;have a:id=b:=a;have:=Ac h;omega
 |rest lo=>intro a;have a:lo<=id:=a;have:=Ac h;omega
 |pair b lo=>
  intro a;have a:id=b\/lo<=id:=a;have h:(Ar nx b&&Ar nx lo)=true:=h;rw[An] at h;have d:=Ac h.1;have e:=Ac h.2;omega
def AF.put (h:Y) (i:Nat) (b:HB):AF h (h.put i b):=
 ⟨Ae _,(G4 _ _).1,λid _ a=>T.aP _ _ λe=>a (e▸(G4 h.lo i).2)⟩
def AF.new (h:Y) (b:HB):AF h (h.new b):=
 ⟨Yr _,WS.le_refl _,λid U _=>T.aP _ _ (Nat.ne_of_lt U)⟩
def AF.C (h:Y) (i:Nat) (b a:HB):AF h ((h.put i b).new a):=(AF.put h i b).trans (AF.new _ _)
def Lo (h:Y) (b:HB):(h.new b).lo=h.lo:=Jq
def Of (h:Y) (i:Nat) (b:HB):(h.put i b).lo=Gf h.lo i:=Jq
def qA (h J:Y):Prop:=J.lo=h.lo\/∃b hb,h.t.get b=I hb/\hb.live=Ag/\J.lo=Gf h.lo b
def AW (h J:Y):Prop:=AF h J/\qA h J
def AW.refl (h:Y):AW h h:=⟨AF.refl h,.inl B⟩
def AW.new (h:Y) (b:HB):AW h (h.new b):=⟨AF.new h b,.inl (Lo h b)⟩
def AW.put {h:Y} {i:Nat} {b hb:HB} (a:h.t.get i=I hb) (c:hb.live=Ag):AW h (h.put i b):=⟨AF.put h i b,.inr ⟨i,hb,a,c,Of h i b⟩⟩
def AW.C {h:Y} {i:Nat} {b a hb:HB} (c:h.t.get i=I hb) (d:hb.live=Ag):AW h ((h.put i b).new a):=⟨AF.C h i b a,.inr ⟨i,hb,c,d,Jq⟩⟩
def I6 {x:Aa×Y} {v:Aa} {h J:Y} (eu:I x=I (v,J)) (H:AW h x.2):AW h J:=by
 cases eu;exact H
def oW {x:Y} {h J:Y} (eu:I x=I J) (H:AW h x):AW h J:=by
 cases eu;exact H
def V6 {a:Type} {c:Bool} {x:Option a} {u:a} (h:(bif c then x else Z)=I u):x=I u:=by
 cases c with|true=>exact h|false=>cases h
def Ahk {a:Type} {c:Bool} {x:Option a} {u:a} (h:(bif c then Z else x)=I u):x=I u:=by
 cases c with|false=>exact h|true=>cases h
def XD {a:Type} {c:Bool} {x y:Option a} {u:a} (h:(bif c then x else y)=I u):x=I u\/y=I u:=by
 cases c with|false=>exact .inr h|true=>exact .inl h
def Aru {o:Option Aa} {v:Aa} {h J:Y} (eu:CN h o=I (v,J)):AW h J:=by
 cases o with
 |none=>cases eu
 |some x=>exact I6 eu (AW.refl _)
def Xy {o:Option Y} {v:Aa} {h J:Y} (eu:Nb o=I (v,J)) (H:∀J,o=I J->AW h J):AW h J:=by
 cases o with
 |none=>cases eu
 |some x=>exact I6 eu (H _ B)
def Tb {h J:Y} {id off:Nat} {vs:AH} (eu:Gi h id off vs=I J):AW h J:=by
 unfold Gi at eu;split at eu
 .exact oW (V6 eu) (AW.put (by assumption) B)
 .cases eu
def a0 {P:Prop} (h:P:=by first|(cases eu;done)|exact I6 eu (AW.refl _)|exact I6 eu (AW.new _ _)|exact I6 eu (AW.put (by assumption) rfl)|exact I6 eu (AW.C (by assumption) rfl)|exact oW eu (AW.refl _)|exact oW eu (AW.put (by assumption) rfl)|exact I6 eu (Tb (by assumption))|exact Tb eu):P:=h
def ax {P:Prop} (h:P:=by repeat' first|exact a0|(rcases XD eu with eu|eu)|split at eu):P:=h
def Wt {τ:Bb} {t:Ai} {h J:Y} {id off:Nat} {v:Aa} (eu:BA τ t h id off v=I J):AW h J:=by
 unfold BA at eu;exact ax
section
variable{τ:Bb} {t:Ai} {ts:List Ai} {vs:AH} {v x y m k:Aa} {h J:Y}
def Ahp {s d:Ai} (eu:Ea τ s d x h=I (v,J)):AW h J:=by
 unfold Ea at eu;exact ax
def R9 (eu:Dk τ t x y h=I (v,J)):AW h J:=by
 unfold Dk at eu;exact ax
def XT (eu:Gj τ ts vs h=I (v,J)):AW h J:=by
 unfold Gj at eu;exact ax
def Ahn (eu:U8 τ ts vs h=I (v,J)):AW h J:=by
 unfold U8 at eu;exact ax
def Z2 (eu:QQ τ ts vs h=I J):AW h J:=by
 unfold QQ at eu;exact ax
def XL (eu:II τ ts vs h=I J):AW h J:=by
 unfold II at eu;exact ax
def O1 (eu:EP τ ts vs h=I (v,J)):AW h J:=by
 unfold EP at eu;exact ax
def Sd (eu:BH τ t m k x h=I J):AW h J:=by
 unfold BH at eu;exact ax
def UD (eu:D6 τ t m k h=I (v,J)):AW h J:=by
 unfold D6 at eu;exact ax
def RI (eu:DM m k x h=I J):AW h J:=by
 unfold DM at eu;exact ax
def Aak (eu:Gh τ t x h=I (v,J)):AW h J:=by
 unfold Gh at eu;exact ax
def RH {n:Nat} {ps:List (Nat×Aa)} (eu:Bs τ t n ps h=I (v,J)):AW h J:=by
 unfold Bs at eu;exact ax
def Ako {e:KS} (eu:R6 τ e vs h=I (v,J)):AW h J:=by
 unfold R6 at eu;exact ax
def Wm (eu:LA τ ts vs h=I (v,J)):AW h J:=by
 unfold LA at eu;exact ax
def V4 {b:Aa} {s:Bool} {l:List (Aa×Y)} (eu:FT b s h=I l):∀v J,(v,J)∈l->AW h J:=by
 intro v J a;unfold FT at eu;split at eu
 case h_2=>cases eu
 split at eu
 .rcases XD eu with eu|eu
  .cases eu;cases List.mem_singleton.1 a;exact AW.put (by assumption) B
  .cases eu;cases List.mem_singleton.1 a;exact AW.refl _
 .cases eu;cases List.mem_singleton.1 a;exact AW.refl _
 .split at eu
  case h_2=>cases eu
  replace eu:=Ahk eu;replace eu:=V6 eu;split at eu
  .cases eu;cases List.mem_singleton.1 a;exact AW.refl _
  .cases eu
   let⟨e,_,c⟩:=List.mem_map.1 a;cases c;exact AW.put (by assumption) B
 .cases eu
def Pj {b:Builtin} (eu:Bx τ b ts vs h=I (v,J)):AW h J:=by
 cases b<;>simp only[Bx] at eu<;>repeat' first|exact Wm eu|exact O1 eu|exact Ahn eu|exact a0|exact I6 eu (XT (by assumption))|exact I6 eu (Z2 (by assumption))|exact I6 eu (XL (by assumption))|split at eu
def Zr {fr:Fr} {o:Op} (eu:Ch τ fr h o=I (v,J)):AW h J:=by
 unfold Ch iH at eu
 repeat' first|exact Aru eu|exact a0|exact RH eu|exact Xy eu λ_=>Wt|exact Ahp eu|exact R9 eu|exact Xy eu λ_=>Sd|exact UD eu|exact Xy eu λ_=>RI|exact Aak eu|split at eu
end
abbrev KV:=Aa->Y->RR
structure Cx where
 τ:Bb
 call:Be
 L:Nat
 ro:Option Nat
abbrev Xi:=Bb->Fr->(Aa->RR)->RR
def zN (t:Tmp):Xi:=λ_ fr k=>Jc Z k (fr.M.get t)
def R0 (v:Aa):Xi:=λ_ _ k=>B1 Z (k v) (DG v)
def zG (g:Nat):Xi:=λτ _ k=>B1 Z (k (AG g 0)) (AD g τ.a)
def Nm (f:Au):Xi:=λ_ _ k=>k (.func (.func f) #[] #[])
def RN (x:BU):Xi:=Operand.rec zN R0 zG Nm x
abbrev Nk:=Cx->Fr->Y->KV->KV->RR
def UU (h:Y) (k:KV) (o:Option Aa):RR:=Jc Z (λv=>k v h) o
def sX (k:KV) (r:Jl):RR:=Jc Z (λp=>Prod.rec k p) r
def C6 (o:Op):Nk:=λX fr h k kp=>F9 X.τ X.call fr h o k kp
def oJ (x:BU):Nk:=λX fr h k _=>RN x X.τ fr (λv=>k v h)
def tM (k:Bool->RR) (v:Aa):RR:=match v with|.bool b=>k b|_=>Z
def uu (c a b:BU):Nk:=λX fr h k _=>RN c X.τ fr (tM (λt=>B1 (RN b) (RN a) t X.τ fr (λv=>k v h)))
def na (k:Nat->Nat->RR) (v:Aa):RR:=match v with|.pointer (I ⟨id,off,Z⟩)=>k id off|_=>Z
def ul (t:Ai) (a:BU):Nk:=λX fr h k _=>RN a X.τ fr (na λid off=>UU h k (Bw X.τ t h id off))
def ti (op:CT) (t:Ai) (x y:BU) (_:Ai):Nk:=λX fr h k _=>RN x X.τ fr λa=>RN y X.τ fr λb=>UU h k (Jo X.τ op t x y a b)
def pq (op:UnOp) (_:Ai) (x:BU):Nk:=λX fr h k _=>RN x X.τ fr λa=>UU h k (fV op a)
def uF (s d:Ai) (x:BU):Nk:=λX fr h k _=>RN x X.τ fr λa=>sX k (Ea X.τ s d a h)
def RA (s:Ai) (x:BU) (f:Nat):Nk:=λX fr h k _=>RN x X.τ fr λa=>UU h k (GM X.τ s a f)
def Rt (t:Ai) (x i:BU):Nk:=λX fr h k _=>RN x X.τ fr λa=>RN i X.τ fr λb=>UU h k (EE X.τ t a b)
def vr (t:Ai) (x i:BU):Nk:=λX fr h k _=>RN x X.τ fr λa=>RN i X.τ fr λb=>UU h k (I8 X.τ t a b)
def te (h:Y) (k:KV) (i:Nat) (v:Aa):RR:=match v with|.tuple vs=>UU h k vs.toList[i]?|_=>Z
def VP (x:BU) (i:Nat):Nk:=λX fr h k _=>RN x X.τ fr (te h k i)
def vo (k:KV) (o:Option Y):RR:=Jc Z (λJ=>k (.tuple #[]) J) o
def vk (t:Ai) (a x:BU):Nk:=λX fr h k _=>RN a X.τ fr (na λid off=>RN x X.τ fr λv=>vo k (BA X.τ t h id off v))
def U4 (o:Op):Nk:=
 Op.rec oJ oJ uu (λe=>C6 (.alloc e)) (λe v=>C6 (.box e v)) (λt ps=>C6 (.build t ps)) (λt n ps=>C6 (.buildSlice t n ps))
  (λt m k v=>C6 (.insert t m k v)) ul vk (λg=>C6 (.ready g)) (λg=>C6 (.waits g)) (λx=>C6 (.nilCheck x)) ti pq uF
  (λd x=>C6 (.sliceToArrayPointer d x)) (λt x=>C6 (.makeInterface t x)) (λf a b=>C6 (.makeFunc f a b)) (λt r=>C6 (.makeMap t r)) (λt s=>C6 (.makeChan t s))
  (λt l c=>C6 (.makeSlice t l c)) (λt x l h m=>C6 (.slice t x l h m)) RA (λt x f=>C6 (.field t x f)) Rt vr
  (λt x i j=>C6 (.lookup t x i j)) (λt m k v=>C6 (.mapUpdate t m k v)) (λt m k=>C6 (.mapEntry t m k)) (λt m s v=>C6 (.entryStore t m s v)) (λt x=>C6 (.range t x))
  (λi s=>C6 (.next i s)) (λi=>C6 (.entry i)) (λx t a j=>C6 (.typeAssert x t a j)) VP (λc=>C6 (.call c)) (λc=>C6 (.go c)) (λc=>C6 (.defer c)) (λx=>C6 (.panic x))
  (λc x=>C6 (.send c x)) (λt c j=>C6 (.recv t c j)) (λcs b=>C6 (.select cs b)) o
def AEu (k:Fr->Y->RR) (t:Tmp) (v:Aa) (h:Y) (a:T Aa) (sz:Nat) (ds:List Hh):RR:=
 B1 Z (k ⟨a.ins t v,sz,ds⟩ h) (AD t sz)
def ADo (fr:Fr) (k:Fr->Y->RR) (t:Tmp):KV:=λv h=>Fr.rec (AEu k t v h) fr
def kr (fr:Fr) (k:Fr->Y->RR) (d:Option Tmp):KV:=Jc (λ_ h=>k fr h) (ADo fr k) d
def TZ:Op->Bool
 |.defer _=>Ag
 |_=>Ah
abbrev Nn:=List C0->Cx->Kt->Fr->Y->RR
def Aug:Nn:=λ_ _ K fr h=>K.n fr h
def Vm (op:Op) (b:Option Tmp) (o:C0) (a:Nn):Nn:=λAU X K fr h=>
 B1 (U4 op X fr h (kr fr (a AU X K) b) (λv J=>K.p v fr J))
  (IB X.τ X.call X.ro fr h o (a AU X K) (λv J=>K.p v fr J)) (TZ op)
def Amj (o:C0) (_:List C0) (a:Nn):Nn:=Oper.rec (λb op _ _ _ g=>
 Jc (Vm op b o a)
  (λg=>λAU X K fr h=>match E5 fr AU (I g) with
   |I Ag=>Vm op b o a AU X K fr h
   |I Ah=>(match fr.set b (.tuple #[]) with|I c=>a AU X K c h|Z=>Z)
   |Z=>Z) g) o
def RU (l:List C0):Nn:=Hg Aug Amj l
abbrev D4:=Cx->Kt->Fr->Y->RR
def uh:D4:=λ_ K fr h=>K.n fr h
def Amk (_:Nat) (AU:Array C0) (a:Bool):D4:=
 B1 (RU (aI AU) (aI AU)) (λX K fr h=>MC X.τ X.call (aI AU) (Df AU).toList K.n (aI AU) 0 [] fr h) a
def oL (n:Fr->Y->RR) (K:Kt):Kt:=Kt.rec (λ_ x r p=>⟨n,x,r,p⟩) K
def ABc (_ _:DC) (a b:D4):D4:=λX K=>a X (oL (b X K) K)
def tW (a b:Fr->Y->RR) (fr:Fr) (h:Y) (v:Aa):RR:=match v with|.bool t=>B1 b a t fr h|_=>Z
def zS (c:BU) (_ _:DC) (a b:D4):D4:=λX K fr h=>RN c X.τ fr (tW (a X K) (b X K) fr h)
def Ara (id:Nat) (_:DC) (b:D4):D4:=λX K=>b X (Kt.rec (λn x r p=>⟨n,λa=>B1 (x a) n (Am a id),r,p⟩) K)
def Vv (a:Kt->Fr->Y->RR) (n:Nat):Kt->Fr->Y->RR:=
 UE (λ_ _ _=>Z) (λ_ b K=>a (oL (b K) K)) n
def RZ (_:DC) (a:D4):D4:=λX K=>Vv (a X) X.L K
def Arw (f:BU) (ps:Array Tmp) (a b:DC) (_ _:D4):D4:=λX K fr h=>Oo X.τ X.call X.ro ps a b K fr h (ev X.τ fr f)
def zQ (id:Nat):D4:=λ_ K=>K.x id
def Aud (_:DC) (a:D4):D4:=a
def Aqy (_:Nat):D4:=uh
def zR (_:Nat):D4:=λ_ _ _ _=>Z
def ACw:D4:=λ_ K=>K.r
def Amp (_:String):D4:=λ_ _ _ _=>Z
def KN (c:DC):D4:=Code.rec uh Amk ABc zS Ara RZ Arw zQ Aud Aqy zR ACw Amp c
def U3 (τ:Bb) (b:Be) (L:Nat) (g:Nat->Option Lc) (l:List DC):Nat->Kt->Fr->Y->RR:=
 Hg (λ_ K fr h=>K.n fr h) (λc _ a i K fr h=>match g i with
  |I x=>(match x fr h with|I (d,J)=>a (A3 i) K d J|Z=>Z)
  |Z=>KN c ⟨τ,b,L,Z⟩ {n:=λfr h=>a (A3 i) K fr h,x:=K.x,r:=K.r,p:=K.p} fr h) l
def vI (τ:Bb) (S:A9) (a:Be) (L:Nat) (f:Au) (c:DC) (K:Kt) (fr:Fr) (h:Y):RR:=
 match S.hk f with
 |Z=>KN c ⟨τ,a,L,Z⟩ K fr h
 |I g=>U3 τ a L g (IC c) 0 K fr h
def JC (τ:Bb) (S:A9) (b:Be) (L:Nat) (f:Au) (a:AH) (h:Y) (k kp:KV):RR:=
 match τ.fn.get f with
 |Z=>Z
 |I fn=>match fn.body with
  |Z=>(match τ.ex.get f with
   |I e=>(match R6 τ e a h with|I (v,J)=>k v J|Z=>Z)
   |Z=>Z)
  |I c=>match GA a fn.ntmps with
   |I d=>vI τ S b L f c (.mk (λfr h=>Iw τ S.b (aI fn.results) fr k fr.ds h) (λ_ _ _=>Z)
    (λfr h=>Iw τ S.b (aI fn.results) fr k fr.ds h) (TC τ S.c (aI fn.results) k kp)) d h
   |Z=>Z
def QJ (τ:Bb) (S:A9) (L:Nat) (n:Nat):Be:=UE (λ_ _ _ _ _=>Z) (λ_ a=>λfn b h k kp=>match fn with
 |.func f=>(match(match S.a f with|I g=>g a b h|Z=>Z) with
  |I (v,J)=>k v J
  |Z=>match fB τ S (λk=>JC τ S a L f b h.ad k (λ_ _=>Z)) f h with
   |I (v,J)=>k v J
   |Z=>JC τ S a L f b h k kp)
 |.yield l=>Ll τ a L l b h k
 |_=>Z) n
section
variable{τ:Bb} {call:Be}
def TQ (x:BU) (τ:Bb) (fr:Fr) (k:Aa->RR):RN x τ fr k=(match ev τ fr x with|some v=>k v|none=>Z):=by
 cases x with
 |tmp t=>
  show Jc Z k (fr.M.get t)=(match fr.M.get t with|I v=>k v|Z=>Z)
  cases fr.M.get t<;>rfl
 |const v=>
  show B1 Z (k v) (DG v)=(match(bif DG v then I v else Z) with|I v=>k v|Z=>Z)
  cases DG v<;>rfl
 |global g=>
  show B1 Z (k (AG g 0)) (AD g τ.a)=(match(bif AD g τ.a then I (AG g 0) else Z) with|I v=>k v|Z=>Z)
  cases AD g τ.a<;>rfl
 |func f=>rfl
def Amq (h:Y) (k:KV) (o:Option Aa):UU h k o=(match CN h o with|some (v,J)=>k v J|none=>Z):=by cases o<;>rfl
def Ali (k:KV) (r:Jl):sX k r=(match r with|some (v,J)=>k v J|none=>Z):=by
 cases r with
 |none=>rfl
 |some p=>cases p;rfl
def Z1 (k:KV) (o:Option Y):vo k o=(match Nb o with|some (v,J)=>k v J|none=>Z):=by cases o<;>rfl
def Aht (o:Op) (X:Cx) (fr:Fr) (h:Y) (k kp:KV):U4 o X fr h k kp=F9 X.τ X.call fr h o k kp:=by
 cases o<;>first|rfl|(
  dsimp only[U4,oJ,uu,ul,vk,ti,pq,uF,RA,Rt,vr,VP,F9,Ch,iH];rw[TQ];split<;>first|rfl|skip
  all_goals simp only[*,na,tM,te,TQ,Amq,Ali,Z1]
  all_goals repeat' first|rfl|(cases ‹Bool›)|(change RN _ _ _ _=_;rw[TQ])|split|(simp_all[CN];done))
def Amf (fr:Fr) (k:Fr->Y->RR) (d:Option Tmp):kr fr k d=λv h=>(match fr.set d v with|some a=>k a h|none=>Z):=by
 funext v h;cases d with
 |none=>rfl
 |some t=>
  let⟨b,sz,ds⟩:=fr;show B1 Z (k ⟨b.ins t v,sz,ds⟩ h) (AD t sz)=(match(bif AD t sz then I (⟨b.ins t v,sz,ds⟩) else Z) with|I a=>k a h|Z=>Z)
  cases AD t sz<;>rfl
def Y3 (X:Cx) (K:Kt):∀(l AU:List C0) (fr:Fr) (h:Y),RU l AU X K fr h=EX X.τ X.call X.ro AU K.p K.n l fr h
 |[],AU,fr,h=>rfl
 |
  o::l,AU,fr,h=>by
  have e:=Y3 X K l AU;have f:∀fr h,Vm o.op o.dst o (RU l) AU X K fr h=IB X.τ X.call X.ro fr h o (λa J=>EX X.τ X.call X.ro AU K.p K.n l a J) (λv J=>K.p v fr J):=by
   intro fr h;have j:(RU l AU X K)=λa J=>EX X.τ X.call X.ro AU K.p K.n l a J:=by funext a J;exact e a J
   show B1 (motive:=λ_=>RR) (U4 o.op X fr h (kr fr (RU l AU X K) o.dst) (λv J=>K.p v fr J)) (IB X.τ X.call X.ro fr h o (RU l AU X K) (λv J=>K.p v fr J)) (TZ o.op)=_;rw[j];cases i:TZ o.op with
   |true=>rfl
   |
    false=>
    show U4 o.op X fr h (kr fr _ o.dst) _=_;rw[Aht,Amf];unfold IB;split
    .rename_i c k;rw[k] at i;cases i
    .rfl
  obtain⟨d,op,ty,m,q,r⟩:=o;cases r with
  |
   none=>
   show Vm op d _ (RU l) AU X K fr h=_;rw[f];rfl
  |some g=>
   show(match E5 fr AU (I g) with
    |I Ag=>Vm op d _ (RU l) AU X K fr h
    |I Ah=>(match fr.set d (.tuple #[]) with|I a=>RU l AU X K a h|Z=>Z)
    |Z=>Z)=_
   simp only[EX];cases E5 fr AU (I g) with
   |none=>rfl
   |some b=>
    cases b with
    |true=>simp only[];rw[f]
    |false=>
     simp only[];cases fr.set d (.tuple #[]) with
     |none=>rfl
     |some a=>exact e a h
def Wh (a:Kt->Fr->Y->RR):∀(n:Nat) (K:Kt) (fr:Fr) (h:Y),Vv a n K fr h=Nq a n K fr h
 |0,K,fr,h=>rfl
 |n+1,K,fr,h=>by
  let⟨c,k2,k3,b⟩:=K;show a {n:=Vv a n ⟨c,k2,k3,b⟩,x:=k2,r:=k3,p:=b} fr h=a {n:=λfr h=>Nq a n ⟨c,k2,k3,b⟩ fr h,x:=k2,r:=k3,p:=b} fr h;have:Vv a n ⟨c,k2,k3,b⟩=λfr h=>Nq a n ⟨c,k2,k3,b⟩ fr h:=by funext fr h;exact Wh a n _ fr h
  rw[this]
def VV:∀(c:DC) (X:Cx) (K:Kt) (fr:Fr) (h:Y),KN c X K fr h=B7 X.τ X.call X.L X.ro c K fr h:=by
 intro c
 induction c with
 |skip=>intro X K fr h;rfl
 |label l=>intro X K fr h;rfl
 |exit id=>intro X K fr h;rfl
 |ret=>intro X K fr h;rfl
 |goto l=>intro X K fr h;rfl
 |refuse s=>intro X K fr h;rfl
 |region id AU j=>
  intro X K fr h;cases j with
  |false=>
   show RU (aI AU) (aI AU) X K fr h=_;rw[Y3];rfl
  |true=>rfl
 |seq x y d e=>
  intro X K fr h;show KN x X (oL (KN y X K) K) fr h=_;have:KN y X K=λfr h=>B7 X.τ X.call X.L X.ro y K fr h:=Jq
  rw[d,this];let⟨n,g,r,p⟩:=K;rfl
 |cond i x y d e=>
  intro X K fr h;show RN i X.τ fr (tW (KN x X K) (KN y X K) fr h)=Vg (B7 X.τ X.call X.L X.ro x) (B7 X.τ X.call X.L X.ro y) K fr h (ev X.τ fr i);rw[TQ];cases ev X.τ fr i with
  |none=>rfl
  |some v=>
   cases v<;>first
    |rfl
    |skip
   rename_i t;cases t with
   |true=>exact d X K fr h
   |false=>exact e X K fr h
 |block id c b=>
  intro X K fr h;let⟨n,g,r,p⟩:=K;show KN c X ⟨n,λa=>B1 (g a) n (Am a id),r,p⟩ fr h=B7 X.τ X.call X.L X.ro c {n:=n,x:=λa fr h=>bif Am a id then n fr h else g a fr h,r:=r,p:=p} fr h
  rw[b];congr 2;funext a fr h;cases Am a id<;>rfl
 |loop c b=>
  intro X K fr h;show Vv (KN c X) X.L K fr h=Nq (B7 X.τ X.call X.L X.ro c) X.L K fr h;have k:KN c X=B7 X.τ X.call X.L X.ro c:=Jq
  rw[k];exact Wh _ _ K fr h
 |rangeFunc f ps m o _ _=>intro X K fr h;rfl
 |scope c b=>intro X K fr h;exact b X K fr h
def Wf (L:Nat) (g:Nat->Option Lc):∀(l:List DC) (i:Nat) (K:Kt) (fr:Fr) (h:Y),U3 τ call L g l i K fr h=Qq τ call L Z g l i K fr h
 |[],i,K,fr,h=>rfl
 |
  c::l,i,K,fr,h=>by
  have a:=Wf L g l;show(match g i with
   |some x=>(match x fr h with|some (b,J)=>U3 τ call L g l (A3 i) K b J|none=>Z)
   |none=>KN c ⟨τ,call,L,Z⟩ {n:=λfr h=>U3 τ call L g l (A3 i) K fr h,x:=K.x,r:=K.r,p:=K.p} fr h)=_
  simp only[Qq];cases g i with
  |
   some x=>
   simp only[];cases x fr h with
   |none=>rfl
   |some p=>exact a _ K p.1 p.2
  |
   none=>
   simp only[];rw[VV];have:(λfr h=>U3 τ call L g l (A3 i) K fr h)=λfr h=>Qq τ call L Z g l (A3 i) K fr h:=by funext fr h;exact a _ K fr h
   rw[this]
def WL (S:A9) (L:Nat) (f:Au) (a:AH) (h:Y) (k kp:KV):JC τ S call L f a h k kp=DY τ S call L f a h k kp:=by
 unfold JC DY;cases τ.fn.get f with
 |none=>rfl
 |some fn=>
  simp only[];cases fn.body with
  |none=>rfl
  |some c=>
   simp only[];cases GA a fn.ntmps with
   |none=>rfl
   |some b=>
    simp only[];unfold vI Ss;cases S.hk f with
    |none=>simp only[];rw[VV]
    |some g=>simp only[];rw[Wf]
def Aig (S:A9) (L:Nat):∀n,QJ τ S L n=B8 τ S L n:=by
 intro n
 induction n with
 |zero=>funext fn a h k kp;rfl
 |succ n b=>
  funext fn a h k kp;cases fn<;>first
   |rfl
   |skip
  .rename_i f
   show(match(match S.a f with|I g=>g (QJ τ S L n) a h|Z=>Z) with
    |I (v,J)=>k v J
    |Z=>match fB τ S (λk=>JC τ S (QJ τ S L n) L f a h.ad k (λ_ _=>Z)) f h with
     |I (v,J)=>k v J
     |Z=>JC τ S (QJ τ S L n) L f a h k kp)=_
   rw[b];simp only[WL];rfl
  .rename_i l
   show Ll τ (QJ τ S L n) L l a h k=Ll τ (B8 τ S L n) L l a h k;rw[b]
end
variable {a:Type} {k k':Cq} {n x y:Nat} {u:Aa} {op:CT} {t:Ai}
def HH {d e:Type} (f:d->e) {l:List e} {m:List d} (h:l.Perm (m.map f)):∃m':List d,l=m'.map f/\m'.Perm m:=by
 have u:∀{l g:List e},l.Perm g->∀m:List d,g=m.map f->∃m':List d,l=m'.map f/\m'.Perm m:=by
  intro l g k
  induction k with
  |nil=>intro m c;cases m with
   |nil=>exact⟨[],B,.refl _⟩
   |cons a m=>cases c
  |cons x _ n=>
   intro m c;cases m with
   |nil=>cases c
   |cons a m=>
    simp only[Bp,List.cons.injEq] at c;let⟨m',i,j⟩:=n m c.2;exact⟨a::m',Jq,j.cons a⟩
  |swap x y l=>
   intro m c;cases m with
   |nil=>cases c
   |cons a m=>
    cases m with
    |nil=>cases c
    |cons b m=>
     simp only[Bp,List.cons.injEq] at c;exact⟨b::a::m,Jq,.swap a b m⟩
  |trans _ _ o p=>
   intro m c;let⟨q,i,j⟩:=p m c;let⟨r,s,t⟩:=o q i;exact⟨r,s,t.trans j⟩
 exact u h m rfl
def Nd (d:Be) (g:Au) (nx:Nat) (a b:AH):Option Int:=
 match d (.func g) [.agg ⟨a⟩,.agg ⟨b⟩] ⟨.nil,nx,.no⟩ (λv h=>I [.val v h]) (λ_ _=>Z) with
 |I [.val (.int .i64 c) J]=>bif J.lo.C nx then I c else Z
 |_=>Z
def Nr:Int->Bool
 |.negSucc _=>Ag
 |_=>Ah
def GJ {c:Int}:Nr c=Ag↔c<0:=by
 cases c with
 |ofNat n=>simp[Nr]
 |negSucc n=>simp[Nr]
def Xk (a:AH->AH->Option Int) (x:AH):List AH->Option (List AH)
 |[]=>I [x]
 |y::l=>match a x y with
  |I c=>bif Nr c then I (x::y::l) else(match Xk a x l with|I l'=>I (y::l')|Z=>Z)
  |Z=>Z
def Pc (a:AH->AH->Option Int):List AH->Option (List AH)
 |[]=>I []
 |x::l=>match Pc a l with
  |I l'=>Xk a x l'
  |Z=>Z
def Ot (a:AH->AH->Option Int) (x:AH):List AH->Bool
 |[]=>Ag
 |y::l=>match a x y,a y x with
  |I c,I d=>Nr c&&!Nr d&&Ot a x l
  |_,_=>Ah
def MQ (a:AH->AH->Option Int):List AH->Bool
 |[]=>Ag
 |x::l=>(match a x x with|I c=>!Nr c|Z=>Ah)&&Ot a x l&&MQ a l
def EV (τ:Bb) (g:Au):Bool:=match τ.fn.get g with|I fn=>fn.body.isSome|Z=>Ah
def HF (k:Nat) (c:T Aa):Nat->Nat->Option (List AH)
 |_,0=>I []
 |off,n+1=>(match DV c k off,HF k c (off+k) n with|I g,I l=>I (g::l)|_,_=>Z)
def IA (τ:Bb) (e:Ai) (a:Be) (f:AH) (h:Y):Jl:=
 match f with
 |[.slice _ 0 _,_]=>I (.tuple #[],h)
 |[.slice (I ⟨id,0,Z⟩) len _,.func (.func g) ⟨[]⟩ ⟨[]⟩]=>(match h.t.get id,τ.b.get e with
  |I (.cells c n j 0 0 x),I i=>(match HF i.size c 0 len with
   |I b=>bif b.all (λg=>g.all aJ)&&Ar (len*i.size) n&&Am j e&&AD 0 len&&Ar len 1000000&&EV τ g then
    (match Pc (Nd a g h.a) b with
    |I d=>bif MQ (Nd a g h.a) d then I (.tuple #[],h.put id (.cells (T.laid d.flatten 0 c) n e 0 0 x)) else Z
    |Z=>Z) else Z
   |Z=>Z)
  |_,_=>Z)
 |_=>Z
def Fc (a:Nat):Nat->List Ap->Bool
 |_,[]=>Ag
 |lo,e::l=>Ar lo e.born&&AD e.born a&&Fc a (A3 e.born) l
def T.del:T a->Nat->T a
 |.nil,_=>.nil
 |.node l _ r,0=>.node l Z r
 |.node l v r,j+1=>if j%2=0 then .node (l.del (j/2)) v r else .node l v (r.del (j/2))
def T.bA {a:Type}:∀(t:T a) (i j:Nat),(t.del i).get j=if j=i then Z else t.get j
 |.nil,i,j=>by simp[T.del,T.C]
 |.node l v r,0,0=>Jq
 |.node l v r,0,j+1=>Jq
 |.node l v r,i+1,0=>by
  rw[T.del];split<;>simp[T.aB]
 |.node l v r,i+1,j+1=>by
  rw[T.del];have d:(j/2=i/2/\j%2=i%2)↔j=i:=G
  split
  .rename_i b
   rw[T.au,T.au];split
   .rename_i c
    rw[T.bA l];have:(j/2=i/2)↔j+1=i+1:=G
    simp only[this]
   .rw[Bm G]
  .rename_i b
   rw[T.au,T.au];split
   .rw[Bm G]
   .rename_i c
    rw[T.bA r];have:(j/2=i/2)↔j+1=i+1:=G
    simp only[this]
def UT (t:T a) (i:Nat):T a:=match t.get i with
 |Z=>t
 |I _=>t.del i
def V8 (t:T a) (i j:Nat):(UT t i).get j=if j=i then Z else t.get j:=by
 unfold UT;split
 .rename_i h
  split
  .rename_i e;rw[e,h]
  .rfl
 .exact T.bA t i j
def HG (d a b:Tmp) (o:Nat):Lc:=λfr h=>
 match fr.M.get d with
 |I (.pointer (I ⟨id,0,Z⟩))=>(match h.t.get id with
  |I (.cells c _ _ _ _ _)=>(match c.get o with
   |I (.slice Z 0 0)=>bif AD a fr.sz&&AD b fr.sz then I (⟨(UT fr.M a).ins b (.bool Ag),fr.sz,fr.ds⟩,h) else Z
   |I (.slice (I _) _ cap)=>bif Ar 1 cap&&AD a fr.sz&&AD b fr.sz then I (⟨(UT fr.M a).ins b (.bool Ah),fr.sz,fr.ds⟩,h) else Z
   |_=>Z)
  |_=>Z)
 |_=>Z
inductive CB where
 |cells (l:AH) (e:Ai) (lo U:Nat) (x:Bool)
 |map (es:List Ap) (ck:Nat)
def CB.oB:CB->HB
 |.cells l e lo U x=>.cells (T.laid l 0 .nil) (LT l) e lo U x
 |.map es a=>.map es a
def Nj:List CB->Nat->T HB->T HB
 |[],_,t=>t
 |b::l,i,t=>Nj l (A3 i) (t.ins i b.oB)
def PI (f:Aa->Option Aa):AH->Option AH
 |[]=>I []
 |v::l=>match f v,PI f l with
  |I u,I r=>I (u::r)
  |_,_=>Z
def Qs (m:Nat->Option Nat):Nat->Aa->Option Aa
 |0,_=>Z
 |n+1,v=>match v with
  |.pointer Z=>I (.pointer Z)
  |.pointer (I ⟨id,off,Z⟩)=>(match m id with|I i=>I (.pointer (I ⟨i,off,Z⟩))|Z=>Z)
  |.slice Z l c=>I (.slice Z l c)
  |.slice (I ⟨id,off,sp⟩) l c=>(match m id with|I i=>I (.slice (I ⟨i,off,sp⟩) l c)|Z=>Z)
  |.map Z=>I (.map Z)
  |.map (I id)=>(match m id with|I i=>I (.map (I i))|Z=>Z)
  |.func (.func f) ⟨a⟩ ⟨c⟩=>(match PI (Qs m n) a,PI (Qs m n) c with|I a,I c=>I (.func (.func f) ⟨a⟩ ⟨c⟩)|_,_=>Z)
  |.iface t v=>(match Qs m n v with|I u=>I (.iface t u)|Z=>Z)
  |.agg ⟨l⟩=>(match PI (Qs m n) l with|I l=>I (.agg ⟨l⟩)|Z=>Z)
  |.tuple ⟨l⟩=>(match PI (Qs m n) l with|I l=>I (.tuple ⟨l⟩)|Z=>Z)
  |.bool b=>I (.bool b)
  |.int k n=>I (.int k n)
  |.string s=>I (.string s)
  |.nilFunc=>I .nilFunc
  |.nilIface=>I .nilIface
  |_=>Z
def jp (m:Nat->Option Nat):List Ap->Option (List Ap)
 |[]=>I []
 |e::l=>match Qs m 6 e.key,Qs m 6 e.val,jp m l with
  |I k,I v,I r=>I (⟨k,v,e.born⟩::r)
  |_,_,_=>Z
def jk (m:Nat->Option Nat):CB->Option CB
 |.cells l e lo U x=>(match PI (Qs m 6) l with|I l=>I (.cells l e lo U x)|Z=>Z)
 |.map es a=>(match jp m es with|I es=>I (.map es a)|Z=>Z)
def U7 (m:Nat->Option Nat):List CB->Option (List CB)
 |[]=>I []
 |b::l=>match jk m b,U7 m l with
  |I c,I r=>I (c::r)
  |_,_=>Z
def Ln (f:Aa->Aa->Bool):AH->AH->Bool
 |[],[]=>Ag
 |a::l,b::m=>f a b&&Ln f l m
 |_,_=>Ah
def oc:Option Nat->Option Nat->Bool
 |Z,Z=>Ag
 |I a,I b=>Am a b
 |_,_=>Ah
def oA:Int->Int->Bool
 |.ofNat a,.ofNat b=>Am a b
 |.negSucc a,.negSucc b=>Am a b
 |_,_=>Ah
def jw:Option Nat->Nat->Bool
 |I a,b=>Am a b
 |Z,_=>Ah
def K9 (m:Nat->Option Nat):Nat->Aa->Aa->Bool
 |0,_,_=>Ah
 |n+1,h,v=>match h,v with
  |.pointer Z,.pointer Z=>Ag
  |.pointer (I ⟨e,i,Z⟩),.pointer (I ⟨id,off,Z⟩)=>jw (m e) id&&Am i off
  |.slice Z d g,.slice Z l c=>Am d l&&Am g c
  |.slice (I ⟨e,i,j⟩) d g,.slice (I ⟨id,off,sp⟩) l c=>jw (m e) id&&Am i off&&oc j sp&&Am d l&&Am g c
  |.map Z,.map Z=>Ag
  |.map (I e),.map (I id)=>jw (m e) id
  |.func (.func f2) ⟨o⟩ ⟨g⟩,.func (.func f) ⟨a⟩ ⟨c⟩=>Am f2 f&&Ln (K9 m n) o a&&Ln (K9 m n) g c
  |.iface t2 h,.iface t v=>Am t2 t&&K9 m n h v
  |.agg ⟨d⟩,.agg ⟨l⟩=>Ln (K9 m n) d l
  |.tuple ⟨d⟩,.tuple ⟨l⟩=>Ln (K9 m n) d l
  |.bool a,.bool b=>a==b
  |.int p q,.int k n=>O9 p k&&oA q n
  |.string a,.string b=>Gp (aI a.data) (aI b.data)
  |.nilFunc,.nilFunc=>Ag
  |.nilIface,.nilIface=>Ag
  |_,_=>Ah
def Kh (f:Aa->Aa->Bool) (c:T Aa):AH->Nat->Bool
 |[],_=>Ag
 |v2::l,i=>(match c.get i with|I v=>f v2 v|Z=>Ah)&&Kh f c l (A3 i)
def TL (f:Aa->Aa->Bool):List Ap->List Ap->Bool
 |[],[]=>Ag
 |a::l,b::m=>f a.key b.key&&f a.val b.val&&Am a.born b.born&&TL f l m
 |_,_=>Ah
def Hv (m:Nat->Option Nat):CB->Option HB->Bool
 |.cells l e lo U x,I (.cells c n a b d f)=>Am (LT l) n&&Am e a&&Am lo b&&Am U d&&(!x||f)&&Kh (K9 m 6) c l 0
 |.map es g,I (.map h i)=>Am g i&&TL (K9 m 6) es h
 |_,_=>Ah
def Om (m:Nat->Option Nat) (t:T HB):List CB->Nat->Bool
 |[],_=>Ag
 |b::l,i=>(match m i with|I j=>Hv m b (t.get j)|Z=>Ah)&&Om m t l (A3 i)
def TN:Nat->List (Nat×Nat)->Option Nat
 |_,[]=>Z
 |i,(a,b)::l=>bif Am a i then I b else TN i l
def nR (b a i:Nat) (st:List (Nat×Nat)):List (Nat×Nat):=bif AD a b then st else match TN a st with|I _=>st|Z=>(a,i)::st
def Su (f:Aa->Aa->List (Nat×Nat)->List (Nat×Nat)):AH->AH->List (Nat×Nat)->List (Nat×Nat)
 |a::l,b::m,st=>Su f l m (f a b st)
 |_,_,st=>st
def Mw (b:Nat):Nat->Aa->Aa->List (Nat×Nat)->List (Nat×Nat)
 |0,_,_,st=>st
 |n+1,e,v,st=>match e,v with
  |.pointer (I ⟨d,_,_⟩),.pointer (I ⟨i,_,_⟩)=>nR b d i st
  |.slice (I ⟨d,_,_⟩) _ _,.slice (I ⟨i,_,_⟩) _ _=>nR b d i st
  |.map (I d),.map (I i)=>nR b d i st
  |.func _ ⟨g⟩ ⟨h⟩,.func _ ⟨a⟩ ⟨c⟩=>Su (Mw b n) h c (Su (Mw b n) g a st)
  |.iface _ e,.iface _ v=>Mw b n e v st
  |.agg ⟨f⟩,.agg ⟨l⟩=>Su (Mw b n) f l st
  |.tuple ⟨f⟩,.tuple ⟨l⟩=>Su (Mw b n) f l st
  |_,_=>st
def uq (a:Nat) (c:T Aa):AH->Nat->List (Nat×Nat)->List (Nat×Nat)
 |[],_,st=>st
 |v2::l,i,st=>uq a c l (A3 i) (match c.get i with|I v=>Mw a 6 v2 v st|Z=>st)
def uA (c:Nat):List Ap->List Ap->List (Nat×Nat)->List (Nat×Nat)
 |a::l,b::m,st=>uA c l m (Mw c 6 a.val b.val (Mw c 6 a.key b.key st))
 |_,_,st=>st
def oO (a:Nat) (t:T HB):List CB->Nat->List (Nat×Nat)->List (Nat×Nat)
 |[],_,st=>st
 |b::l,i,st=>oO a t l (A3 i) (match TN i st with
  |I id=>(match b,t.get id with
   |.cells vs _ _ _ _,I (.cells c _ _ _ _ _)=>uq a c vs 0 st
   |.map es _,I (.map d _)=>uA a es d st
   |_,_=>st)
  |Z=>st)
def L0 (st:List (Nat×Nat)):Nat->Nat->Option Bo
 |_,0=>I []
 |i,n+1=>match TN i st,L0 st (A3 i) n with
  |I a,I r=>I (a::r)
  |_,_=>Z
def De (a:Nat) (pl:Bo) (i:Nat):Option Nat:=bif AD i a then I i else pl[i-a]?
def XC (a k:Nat) (m:Nat->Option Nat) (nx i:Nat):Option Nat:=bif AD i a then m i else bif AD i (a+k) then I (nx+(i-a)) else Z
def LX (lo U:Nat):Bo->Bool
 |[]=>Ag
 |a::l=>Ar lo a&&AD a U&&l.all (λb=>!(Am a b))&&LX lo U l
structure E2 where
 gs:List (Nat×CB)
 args:AH
 ins:List CB
 res:Aa
 outs:List CB
def QL (a:Nat) (m:Nat->Option Nat) (t:T HB):List (Nat×CB)->Bool
 |[]=>Ag
 |(g,b)::l=>AD g a&&Hv m b (t.get g)&&QL a m t l
def ZV:List (Nat×CB)->T HB
 |[]=>.nil
 |(g,b)::l=>(ZV l).ins g b.oB
def QG (τ:Bb) (M:E2) (a:AH) (h:Y):Jl:=
 match L0 (oO τ.a h.t M.ins τ.a (Su (Mw τ.a 6) M.args a [])) τ.a (LT M.ins) with
 |I pl=>
  let m:=De τ.a pl
  bif LX τ.a h.a pl&&Ln (K9 m 6) M.args a&&Om m h.t M.ins τ.a&&QL τ.a m h.t M.gs then
   (
    let m':=XC (τ.a+LT M.ins) (LT M.outs) m h.a
    match Qs m' 6 M.res,U7 m' M.outs with
     |I v,I bs=>I (v,⟨Nj bs h.a h.t,h.a+LT M.outs,h.lo⟩)
     |_,_=>Z) else Z
 |Z=>Z
def Vh (τ:Bb):List E2->Be->AH->Y->Jl
 |[],_,_,_=>Z
 |M::l,c,a,h=>match QG τ M a h with
  |I r=>I r
  |Z=>Vh τ l c a h
def Ia (τ:Bb) (M:E2):Y:=⟨Nj M.ins τ.a (ZV M.gs),τ.a+LT M.ins,.no⟩
def Ub (τ:Bb) (M:E2) (pl:Bo) (v:Aa) (h:Y):Bool:=
 let a:=τ.a+LT M.ins
 let m:=De a pl
 h.lo.C a&&Am (LT pl) (LT M.outs)&&LX a h.a pl&&K9 m 6 M.res v&&Om m h.t M.outs a
def Ue (τ:Bb) (a:Be) (f:Au) (M:E2):Bool:=
 match a (.func f) M.args (Ia τ M) (λv h=>I [.val v h]) (λ_ _=>Z) with
 |I l=>l.all λo=>match o with
  |.val v h=>(match L0 (oO (τ.a+LT M.ins) h.t M.outs (τ.a+LT M.ins) (Mw (τ.a+LT M.ins) 6 M.res v [])) (τ.a+LT M.ins) (LT M.outs) with
   |I pl=>Ub τ M pl v h
   |Z=>Ah)
  |_=>Ah
 |Z=>Ah
def jb {b:Type} (f:b->Option a) (t:T b):T a:=
 T.rec .nil (λ_ v _ l r=>.node l (v.bind f) r) t
def ug (P:AN) (ex:T KS) (a:Bo) (c:Nat):Bb:={
 fn:=T.table 14 (aI P.funcs)
 b:=T.table 14 (aI P.types)
 ds:=jb (λi=>match i.desc with|.named _ u=>((T.table 14 (aI P.types)).get u).map (·.desc)|d=>I d) (T.table 14 (aI P.types))
 ex:=ex
 f:=λt=>a.any (Am t)
 a:=c}
def vT (a b:Nat):Am a b=(a==b):=by rw[DJ];simp
def vj (a b:UInt8):Am a.toNat b.toNat=(a==b):=by
 rw[DJ];simp only[Nat.beq_eq,beq_iff_eq];exact UInt8.toNat_inj
def J0:∀a b:Bl,Gp a b=(a==b)
 |[],[]=>rfl
 |[],_::_=>rfl
 |_::_,[]=>rfl
 |
  a::l,b::m=>by
  have:((a::l)==(b::m))=((a==b)&&(l==m)):=rfl;rw[this,Gp,vj,J0 l m];cases a==b<;>rfl
def OQ (a b:Bd):Gp (aI a.data) (aI b.data)=(a==b):=by
 rw[J0];let⟨⟨a⟩⟩:=a;obtain⟨⟨b⟩⟩:=b;show(a==b)=((⟨a⟩:Array UInt8)==⟨b⟩);rw[DJ];simp
def uT:∀a b:Bl,KJ a b=Op.bytesLess a b
 |[],[]=>rfl
 |[],_::_=>rfl
 |_::_,[]=>rfl
 |a::l,b::m=>by
  rw[KJ,Op.bytesLess,uT l m,vj];have h:AD a.toNat b.toNat=decide (a<b):=by
   rw[DJ];simp[AK,UInt8.lt_iff_toNat_lt]
  rw[h];cases decide (a<b)<;>cases(a==b)<;>simp
def VM (l:Bl):(EY l).size=LT l:=rfl
def Yq (a b:Bd):a++b=EY (aI a.data++aI b.data):=by
 apply RL;simp[EY,Tr]
def Px (s:Bd) (l h:Nat):s.extract l h=EY ((s.data.toList.drop l).take (h-l)):=by
 apply RL;apply Et;simp[EY,ByteArray.data_extract,qG]
def vQ (s:Bd) (i:Nat):(s.get! i).toNat=b1 (s.data.toList.drop i):=by
 obtain⟨⟨l⟩⟩:=s;show((⟨l⟩:Array UInt8)[i]!).toNat=_;simp only[];by_cases h:i<LT l
 .rw[Di h]
  simp[b1,h]
 .rw[Ef G]
  have:(⟨l⟩:Array UInt8)[i]! =default:=by simp[Array.getElem!_eq_getD,h]
  rw[this];rfl
def Alx (s:Bd) (i k:Nat):(decide (i+k<aL s)&&(s.get! (i+k)).toNat/64==2)=Am (b1 ((s.data.toList.drop i).drop k)/64) 2:=by
 rw[vQ,GR];by_cases h:i+k<aL s
 .simp only[h,decide_true,gT,vT]
 .have:s.data.toList.drop (i+k)=[]:=Ef (by
   have:LT s.data.toList=aL s:=by simp
   omega)
  simp[h,this,b1];rfl
def Pk (s:Bd) (i:Nat):io s i=FF (s.data.toList.drop i):=by
 have g k:(s.get! (i+k)).toNat=b1 ((s.data.toList.drop i).drop k):=by rw[vQ,GR]
 have c k:=Alx s i k;unfold io;simp only[g] at c⊢;simp only[c];unfold FF;rw[dQ];generalize b1 (s.data.toList.drop i)=a;generalize b1 ((s.data.toList.drop i).drop 1)=b;generalize b1 ((s.data.toList.drop i).drop 2)=c;generalize b1 ((s.data.toList.drop i).drop 3)=d;unfold ZN;rw[EF,EF,EF,EF,EF,EF,EF];refine ite_congr Jq (λ_=>rfl) λ_=>?_;refine ite_congr Jq (λ_=>ite_congr Jq (λ_=>rfl) λ_=>rfl) λ_=>?_;refine ite_congr Jq (λ_=>ite_congr ?_ (λ_=>rfl) λ_=>rfl) λ_=>?_
 .simp only[Utf8.valid,An,Dm,decide_eq_true_eq,AK,UP,eq_iff_iff]
  omega
 refine ite_congr Jq (λ_=>ite_congr ?_ (λ_=>rfl) λ_=>rfl) λ_=>rfl;simp only[Utf8.valid,An,Dm,decide_eq_true_eq,UP,eq_iff_iff];omega
def Aaj (s:Bd):∀(b i:Nat) (a:Array Aa),(Conv.runesFrom s b i a).toList=aI a++CA b (s.data.toList.drop i):=by
 intro b
 induction b with
 |zero=>intro i a;simp[Conv.runesFrom,CA]
 |succ b d=>
  intro i a;have e:LT s.data.toList=aL s:=Jq
  rw[Conv.runesFrom];by_cases h:i<aL s
  .rw[Bi h]
   simp only[d];rw[Pk];have c:=Di (l:=aI s.data) (i:=i) G;rw[c,CA,←c];simp[GR]
  .rw[Bm h,Ef G]
   simp[CA]
def DI {x:Option a} {b:Bool} {v:a} (h:B1 (motive:=λ_=>Option a) Z x b=I v):b=Ag/\x=I v:=by
 cases b
 .cases h
 .exact⟨B,h⟩
def Ih (h:n<=I1 k):k.wrap (AQ n)=AQ n:=by
 have:=rx n;have J:=Int.ofNat_le.2 h;cases k<;>simp only[I1] at J<;>simp only[IntKind.wrap,IntKind.bits,IntKind.signed]<;>simp<;>simp at J<;>omega
def Mc (h:ZO k n=I u):u=.int k (AQ n)/\n<=I1 k:=by
 unfold ZO at h;let⟨a,b⟩:=DI h;exact⟨Jq,Ac a⟩
def Aku (k:Cq):I1 k<2^k.bits:=by cases k<;>decide
def Agv (k:Cq):∃n,I1 k+1=2^n/\n<=k.bits:=by
 cases k
 .exact⟨7,Jq,Jq⟩
 .exact⟨15,Jq,Jq⟩
 .exact⟨31,Jq,Jq⟩
 .exact⟨63,Jq,Jq⟩
 .exact⟨8,Jq,Jq⟩
 .exact⟨16,Jq,Jq⟩
 .exact⟨32,Jq,Jq⟩
 .exact⟨64,Jq,Jq⟩
def GN (h:x<=I1 k):(BitVec.ofInt k.bits (AQ x)).toNat=x:=by
 have:=Aku k;simp[BitVec.toNat_ofInt];have a:x<2^k.bits:=G
 exact JQ a
def X0 (x y:Nat):(AQ x<AQ y)↔x<y:=Int.ofNat_lt
def X5 (x y:Nat):(AQ x<=AQ y)↔x<=y:=Int.ofNat_le
def ON (k:Cq) (a b:Int) (t:Ai) (h:op=.add\/op=.sub\/op=.mul):binOp op t (.int k a) (.int k b)=Op.intArith op k a b:=by
 rcases h with rfl|rfl|rfl<;>simp[binOp]
def Y2 (k:Cq) (a b:Int) (t:Ai) (h:op=.quo\/op=.rem):binOp op t (.int k a) (.int k b)=Op.intDiv op k a b:=by
 rcases h with rfl|rfl<;>simp[binOp]
def Aix (k:Cq) (a b:Int) (t:Ai) (h:op=.and\/op=.or\/op=.xor):binOp op t (.int k a) (.int k b)=Op.intBits op k a b:=by
 rcases h with rfl|rfl|rfl<;>simp[binOp]
def Amn (k:Cq) (a b:Int) (t:Ai) (h:op=.eql\/op=.neq\/op=.lss\/op=.leq\/op=.gtr\/op=.geq):
 binOp op t (.int k a) (.int k b)=Op.intCmp op a b:=by
 rcases h with rfl|rfl|rfl|rfl|rfl|rfl<;>simp[binOp]
def Uc (d:x<=I1 k) (e:y<=I1 k):Nat.land x y<=I1 k/\Nat.lor x y<=I1 k/\Nat.xor x y<=I1 k:=by
 obtain⟨n,f,_⟩:=Agv k;have g:x&&&y<2^n:=Nat.and_lt_two_pow x G;have h:x|||y<2^n:=Zz G G;have i:x^^^y<2^n:=Nat.xor_lt_two_pow G G;have a:Nat.land x y=x&&&y:=rfl;have b:Nat.lor x y=x|||y:=rfl;have c:Nat.xor x y=x^^^y:=rfl;rw[a,b,c];omega
def WI (h:Vl op k x y=I u):Hn (binOp op t (.int k (AQ x)) (.int k (AQ y)))=I u:=by
 cases op<;>simp only[Vl,Eo] at h<;>try(cases h;done)
 .obtain⟨rfl,c⟩:=Mc h
  rw[ON _ _ _ _ Jq];exact Cs (λn=>I (AL k n)) (Ih c)
 .let⟨a,h⟩:=DI h
  have a:=Ac a;obtain⟨rfl,c⟩:=Mc h;rw[ON _ _ _ _ Jq];refine Cs (λn=>I (AL k n)) ((Cs k.wrap ?_).trans (Ih c));exact(Int.ofNat_sub a).symm
 .obtain⟨rfl,c⟩:=Mc h
  rw[ON _ _ _ _ Jq];exact Cs (λn=>I (AL k n)) (Ih c)
 .let⟨a,h⟩:=DI h
  have a:=Ac a;obtain⟨rfl,c⟩:=Mc h;rw[Y2 _ _ _ _ Jq];have d:¬(AQ y=0):=Jq
  simp only[Op.intDiv,d,if_false];exact Cs (λn=>I (AL k n)) (Ih c)
 .let⟨a,h⟩:=DI h
  have a:=Ac a;cases h;rw[Y2 _ _ _ _ Jq];have d:¬(AQ y=0):=Jq
  simp only[Op.intDiv,d,if_false];rfl
 all_goals first
  |(
   let⟨a,h⟩:=DI h;let⟨b,h⟩:=DI h;have a:=Ac a;have b:=Ac b;cases h;rw[Aix _ _ _ _ Jq];refine Cs (λn=>I (AL k n)) ?_
   first
    |(
     refine(Cs k.wrap ?_).trans (Ih (Uc a b).1);simp only[BitVec.toNat_and,GN a,GN b];rfl)
    |(
     refine(Cs k.wrap ?_).trans (Ih (Uc a b).2.1);simp only[BitVec.toNat_or,GN a,GN b];rfl)
    |(
     refine(Cs k.wrap ?_).trans (Ih (Uc a b).2.2);simp only[BitVec.toNat_xor,GN a,GN b];rfl))
  |(
   simp only[uC,tP,uH,uw,ud,tO,I.injEq] at h;subst h;rw[Amn _ _ _ _ Jq];refine Cs (λn=>I (CU n)) ?_;simp only[vT,AK,bne,GT.gt,GE.ge,X0,X5];rw[DJ];simp[Int.ofNat_inj])
def Z3 (h:gX op k x y=I u):Hn (binOp op t (.int k (AQ x)) (.int k' (AQ y)))=I u:=by
 have d:¬(AQ y<0):=Jq
 cases op<;>simp only[gX,Eo] at h<;>try(cases h;done)
 .let⟨a,h⟩:=DI h
  simp only[An,AK] at a;let⟨a,f⟩:=a;cases h;simp only[binOp,Op.shift,d,if_false];refine Cs (λn=>I (AL k n)) ?_;have b:min (AQ y).toNat k.bits=y:=by
   have:Yz k=k.bits:=by cases k<;>rfl
   have:(AQ y).toNat=y:=rfl;omega
  rw[b];have e:AQ x*2^y=((x*2^y:Nat):Int):=by push_cast;rfl
  rw[e];have c:x.shiftLeft y=x*2^y:=Nat.shiftLeft_eq x y;rw[show Nat.shiftLeft x y=x*2^y from c];generalize x*2^y=z;cases k<;>first
   |(simp[Ld] at f;done)
   |(simp only[IntKind.wrap,IntKind.bits,IntKind.signed,I1];rfl)
 .let⟨a,h⟩:=DI h
  have a:=Ac a;cases h;simp only[binOp,Op.shift,d,if_false];refine Cs (λn=>I (AL k n)) ?_;have b:min (AQ y).toNat k.bits=y:=by
   have:Yz k=k.bits:=by cases k<;>rfl
   have:(AQ y).toNat=y:=rfl;omega
  rw[b];have c:=Nat.shiftRight_eq_div_pow x y;rw[show Nat.shiftRight x y=x/2^y from c];have g:(2^y)=((2^y)):=by push_cast;rfl
  rw[g];show(x:Int).fdiv ((2^y:Nat):Int)=((x/2^y:Nat):Int);rw[Int.fdiv_eq_ediv_of_nonneg _ (rx _)];rfl
def Pz {a b:Option Aa} (h:IG a b=I u):a=I u\/b=I u:=by
 cases a
 .exact .inr h
 .exact .inl h
def Ly (h:O9 k k'=Ag):k=k':=by
 have:=Af h;cases k<;>cases k'<;>first
  |rfl
  |(simp[Ld] at this;done)
def Rm {a b:Int} (h:kK op t k a k' b=I u):Hn (binOp op t (.int k a) (.int k' b))=I u:=by
 cases a with
 |negSucc x=>exact h
 |ofNat x=>
  cases b with
  |negSucc y=>exact h
  |ofNat y=>
   rcases Pz h with h|h
   .rcases Pz h with h|h
    .exact Z3 h
    .let⟨c,d⟩:=DI h
     cases Ly c;exact WI d
   .exact h
def Yf {a b:Bd} (h:mH op (aI a.data) (aI b.data)=I u):Hn (binOp op t (.string a) (.string b))=I u:=by
 have hb:∀op,binOp op t (.string a) (.string b)=Op.stringOp op a b:=by intro op;cases op<;>simp[binOp]
 rw[hb];cases op<;>simp only[mH] at h<;>try(cases h;done)
 .cases c:Ar (LT a.data.toList+LT b.data.toList) 1099511627776 with
  |false=>rw[c] at h;cases h
  |true=>
   simp only[c,D1,I.injEq] at h;subst h;have c:=Ac c;have:¬(((aL a+aL b:Nat):Int)>IntKind.i64.max):=by
    have d:LT a.data.toList=aL a:=by simp
    have e:LT b.data.toList=aL b:=by simp
    simp[IntKind.max,IntKind.signed,IntKind.bits];omega
   simp only[Op.stringOp,this,if_false];exact Cs (λs=>I (Value.string s)) (Yq a b)
 all_goals
  cases h;simp only[Op.stringOp,ByteArray.toList_eq,J0,uT];rfl
section
variable {h J h0:Y} {v v' u x x' z y:Aa} {vs D0 l l' args AP:AH} {t e:Ai} {fr Ec:Fr} {ρ C2 FS:Ren} {w w':AM} {n i id m j off nx b r k U:Nat} {a:FP} {pl:Pl} {outs:List EO} {es C3:List Ap} {kp:Aa->Y->RR} {f:Au} {call:Be} {lo s:WS} {o:Op} {hb:HB} {op:CT} {τ:Bb} {P:AN} {S:Nat->Prop} {nx' p:Nat} {fr1:Fr}
section
variable{P:AN} {τ:Bb} {ρ:Ren} {H:Nat->Option HB} {nx:Nat} {w:AM}
def Ren.ah (ρ:Ren) (i:Nat) (pl:Pl):Ren:=λj=>if j=i then I pl else ρ j
def Mn (H:Nat->Option HB) (i:Nat) (hb:HB):Nat->Option HB:=λj=>if j=i then I hb else H j
def F3 (t:T HB) (i:Nat) (hb:HB):(t.ins i hb).get=Mn t.get i hb:=funext λj=>T.M hb t i j
def Ren.M (a:ρ nx=Z) (pl:Pl):ρ.le (ρ.ah nx pl):=λid pl' e=>by
 unfold Ren.ah;split
 .rename_i h;subst h;rw[a] at e;cases e
 .exact e
def Ren.C (pl:Pl) (i:Nat):ρ.ah i pl i=I pl:=by simp[Ren.ah]
def Sl.alloc (a:Sl P τ ρ H nx w) (lo:WS) (o:Obj) (hb:HB) (s:Nat)
 (t:BR P (ρ.ah nx ⟨w.heap.size,0,s⟩) ⟨w.heap.size,0,s⟩ (w.alloc o) hb) (z:τ.a<=nx):
 Sl P τ (ρ.ah nx ⟨w.heap.size,0,s⟩) (Mn H nx hb) (nx+1) (w.alloc o)/\Mj ρ w nx (ρ.ah nx ⟨w.heap.size,0,s⟩) (w.alloc o) (nx+1) lo:=by
 have u:=Ren.M (a.fresh nx (Ae _)) ⟨w.heap.size,0,s⟩;have n:(w.alloc o).heap.size=w.heap.size+1:=uN _ _;have p:∀b,b<w.heap.size->(w.alloc o).heap[b]?=w.heap[b]?:=λb hb=>by
  show(w.heap.push o)[b]?=_;rw[kN,Bm (Nat.ne_of_lt hb)]
 refine⟨⟨λid h=>?_,λid pl hb' e f=>?_,λid pl e=>?_,λi j q r U c d l v hb'=>?_,λg x=>?_⟩,⟨λid h=>?_,Jq,λb hb' _=>p b hb',λid pl y e=>?_,Yr _,B,B,B,Ae _⟩⟩
 .unfold Ren.ah;rw[Bm G];exact a.fresh id G
 .unfold Ren.ah at e;unfold Mn at f
  by_cases h:id=nx
  .rw[Bi h] at e f;cases e;cases f;exact t
  .rw[Bm h] at e f
   exact(a.hr id pl hb' e f).mono u (p _ (a.b id pl e))
 .unfold Ren.ah at e;rw[n]
  by_cases h:id=nx
  .rw[Bi h] at e;cases e;exact HL _
  .rw[Bm h] at e;have:=a.b id pl e;omega
 .unfold Ren.ah at c d;unfold Mn at l
  by_cases m:i=nx
  .by_cases k:j=nx
   .omega
   .rw[Bi m] at c;rw[Bm k] at d;cases c;have:=a.b j r d;simp at hb';omega
  .by_cases k:j=nx
   .rw[Bm m] at c;rw[Bi k] at d;cases d;have:=a.b i q c;simp at hb';omega
   .rw[Bm m] at c l;rw[Bm k] at d;exact a.ord i j q r U c d l v hb'
 .unfold Ren.ah;rw[Bm G];exact a.a g x
 .unfold Ren.ah;rw[Bm G]
 .unfold Ren.ah at e
  by_cases h:id=nx
  .rw[Bi h] at e;cases e;exact .inl (Ae _)
  .rw[Bm h,a.fresh id y] at e;cases e
def Sl.write (d:Sl P τ ρ H nx w) {hb':HB} (e:ρ id=I pl) (l:H id=I hb) (k:hb.live=Ag)
 (m:w'.heap.size=w.heap.size) (n:∀b,b≠pl.b->w'.heap[b]?=w.heap[b]?) (t:BR P ρ pl w' hb') (u:w'.os=w.os) (v:w'.output=w.output) (x:w'.tape=w.tape) (y:lo.has id) (hdr:w.drawn<=w'.drawn):
 Sl P τ ρ (Mn H id hb') nx w'/\Mj ρ w nx ρ w' nx lo:=by
 refine⟨⟨d.fresh,λi f U a c=>?_,λi f a=>m▸d.b i f a,λi j f o U a p c q g=>?_,d.a⟩,
  ⟨λ_ _=>rfl,A2 m.symm,λb _ z=>n b λh=>z id pl y e h.symm,λi f U a=>(by rw[d.fresh i U] at a;cases a),Ae _,u,v,x,hdr⟩⟩
 .unfold Mn at c
  by_cases h:i=id
  .subst h;rw[Bi B] at c;cases c;rw[e] at a;cases a;exact t
  .rw[Bm h] at c
   cases r:U.live with
   |false=>cases U<;>simp[HB.live] at r;trivial
   |true=>exact(d.hr i f U a c).mono (Ren.le_refl _) (n _ λg=>h (d.inj i id f pl U hb a e c l r k g))
 .unfold Mn at c
  by_cases s:i=id
  .subst s;have:=d.ord i j f o hb a p l q g;rw[this] at k;cases k
  .rw[Bm s] at c;exact d.ord i j f o U a p c q g
def Sl.kill (b:Sl P τ ρ H nx w) (id:Nat):Sl P τ ρ (Mn H id .dead) nx w:=by
 refine⟨b.fresh,λi c U d a=>?_,b.b,λi j c f U d g a k l=>?_,b.a⟩
 .unfold Mn at a
  by_cases h:i=id
  .rw[Bi h] at a;cases a;trivial
  .rw[Bm h] at a;exact b.hr i c U d a
 .unfold Mn at a
  by_cases e:i=id
  .rw[Bi e] at a;cases a;rfl
  .rw[Bm e] at a;exact b.ord i j c f U d g a k l
def Sl.move (d:Sl P τ ρ H nx w) {pl':Pl} {hb':HB} (e:ρ id=I pl) (r:H id=I hb) (o:hb.live=Ag) (n:pl'.b=pl.b)
 (s:w'.heap.size=w.heap.size) (t:∀b,b≠pl.b->w'.heap[b]?=w.heap[b]?) (x:BR P (ρ.ah nx pl') pl' w' hb') (y:w'.os=w.os) (z:w'.output=w.output) (A:w'.tape=w.tape) (u:lo.has id) (N:τ.a<=nx) (hdr:w.drawn<=w'.drawn):
 Sl P τ (ρ.ah nx pl') (Mn (Mn H id .dead) nx hb') (nx+1) w'/\Mj ρ w nx (ρ.ah nx pl') w' (nx+1) lo:=by
 have C:=Ren.M (d.fresh nx (Ae _)) pl';have O:=BB λh=>by rw[d.fresh id h] at e;cases e
 refine⟨⟨λi h=>?_,λi f U a c=>?_,λi f a=>?_,λi j f D U a k c E m=>?_,λg F=>?_⟩,
  ⟨λi h=>?_,A2 s.symm,λb _ p=>t b λh=>p id pl u e h.symm,λi f U a=>?_,Yr _,y,z,A,hdr⟩⟩
 .unfold Ren.ah;rw[Bm G];exact d.fresh i G
 .unfold Ren.ah at a;unfold Mn at c
  by_cases h:i=nx
  .rw[Bi h] at a c;cases a;cases c;exact x
  .rw[Bm h] at a c
   by_cases l:i=id
   .rw[Bi l] at c;cases c;trivial
   .rw[Bm l] at c
    cases v:U.live with
    |false=>cases U<;>simp[HB.live] at v;trivial
    |true=>exact(d.hr i f U a c).mono C (t _ λm=>l (d.inj i id f pl U hb a e c r v o m))
 .unfold Ren.ah at a;rw[s]
  by_cases h:i=nx
  .rw[Bi h] at a;cases a;rw[n];exact d.b id pl e
  .rw[Bm h] at a;exact d.b i f a
 .unfold Ren.ah at a k;unfold Mn at c
  by_cases K:i=nx
  .by_cases l:j=nx
   .omega
   .rw[Bm l] at k;have:=BB λp=>by rw[d.fresh j p] at k;cases k
    omega
  .rw[Bm K] at a c
   by_cases q:i=id
   .rw[Bi q] at c;cases c;rfl
   .rw[Bm q] at c
    by_cases l:j=nx
    .rw[Bi l] at k;cases k
     rcases Sk q with L|M
     .exact d.ord i id f pl U a e c L (m.trans n)
     .have:=d.ord id i pl f hb e a r M (m.trans n).symm;rw[this] at o;cases o
    .rw[Bm l] at k;exact d.ord i j f D U a k c E m
 .unfold Ren.ah;rw[Bm G];exact d.a g F
 .unfold Ren.ah;rw[Bm G]
 .unfold Ren.ah at a
  by_cases h:i=nx
  .rw[Bi h] at a;cases a;exact .inr ⟨id,pl,u,e,n.symm⟩
  .rw[Bm h,d.fresh i U] at a;cases a
end
structure BM (P:AN) (τ:Bb):Prop where
 fn:∀f x,τ.fn.get f=I x->P.funcs[f]?=I x/\(x.body.isSome=Ag->(x.name== "runtime.NumGoroutine")=Ah)
 ds:∀t d,τ.ds.get t=I d->P.underlying t=I d
 b:∀t i,τ.b.get t=I i->P.info? t=I i
 eq:∀t,τ.f t=Ag->P.stoodInHeld t=Ah/\P.eqGuardType P.depth t=Ah
 mixed:P.follows .mixedOrders=Ag
abbrev C5 (P:AN) (τ:Bb) (ρ:Ren) (h:Y) (w:AM):Prop:=Sl P τ ρ h.t.get h.a w/\τ.a<=h.a
def B6 (P:AN) (τ:Bb) (ρ:Ren) (h:Y) (w:AM) (s:Sem RM) (v:Aa) (J:Y):Prop:=
 ∃n w' b c,s.run P w=.ok n w'/\(n=.value b\/(n=.skip/\b=undef))/\VR c v b/\C5 P τ c J w'/\Mj ρ w h.a c w' J.a J.lo/\J.lo<=h.lo
section
variable{P:AN} {τ:Bb} {ρ:Ren} {h:Y} {w:AM}
def B6.pure (a:C5 P τ ρ h w) {s:Sem RM} (b:s.run P w=.ok (.value v') w) (c:VR ρ v v'):B6 P τ ρ h w s v h:=
 ⟨_,w,v',ρ,b,.inl B,c,a,Mj.refl ρ w h.a h.lo a.1.fresh,WS.le_refl _⟩
def Y.C (h:Y) (i:Nat):h.low i<=h.lo/\(h.low i).has i:=G4 h.lo i
def C5.alloc (a:C5 P τ ρ h w) (o:Obj) (hb:HB) (s:Nat)
 (b:BR P (ρ.ah h.a ⟨w.heap.size,0,s⟩) ⟨w.heap.size,0,s⟩ (w.alloc o) hb):
 C5 P τ (ρ.ah h.a ⟨w.heap.size,0,s⟩) (h.new hb) (w.alloc o)/\Mj ρ w h.a (ρ.ah h.a ⟨w.heap.size,0,s⟩) (w.alloc o) (h.new hb).a (h.new hb).lo:=by
 let⟨c,d⟩:=a.1.alloc h.lo o hb s b a.2;refine⟨⟨?_,UF a.2⟩,d⟩;show Sl P τ _ (h.t.ins h.a hb).get (h.a+1) _;rw[F3];exact c
def C5.write (a:C5 P τ ρ h w) {hb':HB} (e:ρ id=I pl) (c:h.t.get id=I hb) (d:hb.live=Ag)
 (f:w'.heap.size=w.heap.size) (g:∀b,b≠pl.b->w'.heap[b]?=w.heap[b]?) (i:BR P ρ pl w' hb') (j:w'.os=w.os) (k:w'.output=w.output) (l:w'.tape=w.tape) (hdr:w.drawn<=w'.drawn:=by exact Ae _):
 C5 P τ ρ (h.put id hb') w'/\Mj ρ w h.a ρ w' (h.put id hb').a (h.put id hb').lo:=by
 let⟨m,n⟩:=a.1.write e c d f g i j k l (h.C id).2 hdr;refine⟨⟨?_,a.2⟩,n⟩;show Sl P τ _ (h.t.ins id hb').get h.a _;rw[F3];exact m
end
section
variable{P:AN} {τ:Bb} {ρ:Ren} {h:Y} {w:AM}
def aA {d:eT} (a:P.underlying t=I d) (w:AM):(underlying t).run P w=.ok d w:=by
 simp[underlying,a]
def bG {i:KR} (U:P.info? t=I i) (w:AM):(typeInfo t).run P w=.ok i w:=by
 simp[typeInfo,U]
def aV {i:KR} (U:P.info? t=I i) (w:AM):(sizeOf t).run P w=.ok i.size w:=by
 simp[sizeOf,bG U]
def Fz {i:KR} (U:P.info? t=I i) (a:i.zero=I z) (w:AM):(zeroValue t).run P w=.ok z w:=by
 simp[zeroValue,bG U,a]
def Tp {d:eT} (a:P.underlying t=I d) (w:AM):(isAgg t).run P w=.ok (J5 d) w:=by
 simp only[isAgg,AI,aA a,Aw];cases d<;>rfl
def JJ (T:BM P τ) (a:CP τ t=I z):(∀w,(zeroValue t).run P w=.ok z w)/\DG z=true:=by
 unfold CP at a;cases U:τ.b.get t with
 |none=>simp[U] at a
 |some i=>
  simp only[U] at a;cases b:i.zero with
  |none=>simp[b] at a
  |some d=>
   simp only[b] at a;cases c:DG d with
   |false=>simp[c] at a
   |true=>
    simp only[c,D1,I.injEq] at a;subst a;exact⟨λw=>Fz (T.b t i U) b w,c⟩
def Tv (ρ:Ren) (fr:Fr) (a:FP):Prop:=TR ρ fr.M fr.sz a.tmps
def EK (e:C5 P τ ρ h w) (i:Tv ρ fr a) {x:BU} (b:ev τ fr x=I v):VR ρ v (a.eval x):=by
 cases x with
 |
  tmp t=>
  obtain⟨m,j,k⟩:=i.2 t v b;simpa[Act.eval,j] using k
 |
  const c=>
  simp only[ev] at b;cases d:DG c with
  |false=>simp[d] at b
  |true=>simp only[d,D1,I.injEq] at b;subst b;exact VR.ak d
 |
  global g=>
  simp only[ev] at b;cases d:AD g τ.a with
  |false=>simp[d] at b
  |
   true=>
   simp only[d,D1,I.injEq] at b;subst b;have l:=e.1.a g (by simpa[AK] using d);have:=VR.ptr (off:=0) l;simpa[AG,Act.eval] using this
 |func f=>simp only[ev,I.injEq] at b;subst b;exact .func (.func f) .nil .nil
def JE (c:C5 P τ ρ h w) (d:Tv ρ fr a):∀{xs:List BU} {vs:AH},O8 τ fr xs=I vs->LR ρ vs (xs.map a.eval)
 |[],vs,b=>by simp[O8] at b;subst b;exact .nil
 |x::xs,vs,b=>by
  simp only[O8] at b;split at b
  .rename_i v g e f
   cases b;exact .cons (EK c d e) (JE c d f)
  .cases b
def OE (d:C5 P τ ρ h w) (e:Tv ρ fr a) {x:Option BU} {v:Option Aa} (b:ZK τ fr x=I v):
 (x=Z/\v=Z)\/∃o u,x=I o/\v=I u/\VR ρ u (a.eval o):=by
 cases x with
 |none=>simp[ZK] at b;exact .inl ⟨B,b.symm⟩
 |some o=>
  simp only[ZK] at b;cases c:ev τ fr o with
  |none=>simp[c] at b
  |some u=>simp[c] at b;subst b;exact .inr ⟨o,u,B,B,EK d e c⟩
def Ca (w:AM) (o:Obj):(w.alloc o).heap[w.heap.size]?=I o:=by
 show(w.heap.push o)[w.heap.size]?=_;simp
def BR.row {rest:AH} (d:LR C2 vs D0) (s:Nat) (f:∀i,P.info? e=I i->s*i.size<=LT rest) (lo U:Nat) (a:Nat×Nat)
 (g:a.1=a.2\/(lo=1/\U=0/\LT D0+LT rest<=a.1)\/(lo<=a.1/\(a.1<=a.2\/lo<U)/\a.2<=U)) (x:Bool) (h:x=Ag->rest=[]) (w:AM):
 BR P C2 ⟨w.heap.size,0,s⟩ (w.alloc (.cells ⟨D0++rest⟩ e a)) (.cells (T.laid vs 0 .nil) (LT vs) e lo U x):=by
 have j:=d.length;refine⟨⟨D0++rest⟩,a,Ca w _,?_,λi c=>?_,λi v b=>?_,?_,λe=>⟨B,Jq⟩⟩
 .simp;omega
 .have:=f i c;simp;omega
 .rw[T.O] at b
  by_cases c:0<=i/\i<0+LT vs
  .rw[Bi c] at b
   simp only[DL] at b;let⟨v',k,l⟩:=d.get b;refine⟨G,v',?_,l⟩;have:i<LT D0:=G;simp only[Ba,Db];rw[AB this,k]
  .rw[Bm c,T.C] at b;cases b
 .simpa using g
def QX (a:C5 P τ ρ h w) (e:Ai) {rest:AH} (b:LR ρ vs D0) (s:Nat) (c:∀i,P.info? e=I i->s*i.size<=LT rest):
 C5 P τ (ρ.ah h.a ⟨w.heap.size,0,s⟩) (HY h e vs) (w.alloc (.cells ⟨D0++rest⟩ e))/\
 Mj ρ w h.a (ρ.ah h.a ⟨w.heap.size,0,s⟩) (w.alloc (.cells ⟨D0++rest⟩ e)) (HY h e vs).a (HY h e vs).lo:=by
 have d:=Ren.M (a.1.fresh h.a (Ae _)) ⟨w.heap.size,0,s⟩;exact a.alloc (.cells ⟨D0++rest⟩ e) _ s (BR.row (b.mono d) s c 0 0 (0,0) (.inl B) Ah Jq w)
def Ua (a:C5 P τ ρ h w) (e:Ai) (b:LR ρ vs D0):
 C5 P τ (ρ.ah h.a ⟨w.heap.size,0,0⟩) (BN h e vs) (w.alloc (.cells ⟨D0⟩ e))/\
 Mj ρ w h.a (ρ.ah h.a ⟨w.heap.size,0,0⟩) (w.alloc (.cells ⟨D0⟩ e)) (BN h e vs).a (BN h e vs).lo:=by
 have c:=Ren.M (a.1.fresh h.a (Ae _)) ⟨w.heap.size,0,0⟩;have:=a.alloc (.cells ⟨D0++[]⟩ e) _ 0 (BR.row (b.mono c) 0 (λ_ _=>Jq) 0 0 (0,0) (.inl B) Ag (λ_=>rfl) w);unfold BN;simpa using this
def Wo (a:C5 P τ ρ h w) (t:Ai) (b:VR ρ v v') {s:Sem RM}
 (c:s.run P w=.ok (.value (.pointer (I ⟨w.heap.size,0,Z⟩))) (w.alloc (.cells v'.cells t))):B6 P τ ρ h w s (AG h.a 0) (BN h t (AJ v)):=by
 obtain⟨d,e⟩:=Ua a t b.cellsOf;refine⟨_,_,_,_,c,.inl B,?_,d,e,WS.le_refl _⟩;have:=VR.ptr (ρ:=ρ.ah h.a ⟨w.heap.size,0,0⟩) (id:=h.a) (off:=0) (Ren.C _ _);simpa[AG] using this
def S7 (b:C5 P τ ρ h w) (t:Ai) (c:VR ρ v v') {a:Aa} (hb:K7 τ t v h=I (a,J)) {s:Sem RM}
 (d:s.run P w=.ok (.value (.pointer (I ⟨w.heap.size,0,Z⟩))) (w.alloc (.cells v'.cells t))):B6 P τ ρ h w s a J:=by
 simp only[K7,I.injEq,eD.injEq] at hb;obtain⟨rfl,rfl⟩:=hb;exact Wo b t c d
def FN (c:T Aa):∀(n off:Nat) (l:AH),DV c n off=I l->LT l=n/\∀(j:Nat) v,l[j]?=I v->c.get (off+j)=I v:=by
 intro n
 induction n with
 |zero=>intro off l a;cases a;exact⟨B,λj v f=>Jq⟩
 |succ n g=>
  intro off l a;change (match c.get off with
   |I v=>(match DV c n (A3 off) with|I l=>I (v::l)|Z=>Z)
   |Z=>Z)=I l at a
  cases b:c.get off with
  |none=>rw[b] at a;cases a
  |some v=>
   rw[b] at a;simp only[] at a;cases d:DV c n (A3 off) with
   |none=>rw[d] at a;cases a
   |some l'=>
    rw[d] at a;cases a;let⟨h,i⟩:=g _ _ d;refine⟨by simp[h],λj u e=>?_⟩;cases j with
    |zero=>cases e;exact b
    |succ j=>simp at e;have:=i j u e;rw[show off+(j+1)=A3 off+j by omega];exact this
def BR.cell {c:T Aa} {lo:Nat} {x:Bool} (hb:BR P ρ pl w (.cells c n e lo U x)) (a:c.get i=I v):
 ∃p,w.cell? ⟨pl.b,pl.o+i,Z⟩=I p/\VR ρ v p:=by
 let⟨C,j,d,k,l,f,m,o⟩:=hb;let⟨_,p,g,h⟩:=f i v a;exact⟨p,by simp[WX,d,g],h⟩
def EL (b o:Nat) (n:Nat):(Addr.add ⟨b,o,Z⟩ n)=⟨b,o+n,Z⟩:=by
 unfold Addr.add;split
 .rename_i e;subst e;rfl
 .rfl
def Ko {c:T Aa} {lo:Nat} {x:Bool} (hb:BR P ρ pl w (.cells c n e lo U x)) (g:DV c k off=I l):
 ∃l',LR ρ l l'/\(loadCells ⟨pl.b,pl.o+off,Z⟩ k).run P w=.ok ⟨l'⟩ w/\(∀j u,l'[j]?=I u->w.cell? ⟨pl.b,pl.o+off+j,Z⟩=I u):=by
 let⟨h,i⟩:=FN c k off l g;have:∃l',LR ρ l l'/\∀j u,l'[j]?=I u->w.cell? ⟨pl.b,pl.o+off+j,Z⟩=I u:=by
  clear g h
  induction l generalizing off with
  |nil=>exact⟨[],.nil,λj u a=>Jq⟩
  |cons v l m=>
   let⟨v',o,p⟩:=hb.cell (i 0 v B);obtain⟨l',d,f⟩:=m (λj u a=>show off+1+j=off+(j+1) by omega▸i (j+1) u (by simpa using a));refine⟨v'::l',.cons p d,λj u a=>?_⟩;cases j with
   |zero=>cases a;exact o
   |succ j=>simp at a;have:=f j u a;rw[show pl.o+off+(j+1)=pl.o+(off+1)+j by omega];exact this
 let⟨l',d,f⟩:=this;refine⟨l',d,?_,f⟩;have q:LT l'=k:=by rw[←d.length,h]
 rw[←q];exact run_loadCells_list w _ l' λj u a=>by rw[EL];exact f j u a
def Uq (T:BM P τ) (e:ρ id=I pl) (o:h.t.get id=I hb) (k:BR P ρ pl w hb)
 (a:Bw τ t h id off=I v):∃u,(loadVar t ⟨pl.b,pl.o+off,Z⟩).run P w=.ok u w/\VR ρ v u:=by
 unfold Bw at a;rw[o] at a;cases hb with
 |cells c n el lo U x=>
  cases f:τ.ds.get t with
  |none=>simp[f] at a
  |some d=>
   simp only[f] at a;simp only[loadVar,AI,Tp (T.ds t d f),Aw];cases m:J5 d with
   |true=>
    simp only[m,D1] at a;cases g:τ.b.get t with
    |none=>simp[g] at a
    |some i=>
     simp only[g] at a;cases j:DV c i.size off with
     |none=>simp[j] at a
     |some l=>
      simp only[j,I.injEq] at a;subst a;let⟨l',p,q,_⟩:=Ko k j;exact⟨.agg ⟨l'⟩,by simp[aV (T.b t i g),q],.agg p⟩
   |false=>
    simp only[m,I0] at a;let⟨u,r,s⟩:=k.cell a;exact⟨u,Jq,s⟩
 |_=>simp at a
def OJ (T:BM P τ) (d:C5 P τ ρ h w) (e:ρ id=I pl)
 (a:Bw τ t h id off=I v):∃f,(loadVar t ⟨pl.b,pl.o+off,Z⟩).run P w=.ok f w/\VR ρ v f:=by
 cases c:h.t.get id with
 |none=>unfold Bw at a;simp[c] at a
 |some hb=>exact Uq T e c (d.1.hr id pl hb e c) a
end
section
variable{P:AN} {τ:Bb} {ρ:Ren} {h:Y} {w:AM}
def N7 (C:Array Aa):Nat->AH->Array Aa
 |_,[]=>C
 |i,v::l=>N7 (C.setIfInBounds i v) (i+1) l
def FV:∀(l:AH) (C:Array Aa) (i:Nat),(N7 C i l).size=C.size
 |[],_,_=>rfl
 |v::l,C,i=>by simp[N7,FV l]
def Q4:∀(l:AH) (C:Array Aa) (i j:Nat),i+LT l<=C.size->(N7 C i l)[j]?=if i<=j/\j<i+LT l then l[j-i]? else C[j]?
 |[],C,i,j,_=>by simp[N7];omega
 |
  v::l,C,i,j,b=>by
  simp only[AO] at b;have c:i+1+LT l<=(C.setIfInBounds i v).size:=by simp;omega
  rw[N7,Q4 l _ (i+1) j c];by_cases a:i+1<=j/\j<i+1+LT l
  .rw[Bi a,Bi (by simp;omega)]
   obtain⟨d,rfl⟩:∃d,j=i+1+d:=⟨j-i-1,G⟩;rw[show i+1+d-(i+1)=d by omega,show i+1+d-i=d+1 by omega];simp
  .rw[Bm a]
   by_cases e:j=i
   .subst e
    rw[Bi (by simp)];simp[show j<C.size by omega]
   .rw[Bm Jq]
    rw[AY G]
def setCell_eq {o:Nat} {C:Array Aa} {a:Nat×Nat} (hb:w.heap[b]?=I (.cells C e a)):
 w.setCell ⟨b,o,Z⟩ v={w with heap:=w.heap.setIfInBounds b (.cells (C.setIfInBounds o v) e a)}:=by
 unfold World.setCell;congr 1;apply JN;intro i;by_cases U:i=b
 .subst U
  have c:=(dM.1 hb).1;have d:=(dM.1 hb).2;rw[B3,Bi B,hb];simp[c]
 .rw[B3]
  rw[AY (Ne.symm U)];simp[Ne.symm U]
def Ir (b o:Nat) (e:Ai) (c:Nat×Nat):∀(vs:AH) (i:Nat) (C:Array Aa) (w:AM),w.heap[b]?=I (.cells C e c)->
 (∀u∈vs,u.oneCell'=Ag)->o+i+LT vs<=C.size->(∀j,j<LT vs->¬(c.1<=o+i+j/\o+i+j<c.2))->
 (storeCells ⟨b,o,Z⟩ vs i).run P w=.ok () {w with heap:=w.heap.setIfInBounds b (.cells (N7 C (o+i) vs) e c)}
 |
  [],i,C,w,hb,_,_,_=>by
  have d:=(dM.1 hb).1;have h:=(dM.1 hb).2;have:w.heap.setIfInBounds b (.cells C e c)=w.heap:=by
   apply JN;intro j;by_cases a:j=b
   .subst a;simp[d,h]
   .rw[AY (Ne.symm a)]
  simp[storeCells,N7,this]
 |
  v::vs,i,C,w,hb,g,k,f=>by
  simp only[AO] at k f;have d:=(dM.1 hb).1;have l:w.cell? ⟨b,o+i,Z⟩=I C[o+i]:=by simp[WX,hb,show o+i<C.size by omega]
  have m:w.frozen? ⟨b,o+i,Z⟩=false:=by
   have:=f 0 G;simp only[World.frozen?,hb];simpa using this
  have n:=Ir b o e c vs (i+1) (C.setIfInBounds (o+i) v) {w with heap:=w.heap.setIfInBounds b (.cells (C.setIfInBounds (o+i) v) e c)}
   (by simp[d]) (λu p=>g u (Az _ p)) (by simp;omega) (λj a=>by have:=f (j+1) G;rwa [show o+i+(j+1)=o+(i+1)+j by omega] at this)
  simp only[storeCells,AI,EL,run_store P w _ v _ (g v (Av ..)),l,m,BE,if_false,Aw,setCell_eq hb];rw[n];simp only[N7];congr 2;rw[show o+(i+1)=o+i+1 by omega];apply JN;intro j;by_cases a:j=b
  .subst a;simp[d]
  .rw[AY (Ne.symm a),AY (Ne.symm a),AY (Ne.symm a)]
def Aal {lo:Nat} (a:RP n lo U off k=Ag):off+k<=n/\(U<=lo\/off+k<=lo\/U<=off):=by
 simp only[RP,An,Dm] at a;refine⟨Ac a.1,?_⟩;rcases a.2 with(h|h)|h
 .exact .inl (Ac h)
 .exact .inr (.inl (Ac h))
 .exact .inr (.inr (Ac h))
def Aml {a:Nat×Nat} {lo sz:Nat} (c:a.1=a.2\/(lo=1/\U=0/\sz<=a.1)\/(b+lo<=a.1/\(a.1<=a.2\/lo<U)/\a.2<=b+U)) (d:off+k<=n) (e:b+n<=sz)
 (f:U<=lo\/off+k<=lo\/U<=off):∀j,j<k->¬(a.1<=b+off+j/\b+off+j<a.2):=by
 intro j g ⟨i,l⟩;rcases c with h|⟨_,_,h⟩|⟨h,_,J⟩<;>omega
def HI (p:C5 P τ ρ h w) (e:ρ id=I pl) (a:Gi h id off vs=I J) (l:LR ρ vs D0):
 ∃w',(storeCells ⟨pl.b,pl.o+off,Z⟩ D0).run P w=.ok () w'/\C5 P τ ρ J w'/\Mj ρ w h.a ρ w' J.a J.lo/\J.lo<=h.lo:=by
 unfold Gi at a;cases d:h.t.get id with
 |none=>simp[d] at a
 |
  some hb=>
  cases hb with
  |
   cells c n el lo U x=>
   simp only[d] at a;cases g:RP n lo U off (LT vs)&&vs.all one with
   |false=>simp[g] at a
   |
    true=>
    simp only[g,D1,I.injEq] at a;subst a;simp only[An] at g;obtain⟨u,y⟩:=g;obtain⟨z,A⟩:=Aal u;have D:=p.1.hr id pl _ e d;obtain⟨C,m,q,r,E,F,s,H⟩:=D;have R:=l.length;have K:=Ir (P:=P) pl.b (pl.o+off) el m D0 0 C w q (l.C y) G (λj S=>by have:=Aml s z r A j G;simpa using this);refine⟨_,K,?_⟩;have L:=(dM.1 q).1;have M:BR P ρ pl {w with heap:=w.heap.setIfInBounds pl.b (.cells (N7 C (pl.o+off+0) D0) el m)} (.cells (T.laid vs off c) n el lo U x):=by
     refine⟨N7 C (pl.o+off+0) D0,m,by simp[L],by rw[FV];exact r,λi k=>by rw[FV];exact E i k,λi v f=>?_,by rw[FV];exact s,by rw[FV];exact H⟩;rw[T.O] at f;rw[Q4 _ _ _ _ G];by_cases k:off<=i/\i<off+LT vs
     .rw[Bi k] at f
      let⟨v',a1,o⟩:=l.get f;refine⟨G,v',?_,o⟩;rw[Bi G,show pl.o+i-(pl.o+off+0)=i-off by omega];exact a1
     .rw[Bm k] at f
      let⟨a1,v',o,N⟩:=F i v f;refine⟨a1,v',?_,N⟩;rw[Bm G];exact o
    let⟨O,Q⟩:=p.write e d B Jq (λb hb=>Jq) M B B B;exact⟨O,Q,(h.C id).1⟩
  |_=>simp[d] at a
def Sc (T:BM P τ) (f:C5 P τ ρ h w) (e:ρ id=I pl) (a:BA τ t h id off v=I J) (d:VR ρ v v'):
 ∃w',(storeVar t ⟨pl.b,pl.o+off,Z⟩ v').run P w=.ok () w'/\C5 P τ ρ J w'/\Mj ρ w h.a ρ w' J.a J.lo/\J.lo<=h.lo:=by
 unfold BA at a;cases U:τ.b.get t with
 |none=>simp[U] at a
 |some i=>
  simp only[U] at a;cases c:Am (AJ v).length i.size with
  |false=>simp[c] at a
  |true=>
   simp only[c,D1] at a;have g:=Af c;let⟨w',j,k⟩:=HI f e a d.cellsOf;refine⟨w',?_,k⟩;have:v'.cells.size=i.size:=by rw[←g,d.cellsOf.length,EZ]
   simp[storeVar,aV (T.b t i U),this,j]
end
section
variable{P:AN} {τ:Bb} {ρ:Ren} {h:Y} {w:AM} {ox oy:BU}
def Aro {a:Array Aa} (h:aI a=l):(Value.agg a)=.agg ⟨l⟩:=by subst h;rfl
def He (T:BM P τ) {cs b:AH} (a:Le τ t cs off=I v) (e:LR ρ cs b) (w:AM):
 ∃j,(part t ⟨b⟩ off).run P w=.ok j w/\VR ρ v j:=by
 unfold Le at a;cases c:τ.ds.get t with
 |none=>simp[c] at a
 |some d=>
  simp only[c] at a;simp only[part,AI,Tp (T.ds t d c),Aw];cases f:J5 d with
  |true=>
   simp only[f,D1] at a;cases U:τ.b.get t with
   |none=>simp[U] at a
   |some i=>
    simp only[U,I.injEq] at a;subst a;refine⟨.agg ⟨(b.drop off).take i.size⟩,?_,.agg ((e.drop off).take i.size)⟩;simp only[if_true,AI,aV (T.b t i U),Aw,Bc];congr 1;refine Aro ?_;simp[qG]
  |false=>
   simp only[f,I0] at a;let⟨j,g,h⟩:=e.get a;exact⟨j,Jq,h⟩
def Si {b c:Type} {r:Result b} {a:b} (h:r=.ok a w) (f:b->AM->Result c):r.andThen f=f a w:=Jq
def OK (T:BM P τ):∀(d:Nat) (t:Ai) (x y B k:Aa) (b:Bool) (w:AM),IZ τ d t x y=I b->VR ρ x B->VR ρ y k->
 (Op.equalIn d t B k).run P w=.ok b w:=by
 intro d
 induction d with
 |zero=>intro t x y B k b w e;simp[IZ] at e
 |succ d p=>
  intro t x y B k b w e g h;simp only[IZ] at e;cases j:τ.ds.get t with
  |none=>simp[j] at e
  |some C=>
   have i:=aA (T.ds t C j);simp only[j] at e;split at e
   .cases g;cases h;simp at e;simp[Op.equalIn,i,e]
   .cases g;cases h
    split at e
    .rename_i D;subst D;simp at e;simp[Op.equalIn,i,e]
    .cases e
   .cases g;cases h;rw[OQ] at e;simp at e;simp[Op.equalIn,i,e]
   .cases g;cases h<;>(cases e;simp[Op.equalIn,i])
   .cases g;cases h;cases e;simp[Op.equalIn,i]
   .cases g;cases h;cases e;simp[Op.equalIn,i]
   .cases g;cases h;cases e;simp[Op.equalIn,i]
   .cases g;cases h<;>(cases e;simp[Op.equalIn,i])
   .cases g;cases h;cases e;simp[Op.equalIn,i]
   .cases g;cases h<;>(cases e;simp[Op.equalIn,i])
   .cases g;cases h;cases e;simp[Op.equalIn,i]
   .cases g;cases h;cases e;simp[Op.equalIn,i]
   .cases g;cases h;cases e;simp[Op.equalIn,i]
   .cases g;cases h;cases e;simp[Op.equalIn,i]
   .rename_i G xs ys
    cases l:τ.f t with
    |false=>simp[l] at e
    |true=>
     simp only[l,D1] at e;let⟨L⟩:=xs;let⟨M⟩:=ys;cases g with|agg E=>
     cases h with|agg F=>
     have n:P.fieldsOf t=G:=by simp[Program.fieldsOf,T.ds t _ j]
     rw[run_equalIn_struct w d t _ _ (n▸T.ds t _ j) (T.eq t l).1,n];clear j i n l;generalize (aI G)=q at e
     induction q generalizing b with
     |nil=>cases e;simp[Op.eqFields]
     |cons f q r=>
      simp only[tJ] at e;simp only[Op.eqFields];by_cases m:f.name= "_"
      .rw[Bi m] at e
       rw[Bm Jq];exact r b e
      .rw[Bm m] at e
       rw[Bi m];split at e
       .rename_i a c H K
        let⟨a',s,u⟩:=He T H E w;let⟨v,z,A⟩:=He T K F w;split at e
        .rename_i o
         have:=p f.type a c a' v Ag w o u A;simp only[AI,s,z,this,Aw,Qf,BE,if_false];exact r b e
        .rename_i o
         have:=p f.type a c a' v Ah w o u A;cases e;simp only[AI,s,z,this,Aw,Kz,if_true,Bc]
        .cases e
       .cases e
   .cases e
def Q6 {s:Sem Aa} (h:Hn s=I v) (w:AM):s.run P w=.ok v w:=by
 cases s<;>simp[Hn] at h;subst h;rfl
def Abt {op:UnOp} (a:fV op v=I u) (b:VR ρ v v') (w:AM):(Op.unary op v').run P w=.ok u w:=by
 cases b<;>simp only[fV] at a<;>first
  |exact Q6 a w
  |(simp at a;done)
def WU {op:UnOp} (a:fV op v=I u):aJ u=true:=by
 cases v<;>simp only[fV] at a<;>first
  |(cases op<;>simp[Op.unary,Op.intArith,Op.intBits,Hn,stuck,pure] at a<;>subst a<;>rfl)
  |(simp at a;done)
def FJ (a:¬(x=.nilIface/\y=.nilIface)\/(If ox||If oy)=Ag)
 (b:∀xs ys,x=.agg xs->y=.agg ys->P.eqGuardType P.depth t=Ah) (w:AM):(eqGuard op t ox oy x y).run P w=.ok () w:=by
 unfold eqGuard;cases op<;>first
  |rfl
  |skip
 all_goals
  simp only[Qf,BE,if_false];split
  .rcases a with h|h
   .exact Cf ⟨B,B⟩ h
   .cases ox<;>cases oy<;>first
     |rfl
     |(simp[If] at h;done)
  .rename_i xs ys
   simp[b xs ys B B]
  .rfl
def WG {k:Cq} {a b:Int} (h:Hn (binOp op t (.int k a) (.int k' b))=I u):aJ u=true:=by
 cases op<;>simp only[binOp,Op.shift,Op.intArith,Op.intDiv,Op.intBits,Op.intCmp,runtimePanic] at h<;>(repeat' split at h)<;>
  first
   |(simp[Hn,stuck,runtimePanic,program,bind,Sem.bind] at h;done)
   |(simp[Hn,pure] at h;subst h;rfl)
   |skip
def Wv {a b:Bd} (h:Hn (binOp op t (.string a) (.string b))=I u):aJ u=true:=by
 cases op<;>simp only[binOp,Op.stringOp] at h<;>(repeat' split at h)<;>
  first
   |(simp[Hn,stuck,unsupported] at h;done)
   |(simp[Hn,pure] at h;subst h;rfl)
   |skip
def L2 {b:Bool} (h:(Op.equalIn Op.maxDepth t x y).run P w=.ok b w)
 (d:∀k k' a c,¬(x=.int k a/\y=.int k' c)) (e:∀a c,¬(x=.string a/\y=.string c))
 (f:∀k a,x≠.float k a) (g:∀k a c,x≠.complex k a c):(binOp .eql t x y).run P w=.ok (.bool b) w/\(binOp .neq t x y).run P w=.ok (.bool (!b)) w:=by
 have i:(binOp .eql t x y)=(do pure (.bool (←Op.equal t x y))):=by
  unfold binOp;split<;>first
   |rfl
   |exact Cf ⟨rfl,rfl⟩ (d _ _ _ _)
   |exact Cf ⟨rfl,rfl⟩ (e _ _)
   |exact Cf rfl (f _ _)
   |exact Cf rfl (g _ _ _)
   |simp_all
 have j:(binOp .neq t x y)=(do pure (.bool (!(←Op.equal t x y)))):=by
  unfold binOp;split<;>first
   |rfl
   |exact Cf ⟨rfl,rfl⟩ (d _ _ _ _)
   |exact Cf ⟨rfl,rfl⟩ (e _ _)
   |exact Cf rfl (f _ _)
   |exact Cf rfl (g _ _ _)
   |simp_all
 rw[i,j];simp[Op.equal,h]
def Akx (T:BM P τ) {xs ys:Array Aa} {b:Bool} (a:IZ τ Op.maxDepth t (.agg xs) (.agg ys)=I b):P.eqGuardType P.depth t=false:=by
 unfold Op.maxDepth at a;rw[show(10000:Nat)=9999+1 from B] at a;rw[IZ] at a;cases c:τ.ds.get t with
 |none=>rw[c] at a;cases a
 |some e=>
  rw[c] at a;cases e with
  |struct DU=>
   cases d:τ.f t with
   |false=>simp[d] at a
   |true=>exact(T.eq t d).2
  |_=>cases a
def Abj {k:FloatKind} {a:Nat} {b:Bool} (c:IZ τ Op.maxDepth t (.float k a) y=I b):False:=by
 unfold Op.maxDepth at c;rw[show(10000:Nat)=9999+1 from B,IZ] at c;cases d:τ.ds.get t with
 |none=>rw[d] at c;cases c
 |some e=>rw[d] at c;cases e<;>cases c
def WC {k:FloatKind} {a c:Nat} {b:Bool} (d:IZ τ Op.maxDepth t (.complex k a c) y=I b):False:=by
 unfold Op.maxDepth at d;rw[show(10000:Nat)=9999+1 from B,IZ] at d;cases e:τ.ds.get t with
 |none=>rw[e] at d;cases d
 |some f=>rw[e] at d;cases f<;>cases d
def E8 (a:(eqGuard op t ox oy x y).run P w=.ok () w) (hb:(binOp op t x y).run P w=.ok u w):
 (do eqGuard op t ox oy x y;binOp op t x y:Sem Aa).run P w=.ok u w:=Jq
def Us (d:Nat) {a:Array (String×Ai)} (b:P.underlying t=I (.interface a)):(Op.equalIn (d+1) t .nilIface .nilIface).run P w=.ok Ag w:=by
 simp only[Op.equalIn,AI,aA b,Aw,Bc]
def LI {a:Array (String×Ai)} (b:P.underlying t=I (.interface a)):(Op.equalIn Op.maxDepth t .nilIface .nilIface).run P w=.ok Ag w:=
 Us 9999 b
def Alp (d:Nat) {i:KR} (f:P.underlying t=I (.pointer e)) (U:P.info? e=I i) (g:¬i.size=0) (b a c:Nat):
 (Op.equalIn (d+1) t (.pointer (I ⟨b,a,Z⟩)) (.pointer (I ⟨b,c,Z⟩))).run P w=.ok (Am a c) w:=by
 simp only[Op.equalIn,AI,aA f,aV U,Aw,ne_eq,g,not_false_eq_true,if_true,sameAddr,beq_self_eq_true,Bc];congr 1;rw[DJ];simp
def Yi (T:BM P τ) {j:Aa} (hb:Jo τ op t ox oy x y=I u) (f:VR ρ x x') (l:VR ρ y j) (w:AM):
 (do eqGuard op t ox oy x' j;binOp op t x' j:Sem Aa).run P w=.ok u w/\aJ u=true:=by
 unfold Jo at hb;split at hb
 .cases f;cases l
  have hb:=Rm (t:=t) hb;exact⟨E8 (FJ (.inl (by simp)) (by simp) w) (Q6 hb w),WG hb⟩
 .cases f;cases l
  have hb:=Yf (t:=t) hb;exact⟨E8 (FJ (.inl (by simp)) (by simp) w) (Q6 hb w),Wv hb⟩
 .cases f;cases l
  cases d:If ox||If oy with
  |false=>simp[d] at hb
  |
   true=>
   simp only[d,D1] at hb;split at hb
   .rename_i H o
    cases hb;exact⟨E8 (FJ (.inr d) (by simp) w) (L2 (LI (T.ds _ _ o)) (by simp) (by simp) (by simp) (by simp)).1,B⟩
   .rename_i H o
    cases hb;exact⟨E8 (FJ (.inr d) (by simp) w) (L2 (LI (T.ds _ _ o)) (by simp) (by simp) (by simp) (by simp)).2,B⟩
   .cases hb
 .rename_i a b
  have Cw:∀{e:Ai} {i:KR},τ.ds.get t=I (.pointer e)->τ.b.get e=I i->(Am a.block b.block&&!(Am i.size 0))=Ag->
   (Op.equalIn Op.maxDepth t x' j).run P w=.ok (Am a.off b.off) w/\x'≠.nilIface/\(∀k n,x'≠.int k n)/\(∀s,x'≠.string s)/\(∀k n,x'≠.float k n)/\(∀k n m,x'≠.complex k n m)/\(∀c,x'≠.agg c):=by
   intro e i o U d;cases f with|@ptr id off pl K=>
   cases l with|@ptr L D W F=>
   simp only[An,Bool.not_eq_true'] at d;have M:id=L:=Af d.1;subst M;rw[K] at F;cases F;have N:¬i.size=0:=λg=>by rw[g] at d;simp at d
   refine⟨?_,by simp,by simp,by simp,by simp,by simp,by simp⟩;have:=Alp (P:=P) (w:=w) 9999 (T.ds _ _ o) (T.b _ _ U) N pl.b (pl.o+off) (pl.o+D);rw[show Am (pl.o+off) (pl.o+D)=Am off D from by rw[DJ];simp] at this;exact this
  split at hb
  .rename_i e _ o
   split at hb
   .rename_i i U
    cases d:Am a.block b.block&&!(Am i.size 0) with
    |false=>simp[d] at hb
    |true=>
     simp only[d,D1,I.injEq] at hb;subst hb;let⟨r,v,z,A,C,k6,E⟩:=Cw o U d;exact⟨E8 (FJ (.inl λh=>v h.1) (λxs _ h _=>Cf h (E xs)) w) (L2 r (λk _ a _ h=>z k a h.1) (λa _ h=>A a h.1) C k6).1,B⟩
   .cases hb
  .rename_i e _ o
   split at hb
   .rename_i i U
    cases d:Am a.block b.block&&!(Am i.size 0) with
    |false=>simp[d] at hb
    |true=>
     simp only[d,D1,I.injEq] at hb;subst hb;let⟨r,v,z,A,C,k6,E⟩:=Cw o U d;exact⟨E8 (FJ (.inl λh=>v h.1) (λxs _ h _=>Cf h (E xs)) w) (L2 r (λk _ a _ h=>z k a h.1) (λa _ h=>A a h.1) C k6).2,B⟩
   .cases hb
  .cases hb
 .rename_i O Q R X
  have guard:∀b,IZ τ Op.maxDepth t x y=I b->(Op.equalIn Op.maxDepth t x' j).run P w=.ok b w/\(eqGuard op t ox oy x' j).run P w=.ok () w/\
   (∀k k' a p,¬(x'=.int k a/\j=.int k' p))/\(∀a p,¬(x'=.string a/\j=.string p))/\(∀k a,x'≠.float k a)/\(∀k a p,x'≠.complex k a p):=by
   intro b q;refine⟨OK T _ t x y x' j b w q f l,FJ (.inl λg=>?_) (λxs ys S V=>?_) w,λk k' a p g=>?_,λa p g=>?_,λk a g=>?_,λk a p g=>?_⟩
   .obtain⟨rfl,rfl⟩:=g;cases f;cases l;exact R B B
   .subst S;subst V
    cases f;cases l;exact Akx T q
   .obtain⟨rfl,rfl⟩:=g;cases f;cases l;exact O _ _ _ _ B B
   .obtain⟨rfl,rfl⟩:=g;cases f;cases l;exact Q _ _ B B
   .subst g;cases f;exact Abj q
   .subst g;cases f;exact WC q
  split at hb
  .split at hb
   .rename_i b q
    cases hb;let⟨r,v,z,A,C,k6⟩:=guard b q;exact⟨E8 v (L2 r z A C k6).1,B⟩
   .cases hb
  .split at hb
   .rename_i b q
    cases hb;let⟨r,v,z,A,C,k6⟩:=guard b q;exact⟨E8 v (L2 r z A C k6).2,B⟩
   .cases hb
  .cases hb
end
section
variable{P:AN} {τ:Bb} {ρ:Ren} {h:Y} {w:AM} {c:Bool} {len cap:Nat}
def Aiw (h:Fs v=I n):∃k,v=.int k (AQ n):=by
 unfold Fs at h;split at h
 .rename_i k m;cases h;exact⟨k,rfl⟩
 .cases h
def E7 (h:Fs v=I n) (a:VR ρ v v'):∃k,v'=.int k (n:Int):=by
 obtain⟨k,rfl⟩:=Aiw h;cases a;exact⟨k,B⟩
def C1 {a:Type} {e:Option a} {u:a} (h:(bif c then e else Z)=I u):c=Ag/\e=I u:=Jq
def All {a:Type} {x y:Option a} {u:a} (h:(bif c then x else y)=I u):(c=Ag/\x=I u)\/(c=Ah/\y=I u):=Jq
def kF {a:Type} {e:Option a} {u:a} (h:(bif c then Z else e)=I u):c=Ah/\e=I u:=Jq
def Dh {a b:Bool} (h:(a&&b)=Ag):a=Ag/\b=true:=Jq
def PO (T:BM P τ) {b c:Aa} (a:EE τ t x b=I u) (e:VR ρ x x') (f:VR ρ b c) (w:AM):
 ∃d,(Instr.indexAt t x' c).run P w=.ok d w/\VR ρ u d:=by
 unfold EE at a
 repeat' split at a
 all_goals first|cases a;done|
  rename_i g U _ l h;obtain⟨i,a⟩:=C1 a;cases a;have m:=AK▸i;obtain⟨k,rfl⟩:=E7 U f;cases e;rename_i j
  try have n:=j G
  refine⟨_,?_,.ptr (by assumption)⟩
  simp_all[Instr.indexAt,Instr.sureAddr,asIntOf,aA (T.ds _ _ g),aV (T.b _ _ h),EL,DD]
def Wn (T:BM P τ) {e f:Aa} (a:I8 τ t x e=I u) (g:VR ρ x x') (h:VR ρ e f) (w:AM):
 ∃c,(Instr.index t x' f).run P w=.ok c w/\VR ρ u c:=by
 unfold I8 at a;split at a
 .rename_i d U
  split at a
  .rename_i j
   let⟨o,a⟩:=C1 a;obtain⟨k,rfl⟩:=E7 U h;cases g with|agg l=>
   let⟨c,p,m⟩:=He T a l w;refine⟨c,?_,m⟩
   simp_all[Instr.index,asIntOf,aA (T.ds _ _ d),aV (T.b _ _ j)]
  .cases a
 .rename_i s i d U
  split at a
  .rename_i b hb
   cases a;obtain⟨k,rfl⟩:=E7 U h;cases g;refine⟨_,?_,.int _ _⟩;have hb':s[i]?=I b:=by
    have n:=(cG.1 hb).1;rw[getElem?_pos s i n];exact Cs I (cG.1 hb).2
   simp[Instr.index,asIntOf,aA (T.ds _ _ d),hb']
  .cases a
 .cases a
def PS (T:BM P τ) {s:Ai} {f:Nat} (a:GM τ s x f=I u) (c:VR ρ x x') (w:AM):
 ∃b,(Instr.fieldAt s x' f).run P w=.ok b w/\VR ρ u b:=by
 unfold GM at a
 repeat' split at a
 all_goals first|cases a;done|
  rename_i d _ j k _ i U;obtain⟨e,a⟩:=kF a;cases a;have l:¬i.size=0:=λh=>by simp[h] at e
  cases c with|ptr g=>
  refine⟨_,?_,.ptr g⟩
  simp_all[Instr.fieldAt,Instr.sureAddr,aA (T.ds _ _ d),fieldPlace,aV (T.b _ _ U),EL,DD]
def Wp (T:BM P τ) {f:Nat} (a:TM τ t x f=I u) (c:VR ρ x x') (w:AM):
 ∃b,(Instr.field t x' f).run P w=.ok b w/\VR ρ u b:=by
 unfold TM at a
 repeat' split at a
 all_goals first|cases a;done|rename_i d _ h i;cases c with|agg e=>
  let⟨b,j,g⟩:=He T a e w;exact⟨b,by simp_all[Instr.field,aA (T.ds _ _ d),asAgg],g⟩
inductive fQ (ρ:Ren):Option Aa->Option Aa->Prop
 |none:fQ ρ Z Z
 |some {v v':Aa}:VR ρ v v'->fQ ρ (I v) (I v')
def Kk {isSlice:Bool} {lo d U e:Option Aa} {l a:Nat} (b:RO 0 lo=I l) (c:RO len U=I a) (f:fQ ρ lo d) (g:fQ ρ U e) (k:l<=a) (i:a<=cap) (j:U=Z->len<=cap) (w:AM):
 (Instr.sliceBounds isSlice len cap d e Z).run P w=.ok (l,a,cap) w:=by
 cases f<;>cases g<;>simp only[RO,I.injEq] at b c
 all_goals
  first|obtain⟨h,rfl⟩:=E7 b (by assumption)|subst b
  first|obtain⟨h,rfl⟩:=E7 c (by assumption)|subst c
  simp[*,Instr.sliceBounds,Instr.sliceBound,asIntOf]
def Pp {lo c:Option Aa} {d e f g:Aa} {l a:Nat} (b:RO 0 lo=I l) (h:Fs d=I a) (i:Fs f=I m) (j:fQ ρ lo c) (k:VR ρ d e) (n:VR ρ f g)
 (t:l<=a) (o:a<=m) (p:m<=cap) (w:AM):(Instr.sliceBounds Ag len cap c (I e) (I g)).run P w=.ok (l,a,m) w:=by
 obtain⟨q,rfl⟩:=E7 h k;obtain⟨r,rfl⟩:=E7 i n;cases j<;>simp only[RO,I.injEq] at b
 all_goals
  first|obtain⟨s,rfl⟩:=E7 b (by assumption)|subst b
  simp[*,Instr.sliceBounds,Instr.sliceBound,asIntOf]
def WW (T:BM P τ) {lo U E F d H:Option Aa} (c:C7 τ t x lo U E=I u) (o:VR ρ x x') (p:fQ ρ lo F) (q:fQ ρ U d) (r:fQ ρ E H) (w:AM):
 ∃K,(Instr.sliceAt t x' F d H).run P w=.ok K w/\VR ρ u K:=by
 unfold C7 at c;split at c
 .cases c
 rename_i O s;split at c
 ·
  split at c
  .rename_i l v g j
   obtain⟨k,c⟩:=C1 c;obtain⟨c1,f⟩:=Dh k;cases c;cases o;cases r;refine⟨_,?_,.string _⟩;simp[Instr.sliceAt,aA (T.ds _ _ s),Instr.slice,Kk g j p q (Ac c1) (Ac f) (λ_=>Ae _),Px]
  .cases c
 ·
  rename_i e a len cap;split at c
  .rename_i l v i g j d
   obtain⟨k,c⟩:=C1 c;obtain⟨c1,f⟩:=Dh k;have c1:=Ac c1;have f:=Ac f;cases c;cases o with|@slice id off sp _ _ pl o' y z=>
   cases r;have hb:=Kk (P:=P) (isSlice:=Ag) (len:=len) (cap:=cap+Hl sp pl) g j p q c1 G (λe=>by subst e;simp[RO] at j;omega) w;have L:cap+Hl sp pl-l=(cap-l)+Hl sp pl:=G
   refine⟨.slice (I ⟨pl.b,if cap+Hl sp pl=l then o' else o'+l*i.size,Z⟩) (v-l) (cap+Hl sp pl-l),?_,?_⟩
   .simp only[Instr.sliceAt,AI,aA (T.ds _ _ s),Instr.slice,hb,aV (T.b _ _ d),Aw,Bc]
    split<;>simp[EL]
   .rw[L];exact VR.slice (off:=off+l*i.size) (sp:=sp) y λh=>by have:=z G;split<;>omega
  .cases c
 ·
  rename_i e a len cap m';split at c
  .rename_i l M m i g A d
   split at c
   .rename_i v N
    obtain⟨k,c⟩:=C1 c;obtain⟨k,B⟩:=Dh k;obtain⟨c1,f⟩:=Dh k;have c1:=Ac c1;have f:=Ac f;have B:=Ac B;cases c;cases o with|@slice id off sp _ _ pl o' y z=>
    cases r with|some C=>
    cases q with|some D=>
    have hb:=Pp (P:=P) (len:=len) (cap:=cap+Hl sp pl) g N A p D C c1 f G w;refine⟨.slice (I ⟨pl.b,if m=l then o' else o'+l*i.size,Z⟩) (v-l) (m-l),?_,?_⟩
    .simp only[Instr.sliceAt,AI,aA (T.ds _ _ s),Instr.slice,hb,aV (T.b _ _ d),Aw,Bc]
     split<;>simp[EL]
    .refine VR.slice (off:=off+l*i.size) (sp:=I 0) (cap:=m-l) y λh=>?_
     simp[Hl] at h;have:=z G;split<;>omega
   .cases c
  .cases c
 ·
  split at c
  .rename_i i g j d
   cases c;cases o;cases r;refine⟨.slice Z 0 0,?_,.az 0 0⟩;simp[Instr.sliceAt,AI,aA (T.ds _ _ s),Instr.slice,Kk (P:=P) g j p q (Ae _) (Ae _) (λ_=>Ae _),Aw,aV (T.b _ _ d)]
  .cases c
 ·
  rename_i e m';split at c
  .rename_i M i g A d
   split at c
   .rename_i j
    cases c;cases o;cases r with|some C=>
    cases q with|some D=>
    refine⟨.slice Z 0 0,?_,.az 0 0⟩;simp[Instr.sliceAt,AI,aA (T.ds _ _ s),Instr.slice,Pp (P:=P) g j A p D C (Ae _) (Ae _) (Ae _),Aw,aV (T.b _ _ d)]
   .cases c
  .cases c
 ·
  rename_i n e id off;split at c
  .rename_i l v i g j d
   obtain⟨k,c⟩:=C1 c;obtain⟨c1,f⟩:=Dh k;have c1:=Ac c1;have f:=Ac f;cases c;cases o with|@ptr _ _ pl y=>
   cases r;have hb:=Kk (P:=P) (isSlice:=Ah) g j p q c1 f (λ_=>Ae _) w;refine⟨.slice (I ⟨pl.b,if n=l then pl.o+off else pl.o+off+l*i.size,Z⟩) (v-l) (n-l),?_,?_⟩
   .simp only[Instr.sliceAt,Instr.sureAddr,AI,aA (T.ds _ _ s),hb,aV (T.b _ _ d),Aw,Bc]
    split<;>simp[EL]
   .refine VR.slice y λh=>?_
    simp[Hl] at h;split<;>omega
  .cases c
 .cases c
end
section
variable{P:AN} {τ:Bb} {ρ:Ren} {h:Y} {w:AM}
def Dp {s:Sem Aa} (h:s.run P w=.ok v w'):(do pure (.value (←s)):Sem RM).run P w=.ok (.value v) w':=by
 simp[h]
def ABw {s:Sem Unit} (h:s.run P w=.ok () w'):(do s;pure .skip:Sem RM).run P w=.ok .skip w':=by
 simp[h]
def C5.drew (a:C5 P τ ρ h w):C5 P τ ρ h w.drew:=
 ⟨⟨a.1.fresh,λid pl hb e b=>(a.1.hr id pl hb e b).mono (Ren.le_refl _) B,a.1.b,a.1.ord,a.1.a⟩,a.2⟩
def Mj.M (h:Mj ρ w.drew nx C2 w' nx' lo):Mj ρ w nx C2 w' nx' lo:=
 ⟨h.C,h.size,h.O,h.new,h.a,h.os,h.out,h.tape,Ao (Yr _) h.drawn⟩
def GV (a old:Nat) (e:Ai) (w:AM):∃c,a<=c/\(choose (.appendCap a old e)).run P w=.ok c w.drew:=by
 refine⟨(Question.appendCap a old e).cut (w.tape w.drawn (.appendCap a old e)),?_,?_⟩
 .simp only[Question.cut];omega
 .simp only[run_choose,Question.forced,BE,if_false];rfl
def UC (w:AM) (C:Array Aa) (e:Ai) (n:Nat):
 (w.alloc (.cells C e)).freeze ⟨w.heap.size,n,Z⟩ 1=w.alloc (.cells C e (n,n+1)):=by
 unfold Gw World.alloc;simp only[Ts,if_false];congr 1;apply JN;intro i;rw[B3];by_cases U:w.heap.size=i
 .subst U;simp
 .rw[Bm U]
  simp only[kN];rw[Bm (Ne.symm U),Bm (Ne.symm U)]
def LR.bytes (bs:Bl):LR ρ (bs.map λb=>.int .u8 b.toNat) (bs.map λb=>.int .u8 b.toNat):=by
 induction bs with
 |nil=>exact .nil
 |cons b bs a=>exact .cons (.int _ _) a
def XP (T:BM P τ) (a:Gv τ e=Ag):∃i,P.info? e=I i/\i.size=1:=by
 unfold Gv at a;split at a
 .rename_i i U;exact⟨i,T.b _ _ U,Af a⟩
 .cases a
def Jb:∀{l:AH} {bs:Bl},G7 l=I bs->∃a:List Int,l=a.map (AL .u8)/\bs=a.map λn=>dR n.toNat
 |[],bs,h=>by simp[G7] at h;exact⟨[],B,h.symm▸B⟩
 |.int .u8 n::l,bs,h=>by
  unfold G7 at h;split at h<;>cases h;rename_i hb;let⟨a,b,c⟩:=Jb hb;exact⟨n::a,Jq,Jq⟩
def LR.bh {k:Cq}:∀{b:List Int} {l':AH},LR ρ (b.map (AL k)) l'->l'=b.map (AL k)
 |[],_,h=>by cases h;rfl
 |n::b,_,h=>by
  cases h with
  |cons a r=>cases a;rw[LR.bh r];rfl
def XS (a:List Int):∀s:Bd,a.foldl (λ(r:Bd) n=>r.push (dR n.toNat)) s=⟨⟨aI s.data++a.map λn=>dR n.toNat⟩⟩:=by
 induction a<;>simp_all[vU]
def LM:∀{l:AH} {bs:Bl},FU l=I bs->∃a:List Int,l=a.map (AL .i32)/\bs=a.flatMap λn=>(d5 n).data.toList
 |[],bs,h=>by simp[FU] at h;exact⟨[],B,h.symm▸B⟩
 |.int .i32 n::l,bs,h=>by
  unfold FU at h;split at h<;>cases h;rename_i hb;let⟨a,b,c⟩:=LM hb;exact⟨n::a,Jq,Jq⟩
def Wx (a:List Int):∀s:Bd,a.foldl (λ(r:Bd) n=>r++d5 n) s=⟨⟨aI s.data++a.flatMap λn=>(d5 n).data.toList⟩⟩:=by
 induction a<;>simp_all[Tr]
def PM (f:Aa->Bd->Sem (ForInStep Bd)) (b:∀(n:Int) (r:Bd),(f (.int .i32 n) r).run P w=.ok (.yield (r++d5 n)) w):
 ∀(a:List Int) (s:Bd),(forIn (a.map (AL .i32)) s f).run P w=.ok (a.foldl (λr n=>r++d5 n) s) w:=by
 intro a
 induction a with
 |nil=>intro s;simp
 |cons n a c=>
  intro s;simp only[Bp,tI,AI,b,Mr,F7];exact c _
def N0 (a:BD) (len cap:Nat) (b:List Int) (h:(loadCells a len).run P w=.ok (b.map (AL .i32)).toArray w):
 (Conv.runesToString (.slice (I a) len cap)).run P w=.ok (.string (b.foldl (λr n=>r++d5 n) ByteArray.empty)) w:=by
 unfold Conv.runesToString;simp only[AI,h,Mr,List.forIn_toArray];rw[PM _ Jq];simp
def PP (s:Bd):∀(b i:Nat) (a:Array Aa),a.toList.all aJ=Ag->(Conv.runesFrom s b i a).toList.all aJ=true:=by
 intro b
 induction b with
 |zero=>intro i a c;simpa[Conv.runesFrom] using c
 |succ b d=>
  intro i a c;simp only[Conv.runesFrom];split
  .exact d _ _ (by simp[c,aJ])
  .exact c
def B6.made {s:Sem RM} (a:s.run P w=.ok (.value v') w') (b:VR C2 v v') (c:C5 P τ C2 J w')
 (d:Mj ρ w h.a C2 w' J.a J.lo) (e:J.lo<=h.lo):B6 P τ ρ h w s v J:=⟨_,w',v',C2,a,.inl B,b,c,d,e⟩
def GD (e:C2 id=I pl) (d:pl.o=0) (n c:Nat) (a:c=n+pl.s):VR C2 (.slice (I ⟨id,0,Z⟩) n n) (.slice (I ⟨pl.b,0,Z⟩) n c):=by
 have:=VR.slice (off:=0) (sp:=Z) (len:=n) (cap:=n) (o':=0) e (λ_=>G);rw[a];simpa[Hl] using this
abbrev fJ (s:Bd) (c:Nat):AH:=(s.data.toList.map λb:UInt8=>AL .u8 b.toNat)++AE (c-aL s) (AL .u8 0)
abbrev rF (s:Bd):Array Value:=Conv.runesFrom s s.size 0 #[]
def NY (e:Ai) (s:Bd):∃c,aL s<=c/\(Conv.stringToBytes e s).run P w=
 .ok (.slice (I ⟨w.heap.size,0,Z⟩) s.size c) (w.drew.alloc (.cells ⟨fJ s c⟩ e (c,c+1))):=by
 obtain⟨c,a,d⟩:=GV (P:=P) s.size 0 e w;refine⟨c,a,?_⟩;have f:(s.data.map (λb=>AL .u8 b.toNat)++Cz (c-aL s) (AL .u8 0))=⟨fJ s c⟩:=by
  apply Et;simp
 have g:(fJ s c).length=c:=by
  simp only[Aj,A4,List.length_replicate,EZ];have:s.data.size=aL s:=rfl;omega
 simp only[Conv.stringToBytes,AI,d,Aw,newRow,run_newObj,Bc,markStringish,run_shape,EW];rw[f];have h:(w.drew.alloc (.cells ⟨fJ s c⟩ e)).shape? w.heap.size=I (e,c):=by
  have:=Ca w.drew (.cells ⟨fJ s c⟩ e);simp only[EW] at this;simp only[Jd,this];simp only[I.injEq,eD.injEq,true_and];exact g
 change ((match(w.drew.alloc (.cells ⟨fJ s c⟩ e)).shape? w.heap.size with
  |I (_,n)=>freeze ⟨w.heap.size,n,Z⟩ 1
  |_=>pure ():Sem Unit).run P (w.drew.alloc (.cells ⟨fJ s c⟩ e))).andThen _=_
 rw[h];simp only[run_freeze,Aw];have:=UC w.drew ⟨fJ s c⟩ e c;simp only[EW] at this;rw[this]
def N1 (e:Ai) (s:Bd):∃c,(rF s).size<=c/\(Conv.stringToRunes e s).run P w=
 .ok (.slice (I ⟨w.heap.size,0,Z⟩) (rF s).size c) (w.drew.alloc (.cells ⟨(rF s).toList++AE (c-(rF s).size) (AL .i32 0)⟩ e)):=by
 obtain⟨c,a,b⟩:=GV (P:=P) (rF s).size 0 e w;refine⟨c,a,?_⟩;have d:(rF s++Cz (c-(rF s).size) (AL .i32 0))=⟨(rF s).toList++AE (c-(rF s).size) (AL .i32 0)⟩:=by
  apply Et;simp
 simp only[Conv.stringToRunes,AI,b,Aw,newRow,run_newObj,Bc,EW];rw[d];rfl
def XY {u:Ai} {sz:Nat} (b:P.cellsOf u=sz) (c:sz≠0) (h0:off%sz=0) (d:off+sz<=n):liesAt P P.depth u (n/sz) off u 1=true:=by
 have a:P.depth=(2*(P.types.size+Made.depth)+1)+1:=rfl;rw[a];simp only[liesAt,Dm];refine .inl ?_;rw[a];have e:off/sz+1<=n/sz:=by
  have f:=Nat.div_mul_cancel (Nat.dvd_of_mod_eq_zero h0);rw[Nat.le_div_iff_mul_le G,Dw,Nat.one_mul,f];exact d
 simp only[rowAt,b,c,if_false,h0,sameLayout,beq_self_eq_true,Bool.true_or,Mh,gT,e,decide_true]
def Ym (T:BM P τ) (f:C5 P τ ρ h w) {src aa:Ai} (d:Ea τ src aa x h=I (u,J)) (q:VR ρ x x'):
 B6 P τ ρ h w (do pure (.value (←convert src aa x'))) u J:=by
 unfold Ea at d;split at d
 case h_2=>cases d
 rename_i sd dd hs hd;have k:=aA (T.ds _ _ hs);have m:=aA (T.ds _ _ hd);split at d
 ·
  cases d;cases q;refine B6.pure f (Dp ?_) (.int _ _);simp[convert,k,m,Conv.intToInt]
 .cases d
  cases q;refine B6.pure f (Dp ?_) (.string _);simp[convert,k,m,Conv.intToString]
 .cases d
  cases q;refine B6.pure f (Dp (v:=.string _) ?_) (.string _);simp[convert,k,m]
 ·
  rename_i e s;let⟨ag,d⟩:=C1 d;let⟨i,U,ab⟩:=XP T ag;cases q;split at d
  .rename_i g
   cases d;obtain⟨c,r,y⟩:=NY (w:=w) e s;have R:(s.data.toList.map λb:UInt8=>AL .u8 b.toNat).length=aL s:=Jq
   let⟨E,F⟩:=f.drew.alloc (.cells ⟨fJ s c⟩ e (c,c+1)) _ (c-aL s)
    (BR.row (LR.bytes (aI s.data)) (c-aL s) (λj O=>Jq) 1 0 (c,c+1) (.inr (.inl ⟨B,B,Jq⟩)) Ah Jq w.drew)
   rw[R] at E F;refine B6.made (Dp ?_) (GD (Ren.C _ _) B s.size c Jq) E F.M (WS.le_refl _);simp only[convert,AI,k,m,Aw,aA (T.ds _ _ g)];exact y
  .rename_i g
   have ah:(rF s).toList=CA s.size (aI s.data):=by
    rw[Aaj];simp
   rw[←ah] at d;cases d;obtain⟨c,r,y⟩:=N1 (w:=w) e s;have R:(rF s).toList.length=(rF s).size:=Jq
   let⟨E,F⟩:=f.drew.alloc (.cells ⟨(rF s).toList++AE (c-(rF s).size) (AL .i32 0)⟩ e) _ (c-(rF s).size)
    (BR.row (LR.ak (PP s _ _ _ Jq)) (c-(rF s).size) (λj O=>Jq) 0 0 (0,0) (.inl B) Ah Jq w.drew)
   refine B6.made (Dp ?_) (GD (Ren.C _ _) B _ c Jq) E F.M (WS.le_refl _);simp only[convert,AI,k,m,Aw,aA (T.ds _ _ g)];rw[R];exact y
  .cases d
 ·
  rename_i e _ _;split at d
  .rename_i g
   cases d;cases q;refine B6.pure f (Dp ?_) (.string _);simp[convert,k,m,aA (T.ds _ _ g),Conv.bytesToString]
  .rename_i g
   cases d;cases q;refine B6.pure f (Dp ?_) (.string _);simp[convert,k,m,aA (T.ds _ _ g),Conv.runesToString]
  .cases d
 ·
  rename_i e a len cap;cases q with|@slice id off sp _ _ pl o' p V=>
  have load:∀{c n Y lo U z l},h.t.get id=I (.cells c n Y lo U z)->DV c len off=I l->∃l',LR ρ l l'/\(loadCells ⟨pl.b,o',Z⟩ len).run P w=.ok ⟨l'⟩ w:=by
   intro c n Y lo U z l o H;let⟨l',A,K,_⟩:=Ko (f.1.hr _ _ _ p o) H;refine⟨l',A,?_⟩;by_cases L:len=0
   .subst L
    have:l'=[]:=by
     have:=(FN _ _ _ _ H).1;have h3:=A.length;cases l' with|nil=>rfl|cons _ _=>simp at h3;omega
    subst this;rfl
   .rw[V G];exact K
  split at d
  .rename_i c n Y lo U z g o
   split at d
   .rename_i l H
    split at d
    .rename_i bs hb
     cases d;let⟨l',A,K⟩:=load o H;obtain⟨W,rfl,rfl⟩:=Jb hb;have:=A.bh;subst this;refine B6.pure f (Dp ?_) (.string _);have y:=run_bytesToString w ⟨pl.b,o',Z⟩ len (cap+Hl sp pl) W K;rw[XS] at y;simpa[convert,k,m,aA (T.ds _ _ g)] using y
    .cases d
   .cases d
  .rename_i c n Y lo U z g o
   split at d
   .rename_i l H
    split at d
    .rename_i bs hb
     cases d;let⟨l',A,K⟩:=load o H;obtain⟨W,rfl,rfl⟩:=LM hb;have:=A.bh;subst this;refine B6.pure f (Dp ?_) (.string _);have y:=N0 (P:=P) (w:=w) ⟨pl.b,o',Z⟩ len (cap+Hl sp pl) W K;rw[Wx] at y;simpa[convert,k,m,aA (T.ds _ _ g)] using y
    .cases d
   .cases d
  .cases d
 ·
  rename_i e0 e a len cap;obtain⟨ai,d⟩:=C1 d;split at d
  .rename_i c n Y z g o
   cases d;cases q with|@slice id off sp _ _ pl o' p V=>
   let⟨C,Q,D,X,g3,g4,g5,M⟩:=f.1.hr _ _ _ p o;have aj:=(dM.1 D).1;have ad:Q.1=Q.2:=by
    rcases g5 with h|⟨h,_⟩|⟨A,K,h3⟩
    .exact h
    .cases h
    .omega
   let⟨E,F⟩:=f.write (w':=w.freeze ⟨pl.b,C.size,Z⟩ 1) p o B (by simp[Gw]) (λb hb=>by
    show(if(1:Nat)=0 then w else _).heap[b]?=_
    simp only[Ts,if_false];rw[B3,Bm (Ne.symm hb)]) (hb':=.cells c n Y 1 0 z)
    ⟨C,(C.size,C.size+1),by
     show(if(1:Nat)=0 then w else _).heap[pl.b]?=_
     simp only[Ts,if_false];rw[B3,Bi B,D];let⟨f1,f2⟩:=Q;simp only at ad;simp[ad],X,g3,g4,.inr (.inl ⟨B,B,Ae _⟩),M⟩ B B B
   have hb:=Af ai;subst hb;cases hs.symm.trans hd;refine B6.made (Dp ?_) (.slice p V) E F (h.C id).1;have N:w.shape? pl.b=I (Y,C.size):=by simp[Jd,D]
   simp[convert,k,m,aA (T.ds _ _ g),markStringish,N]
  .cases d
 ·
  rename_i t id off;split at d
  .rename_i i c n Y lo U z ae o
   let⟨r,d⟩:=C1 d;obtain⟨c1,S⟩:=Dh r;cases d;cases q with|@ptr _ _ pl p=>
   let⟨C,Q,D,X,g3,g4,g5,M⟩:=f.1.hr _ _ _ p o;refine B6.pure f (Dp ?_) (by have:=VR.ptr (off:=off) p;exact this);have N:w.shape? pl.b=I (Y,C.size):=by simp[Jd,D]
   have L:i.size≠0:=by intro hh;rw[hh] at c1;simp at c1
   have aj:off<n:=Jq
   have ak:¬(C.size<=pl.o+off):=G;simp[convert,Conv.unsafePointer,Conv.seenAt,viewAt,cellsIn,k,m,aV (T.b _ _ ae),N,L,ak]
  .cases d
 ·
  rename_i u id off;split at d
  .rename_i i c n e lo ae U o
   let⟨r,d⟩:=C1 d;let⟨r,c4⟩:=Dh r;let⟨r,c3⟩:=Dh r;obtain⟨c1,S⟩:=Dh r;cases d;cases q with|@ptr _ _ pl p=>
   have c1:=Af c1;subst c1;let⟨C,Q,D,X,g3,g4,g5,M⟩:=f.1.hr _ _ _ p o;let⟨M,g7⟩:=M B;refine B6.pure f (Dp ?_) (by have:=VR.ptr (off:=off) p;exact this);have N:w.shape? pl.b=I (u,C.size):=by simp[Jd,D]
   have L:i.size≠0:=by intro hh;rw[hh] at S;simp at S
   have c3:=Af c3;have c4:=Ac c4;have hv:(variablesAt ⟨pl.b,pl.o+off,Z⟩ u 1).run P w=.ok Ag w:=by
    have:=T.b _ _ U;simp only[variablesAt,AI,run_program,run_shape,N,Aw,Bc];congr 1;have af:P.cellsOf u=i.size:=by simp[uQ,this]
    rw[M,Ba,af];exact XY af L c3 Jq
   simp[convert,Conv.unsafePointer,Conv.seenAt,viewAt,k,m,aV (T.b _ _ U),N,L,hv]
  .cases d
 .cases d
end
section
variable{P:AN} {τ:Bb} {ρ:Ren} {h:Y} {w:AM} {sLen sCap:Nat}
def UA (T:BM P τ) (c:Qd τ t x=I u) (g:VR ρ x x') (w:AM):
 ∃d,(Instr.arrayAt t x').run P w=.ok d w/\VR ρ u d:=by
 unfold Qd at c;split at c
 .rename_i _ _ n e a len cap h
  let⟨i,c⟩:=C1 c;let⟨c1,f⟩:=Dh i;have c1:=Ac c1;have f:0<n:=Jq
  cases c;cases g with|@slice id off sp _ _ pl o' j k=>
  refine⟨.pointer (I ⟨pl.b,o',Z⟩),?_,?_⟩
  .have l:¬len<n:=G
   simp[Instr.arrayAt,aA (T.ds _ _ h),l]
  .rw[k G];exact .ptr j
 .cases c
def IN (z:AH):∀n,(Dy z n).length=n*LT z
 |0=>by simp[Dy]
 |n+1=>by simp[Dy,IN z n,Nat.succ_mul];omega
def V3 (z:AH):∀(n j:Nat),j<n*LT z->(Dy z n)[j]?=z[j%LT z]?
 |0,j,h=>Jq
 |n+1,j,h=>by
  rw[Nat.succ_mul] at h;rw[Dy];by_cases a:j<LT z
  .rw[AB a,JQ a]
  .rw[Bq G,V3 z n _ G]
   congr 1;exact(Nat.mod_eq_sub_mod G).symm
def OP (z:Array Aa) (n:Nat):(madeCells z (n*z.size)).toList=Dy (aI z) n:=by
 apply List.ext_getElem?;intro j;by_cases a:j<n*z.size
 .rw[V3 _ _ _ Jq]
  have b:j%z.size<z.size:=Je _ (Nat.pos_of_ne_zero λh=>by rw[h] at a;simp at a:0<z.size);simp[madeCells,a,b]
 .rw[CD (by simp[madeCells];omega),CD (by rw[IN];simp;omega)]
def LR.b1 {z a:AH} (h:LR ρ z a):∀n,LR ρ (Dy z n) (Ev.Dy a n)
 |0=>.nil
 |n+1=>h.append (h.b1 n)
def FZ (h:DG z=Ag):LR ρ (AJ z) (aI z.cells):=(VR.ak h).cellsOf
def Hb (h:E3 n=Ag):n<=1099511627776:=Ac h
def E9 (T:BM P τ) {i:KR} (U:τ.b.get t=I i) (a:CP τ t=I z):i.zero=I z/\DG z=true:=by
 unfold CP at a;simp[U] at a;split at a
 .rename_i e b
  let⟨c,d⟩:=C1 a;cases d;exact⟨b,c⟩
 .cases a
def PQ (T:BM P τ) (p:C5 P τ ρ h w) {l c l' j:Aa} (a:Dk τ t l c h=I (u,J)) (q:VR ρ l l') (r:VR ρ c j):
 B6 P τ ρ h w (do pure (.value (←Instr.makeSlice t l' j))) u J:=by
 unfold Dk at a;split at a
 .rename_i e m d s v g
  split at a
  .rename_i i z U x
   obtain⟨b,a⟩:=C1 a;obtain⟨b,y⟩:=Dh b;obtain⟨b,c4⟩:=Dh b;obtain⟨b,B⟩:=Dh b;obtain⟨c1,n⟩:=Dh b;have c1:=Ac c1;have n:=Hb n;have B:=Hb B;cases a;obtain⟨k,rfl⟩:=E7 v q;obtain⟨A,rfl⟩:=E7 g r;obtain⟨C,D⟩:=E9 T U x;have f:=run_make w t e i z (T.ds _ _ s) (T.b _ _ U) C k A (m:Int) (d:Int) G G Jq G;simp[UG] at f;have o:=FZ (ρ:=ρ) D;have E:z.cells.size=i.size:=by rw[←(Af y),o.length,EZ]
   rw[←E] at f;rw[(by rw[←OP]:madeCells z.cells (d*z.cells.size)=⟨Dy z.cells.toList d⟩)] at f;let⟨F,H⟩:=Ua p e (o.b1 d);exact B6.made (Dp f) (by
    have g:=VR.slice (ρ:=ρ.ah h.a ⟨w.heap.size,0,0⟩) (off:=0) (sp:=Z) (len:=m) (cap:=d) (Ren.C _ _) (λ_=>rfl);simpa[Hl] using g) F H (WS.le_refl _)
  .cases a
 .cases a
def Vx (b:VR ρ x x') (a:MM x=I n) (w:AM):(Builtin.lenOf x').run P w=.ok n w:=by
 unfold MM at a;split at a<;>simp at a<;>subst a<;>cases b<;>simp[Builtin.lenOf]
def GL (k:C5 P τ ρ h w) {d:Nat} (f:VR ρ x x') (b:MN d h x n=I l) (i:MM x=I m) (y:n<=m):
 ∃l',LR ρ l l'/\LT l=n*d/\(Builtin.firstCells d n x').run P w=.ok ⟨l'⟩ w:=by
 unfold MN at b;split at b
 .cases b
  cases f;exact⟨[],.nil,Jq,Jq⟩
 .rename_i a z A
  split at b
  .rename_i c C e lo U D o
   cases f with|@slice id off sp _ _ pl o' p q=>
   simp[MM] at i;let⟨l',j,r,_⟩:=Ko (k.1.hr _ _ _ p o) b;have t:=(FN _ _ _ _ b).1;refine⟨l',j,t,?_⟩;simp[Builtin.firstCells];by_cases u:n=0
   .subst u
    have:l'=[]:=by
     have v:=j.length;cases l' with|nil=>rfl|cons _ _=>simp at v;omega
    subst this;rw[Qg];rfl
   .rw[q G];exact r
  .cases b
 .rename_i E s
  let⟨g,b⟩:=C1 b;cases b;cases f;simp[MM] at i;have g:=Af g;subst g;refine⟨_,LR.bytes _,Jq,?_⟩;simp only[Builtin.firstCells,Bc];congr 1;apply Et;rw[Px];simp[EY]
 .cases b
def RB (T:BM P τ) {a:List Ai} (b:MU τ a.head?=Ah):
 a[0]?=Z\/∃t d,a[0]?=I t/\P.underlying t=I d/\(match d with|.int _=>Ag|_=>Ah)=false:=by
 cases a with
 |nil=>exact .inl B
 |cons t a=>
  simp[MU,List.head?_cons] at b;split at b
  .cases b
  .rename_i d c e
   refine .inr ⟨t,d,B,T.ds _ _ e,?_⟩;cases d<;>first
    |rfl
    |exact Cf rfl (c _)
  .cases b
def Gl (z:Array Aa) (n:Nat):Builtin.zeroCells z n=⟨Dy (aI z) n⟩:=by
 rw[←OP];rfl
def Tg (a:Nat):∀(r c:Nat),c<a+(a/4+192)->Builtin.growBy a r c<=a+(a/4+192)
 |0,c,h=>by simp[Builtin.growBy];omega
 |r+1,c,h=>by
  simp[Builtin.growBy];split
  .omega
  .exact(A8 (c+(c+768)/4) (a+(a/4+192))).elim (Tg a r _) λJ=>Cf J G
def nextslicecap_le (a c:Nat) (h:c<a):Builtin.nextslicecap a c<=a+a/4+192:=by
 unfold Builtin.nextslicecap;split
 .omega
 .split
  .omega
  .have:=Tg a 4 c G;omega
def Alu (h0:0<n) (a:E3 (n*b)=Ag) (c:E3 n=Ag):Tx n b=true:=by
 have a:=Hb a;have c:=Hb c;unfold Tx;have d:(n+n/4+192)*b<=(194*n)*b:=Ci _ G;rw[gO] at d;rw[Aq Jq,Aq Jq];rfl
def IQ (T:BM P τ) {st:Ai} {c:List Ai} {i:KR} {base:Option BD} {f:AH} (ty:Ai)
 (l:MU τ c.head?=Ah) (g:τ.ds.get st=I (.slice e)) (U:τ.b.get e=I i) (h:(Builtin.lenOf x).run P w=.ok n w)
 (j:(Builtin.firstCells i.size n x).run P w=.ok ⟨f⟩ w) (k:sLen+n<=sCap)
 (b:match base with|some a=>(storeCells (a.add (sLen*i.size)) f).run P w=.ok () w'|none=>w'=w):
 (Builtin.append_ ⟨st::c⟩ ty ⟨[.slice base sLen sCap,x]⟩).run P w=.ok (.slice base (sLen+n) sCap) w':=by
 rcases RB T l with h0|⟨t,d,h0,m,o⟩
 .unfold Builtin.append_
  simp[Db,B5,CO,AI,aA (T.ds _ _ g),aV (T.b _ _ U),Aw,h0];simp[AI,Bc,Aw,BE,if_false,h,k,if_true,j,Kz];cases base with
  |none=>simp only at b;subst b;rfl
  |some a=>simp[] at b;simp[b]
 .unfold Builtin.append_
  simp[Db,B5,CO,AI,aA (T.ds _ _ g),aV (T.b _ _ U),Aw,h0,aA m,Bc];cases d<;>first
   |(simp at o;done)
   |(
    simp[AI,Bc,Aw,BE,if_false,h,k,if_true,j,Kz];cases base with
    |none=>simp only at b;subst b;rfl
    |some a=>simp[] at b;simp[b])
def Py (T:BM P τ) {st:Ai} {b:List Ai} {i:KR} {base:Option BD} {old a:AH} (ty:Ai)
 (v:MU τ b.head?=Ah) (f:τ.ds.get st=I (.slice e)) (U:τ.b.get e=I i) (y:CP τ e=I z) (g:(Builtin.lenOf x).run P w=.ok n w)
 (h:(Builtin.firstCells i.size n x).run P w.drew=.ok ⟨a⟩ w.drew) (j:(Builtin.firstCells i.size sLen (.slice base sLen sCap)).run P w.drew=.ok ⟨old⟩ w.drew) (A:sCap<sLen+n)
 (hb:Tx (sLen+n) i.bytes=Ag):
 ∃c,sLen+n<=c/\(Builtin.append_ ⟨st::b⟩ ty ⟨[.slice base sLen sCap,x]⟩).run P w=
  .ok (.slice (I ⟨w.heap.size,0,Z⟩) (sLen+n) c) (w.drew.alloc (.cells ⟨old++a++Dy (aI z.cells) (c-(sLen+n))⟩ e)):=by
 let⟨C,l⟩:=Dh hb;have l:=Ac l;obtain⟨c,D,m⟩:=GV (P:=P) (sLen+n) sCap e w;refine⟨c,D,?_⟩;have o:¬(sLen+n<=sCap):=G;have p:¬(((sLen+n:Nat):Int)>IntKind.i64.max):=by simp[IntKind.max,IntKind.signed,IntKind.bits];omega
 have q:¬(Builtin.nextslicecap (sLen+n) sCap*i.bytes>2^48):=by
  have:=Ao (Ci i.bytes (nextslicecap_le (sLen+n) sCap A)) (Ac C);omega
 obtain⟨E,K⟩:=E9 T U y;have r:∀w,(zeroValue e).run P w=.ok z w:=λw=>Fz (T.b _ _ U) E w;have s:∀(k:Nat) w,(askRoom k).run P w=.ok () w:=λk w=>by unfold askRoom;split<;>simp
 have u:({toList:=old}++{toList:=a}++{toList:=Dy (aI z.cells) (c-(sLen+n))}:Array Aa)=⟨old++a++Dy (aI z.cells) (c-(sLen+n))⟩:=by
  apply Et;simp
 rcases RB T v with h0|⟨t,d,h0,F,H⟩
 .unfold Builtin.append_
  simp only[Db,B5,CO,AI,aA (T.ds _ _ f),aV (T.b _ _ U),Aw,h0];simp only[AI,Bc,Aw,BE,if_false,g,o,p,false_and,if_true,Kz,bG (T.b _ _ U),q,m,s,j,h,r,newRow,run_newObj,EW,Gl,u];rfl
 .unfold Builtin.append_
  simp only[Db,B5,CO,AI,aA (T.ds _ _ f),aV (T.b _ _ U),Aw,h0,aA F,Bc];cases d<;>first
   |(simp at H;done)
   |(
    simp only[AI,Bc,Aw,BE,if_false,g,o,p,false_and,if_true,Kz,bG (T.b _ _ U),q,m,s,j,h,r,newRow,run_newObj,EW,Gl,u];rfl)
def C5.kill (a:C5 P τ ρ h w) (id:Nat):C5 P τ ρ (h.put id .dead) w:=by
 refine⟨?_,a.2⟩;show Sl P τ ρ (h.t.ins id .dead).get h.a w;rw[F3];exact a.1.kill id
def C5.move (a:C5 P τ ρ h w) {pl':Pl} {hb':HB} (e:ρ id=I pl) (c:h.t.get id=I hb) (d:hb.live=Ag) (f:pl'.b=pl.b)
 (g:w'.heap.size=w.heap.size) (i:∀b,b≠pl.b->w'.heap[b]?=w.heap[b]?) (j:BR P (ρ.ah h.a pl') pl' w' hb') (k:w'.os=w.os) (l:w'.output=w.output) (m:w'.tape=w.tape) (hdr:w.drawn<=w'.drawn:=by exact Ae _):
 C5 P τ (ρ.ah h.a pl') ((h.put id .dead).new hb') w'/\Mj ρ w h.a (ρ.ah h.a pl') w' ((h.put id .dead).new hb').a ((h.put id .dead).new hb').lo:=by
 let⟨n,o⟩:=a.1.move e c d f g i j k l m (h.C id).2 a.2 hdr;refine⟨⟨?_,UF a.2⟩,o⟩;show Sl P τ _ ((h.t.ins id .dead).ins h.a hb').get (h.a+1) w';rw[F3,F3];exact n
def LR.length_eq (a:LR ρ l l'):LT l'=LT l:=a.length.symm
def R8 (T:BM P τ) (o:C5 P τ ρ h w) {f:List Ai} (ty:Ai) (a:LA τ f vs h=I (u,J)) (d:LR ρ vs D0):
 B6 P τ ρ h w (do pure (.value (←Builtin.append_ ⟨f⟩ ty ⟨D0⟩))) u J:=by
 unfold LA at a;split at a
 case h_2=>cases a
 rename_i st t2 f n;cases d with|cons p d=>
 cases d with|cons q d=>
 cases d;cases p;cases q;split at a
 case h_2=>cases a
 rename_i k e r s;split at a
 case h_2=>cases a
 rename_i i z U t;obtain⟨b,a⟩:=C1 a;obtain⟨b,v⟩:=Dh b;obtain⟨b,c4⟩:=Dh b;obtain⟨b,O⟩:=Dh b;obtain⟨c1,g⟩:=Dh b;have c1:0<n:=by simpa[AK] using c1
 have g:=Hb g;have O:=Hb O;cases a;obtain⟨x,y⟩:=E9 T U t;have l:=FZ (ρ:=ρ) y;have A:(aI z.cells).length=i.size:=by rw[←(Af v),l.length]
 obtain⟨c,N,C⟩:=GV (P:=P) n 0 e w;have D:IntKind.i64.wrap (AQ n)=(n:Int):=by
  unfold IntKind.wrap;simp[IntKind.signed,IntKind.bits];omega
 have E:¬(Builtin.nextslicecap n 0*i.bytes>2^48):=by
  unfold Builtin.nextslicecap;rw[Bi G];omega
 have F:=Nat.ne_of_gt (Nat.mul_pos c1 (by simpa[AK] using c4:0<i.size));have H:(Builtin.append_ ⟨st::t2::f⟩ ty ⟨[.slice Z 0 0,.int .i64 (AQ n)]⟩).run P w=
  .ok (.slice (I ⟨w.heap.size,0,Z⟩) n c) (w.drew.alloc (.cells ⟨Dy (aI z.cells) n++Dy (aI z.cells) (c-n)⟩ e)):=by
  have K:((#[]:Array Aa)++{toList:=Dy (aI z.cells) n}++{toList:=Dy (aI z.cells) (c-n)}:Array Aa)=⟨Dy (aI z.cells) n++Dy (aI z.cells) (c-n)⟩:=by
   apply Et;simp
  unfold Builtin.append_;simp only[Db,B5,CO,AI,aA (T.ds _ _ s),aV (T.b _ _ U),Aw,aA (T.ds _ _ r),Bc];simp only[AI,Bc,Aw,BE,Qf,if_true,if_false,asInt,asIntOf,D,(G:¬((n:Int)<0)),(by rw[←Int.natCast_mul];omega:¬((n:Int)*(i.bytes:Int)>2^48)),UG,Ba,(G:¬(n<=0)),(by simp[IntKind.max,IntKind.signed,IntKind.bits];omega:¬((n:Int)>IntKind.i64.max)),false_and,bG (T.b _ _ U),E,C,(λk w=>by unfold askRoom;split<;>simp:∀(k:Nat) w,(askRoom k).run P w=.ok () w),F,(λw=>Fz (T.b _ _ U) x w:∀w,(zeroValue e).run P w=.ok z w),newRow,run_newObj,EW,Gl,Builtin.firstCells,K];rfl
 obtain⟨L,M⟩:=QX o.drew e (l.b1 n) (c-n) (λj m=>by
  rw[T.b _ _ U] at m;cases m;rw[IN,A];exact Ae _)
 exact B6.made (Dp H) (GD (Ren.C _ _) B n c Jq) L M.M (WS.le_refl _)
def Uv (T:BM P τ) (o:C5 P τ ρ h w) {ts:List Ai} (ty:Ai) (d:Gj τ ts vs h=I (u,J)) (p:LR ρ vs D0):
 B6 P τ ρ h w (do pure (.value (←Builtin.append_ ⟨ts⟩ ty ⟨D0⟩))) u J:=by
 unfold Gj at d;split at d
 case h_2=>cases d
 rename_i st ts s x;cases p with|cons hs p=>
 cases p with|cons N p=>
 cases p;rename_i s' x';replace d:=kF d;obtain⟨O,d⟩:=d;split at d
 case h_2=>cases d
 rename_i e Q;split at d
 case h_2=>cases d
 rename_i i n z U R ae;split at d
 case h_2=>cases d
 rename_i ad aa;replace d:=C1 d;obtain⟨E,d⟩:=d;obtain⟨E,c4⟩:=Dh E;obtain⟨E,c3⟩:=Dh E;obtain⟨c1,c2⟩:=Dh E;obtain⟨z1,z2⟩:=E9 T U ae;have ap:(aI z.cells).length=i.size:=by rw[←(Af c3),(FZ (ρ:=ρ) z2).length]
 have af:∀k,(Dy (aI z.cells) k).length=k*i.size:=λk=>by rw[IN,ap]
 have ab:=T.b _ _ U;have S:=Vx (P:=P) N R w;split at d
 ·
  cases hs;cases f:Am n 0 with
  |
   true=>
   simp[f,D1,I.injEq,eD.injEq] at d;obtain⟨rfl,rfl⟩:=d;have f:=Af f;subst f;obtain⟨g,q,A,y⟩:=GL o N aa R Jq;exact B6.pure o (Dp (IQ T ty O Q U S y (Ae _) B)) (.az 0 0)
  |
   false=>
   simp[f,I0] at d;have f:n≠0:=λF=>by rw[F] at f;simp at f
   obtain⟨hb,d⟩:=C1 d;obtain⟨b1,b2⟩:=Dh hb;cases d;obtain⟨g,q,A,y⟩:=GL o.drew N aa R (Ae _);obtain⟨c,E,D⟩:=Py (base:=Z) (sCap:=0) (old:=[]) T ty O Q U ae S y Jq G (by rw[Ba];exact Alu G b1 b2);rw[Ba] at D E;obtain⟨H,K⟩:=QX o.drew e q (c-n) (λj l=>by rw[ab] at l;cases l;rw[af];exact Ae _);exact B6.made (Dp D) (GD (Ren.C _ _) B n c (by simp;omega)) H K.M (WS.le_refl _)
 ·
  rename_i a len cap;cases hs with|@slice id off sp _ _ pl o' V e2=>
  cases L:Ar (len+n) cap with
  |
   true=>
   simp[L,D1] at d;have L:=Ac L;obtain⟨g,q,A,y⟩:=GL o N aa R Jq;split at d
   case h_2=>cases d
   rename_i h1 aq;cases f:Am n 0 with
   |
    true=>
    simp[f,D1,I.injEq,eD.injEq] at d;obtain⟨rfl,rfl⟩:=d;have f:=Af f;subst f;have:g=[]:=by
     have h3:=q.length;rw[A,Qg] at h3;exact BO h3.symm
    subst this;exact B6.pure o (Dp (IQ T (base:=I ⟨pl.b,o',Z⟩) (sLen:=len) (sCap:=cap+Hl sp pl) (w':=w) ty O Q U S y G B)) (.slice V e2)
   |
    false=>
    simp only[f,I0,I.injEq,eD.injEq] at d;obtain⟨rfl,rfl⟩:=d;have f:n≠0:=λF=>by rw[F] at f;simp at f
    have ho:=e2 G;obtain⟨w',s1,s2,s3,s4⟩:=HI o V aq q;refine B6.made (Dp (IQ T (base:=I ⟨pl.b,o',Z⟩) (sLen:=len) (sCap:=cap+Hl sp pl) (w':=w') ty O Q U S y G ?_)) (.slice V λ_=>ho) s2 s3 s4;simp only[EL,ho];rw[DD];exact s1
  |
   false=>
   simp only[L,I0] at d;have L:=BB λF=>by rw[Aq F] at L;cases L
   obtain⟨hb,d⟩:=C1 d;split at d
   case h_2=>cases d
   rename_i c m e' lo t xx eH;replace d:=C1 d;obtain⟨ag,d⟩:=d;have ag:=Af ag;subst ag;split at d
   case h_2=>cases d
   rename_i old hg;have ar:MN i.size h (.slice (I ⟨id,off,sp⟩) len cap) len=I old:=by simp only[MN,eH];exact hg
   have ak:cap+Hl sp pl<len+n->∃r M g,LR ρ old M/\LR ρ ad g/\len+n<=r/\(Builtin.append_ ⟨st::ts⟩ ty ⟨[.slice (I ⟨pl.b,o',Z⟩) len (cap+Hl sp pl),x']⟩).run P w=
    .ok (.slice (I ⟨w.heap.size,0,Z⟩) (len+n) r) (w.drew.alloc (.cells ⟨M++g++Dy (aI z.cells) (r-(len+n))⟩ e)):=by
    intro W;obtain⟨g,q,A,y⟩:=GL o.drew N aa R Jq;obtain⟨M,o1,o2,o3⟩:=GL o.drew (VR.slice (sp:=sp) (len:=len) (cap:=cap) V e2) ar B Jq;obtain⟨r,ah,D⟩:=Py (w:=w) (base:=I ⟨pl.b,o',Z⟩) (sLen:=len) (sCap:=cap+Hl sp pl) T ty O Q U ae S y o3 W hb;exact⟨r,M,g,o1,q,ah,D⟩
   split at d
   ·
    cases d;obtain⟨r,M,g,o1,q,ah,D⟩:=ak Jq;obtain⟨H,K⟩:=QX o.drew e (o1.append q) (rest:=Dy (aI z.cells) (r-(len+n))) (r-(len+n)) (λj l=>by rw[ab] at l;cases l;rw[af];exact Ae _);exact B6.made (Dp D) (GD (Ren.C _ _) B (len+n) r (by simp;omega)) H K.M (WS.le_refl _)
   .obtain⟨ai,d⟩:=C1 d
    obtain⟨d1,d2⟩:=Dh ai;have d1:off+cap*i.size=m:=Af d1;cases d;have au:Hl Z pl=pl.s:=rfl;rcases A8 (cap+Hl Z pl) (len+n) with W|W
    ·
     obtain⟨r,M,g,o1,q,ah,D⟩:=ak W;have av:=Ren.M (o.1.fresh h.a (Ae _)) ⟨w.heap.size,0,r-(len+n)⟩;obtain⟨H,K⟩:=(o.kill id).drew.alloc (.cells ⟨M++g++Dy (aI z.cells) (r-(len+n))⟩ e) _ (r-(len+n))
      (BR.row (P:=P) ((o1.append q).mono av) (r-(len+n)) (λj l=>by rw[ab] at l;cases l;rw[af];exact Ae _)
       (bif Ar t lo then lo else lo-off) (bif Ar t lo then t else t-off) (0,0) (.inl B) Ah (by simp) w.drew)
     exact B6.made (Dp D) (GD (Ren.C _ _) B (len+n) r (by simp;omega)) H K.M (h.C id).1
    ·
     have al:len+n<=cap+pl.s:=W;have ho:o'=pl.o+off:=e2 (by rw[au];omega);obtain⟨g,q,A,y⟩:=GL o N aa R (Ae _);have aw:=o.1.hr _ _ _ V eH;obtain⟨C,fz,g1,g2,g3,g4,g5,g6⟩:=aw;have a8:=g3 i ab;have ax:=(dM.1 g1).1;obtain⟨ay,aj⟩:=FN _ _ _ _ hg;have aj:∀(j:Nat) v,old[j]?=I v->c.get (off+j)=I v:=aj;have a9:(len+n)*i.size<=(cap+pl.s)*i.size:=Ci _ al;have ba:len*i.size+n*i.size=(len+n)*i.size:=(Dw ..).symm;have bb:(cap+pl.s)*i.size=cap*i.size+pl.s*i.size:=Dw ..;have bc:LT g=n*i.size:=by rw[q.length_eq,A]
     have az:∀j,j<LT g->¬(fz.1<=pl.o+off+len*i.size+0+j/\pl.o+off+len*i.size+0+j<fz.2):=by
      intro j l ⟨f1,f2⟩;simp only[Dm,An] at d2;rcases g5 with h|⟨_,_,h⟩|⟨q1,q2,q3⟩
      .omega
      .omega
      .rcases d2 with d2|⟨d2,d3⟩
       .have d2:=Ac d2;omega
       .have d2:=Ac d2
        have d3:t<=off+len*i.size:=Ac d3;omega
     have a0:=Ir (P:=P) pl.b (pl.o+off+len*i.size) e fz g 0 C w g1 (q.C c2) G az;have a3:∀k,(cap+pl.s-(len+n))*i.size=k->k+(len+n)*i.size=(cap+pl.s)*i.size:=by
      intro k a4;rw[←a4,←Dw,Nat.sub_add_cancel al]
     have am:=Ren.M (o.1.fresh h.a (Ae _)) ⟨pl.b,pl.o+off,cap+pl.s-(len+n)⟩;have an:LT old=len*i.size:=ay;have a5:BR P (ρ.ah h.a ⟨pl.b,pl.o+off,cap+pl.s-(len+n)⟩) ⟨pl.b,pl.o+off,cap+pl.s-(len+n)⟩
      {w with heap:=w.heap.setIfInBounds pl.b (.cells (N7 C (pl.o+off+len*i.size+0) g) e fz)}
      (.cells (Ev.T.laid (old++ad) 0 .nil) (old++ad).length e (bif Ar t lo then lo else lo-off) (bif Ar t lo then t else t-off) Ah):=by
      refine⟨N7 C (pl.o+off+len*i.size+0) g,fz,by simp[ax],?_,λj l=>?_,λj v p=>?_,?_,by simp⟩
      .rw[FV,Aj,an,A];simp only[];omega
      .rw[ab] at l;cases l
       rw[FV,Aj,an,A];have:=a3 _ B;simp only[];omega
      .rw[Ev.T.O] at p
       rw[Q4 _ _ _ _ G];simp only[Al,true_and,Ba,DL] at p;by_cases l:j<(old++ad).length
       .rw[Bi l] at p
        refine⟨l,?_⟩;rw[Aj] at l;by_cases a6:j<LT old
        .rw[AB a6] at p
         obtain⟨_,v',a2,a7⟩:=g4 _ _ (aj j v p);refine⟨v',?_,a7.mono am⟩;rw[Bm (by simp only[];omega)];simp only[];rw[DD];exact a2
        .rw[Bq G] at p
         obtain⟨v',a1,a2⟩:=q.get p;refine⟨v',?_,a2.mono am⟩;simp only[];rw[Bi G,show pl.o+off+j-(pl.o+off+len*i.size+0)=j-LT old by omega];exact a1
       .rw[Bm l,Ev.T.C] at p;cases p
      .rw[FV]
       simp only[Dm,An] at d2;cases X:Ar t lo with
       |
        true=>
        have X:=Ac X;simp only[D1];rcases g5 with h|h|⟨q1,q2,q3⟩
        .exact .inl h
        .exact .inr (.inl h)
        .exact .inl G
       |
        false=>
        simp only[I0];rcases d2 with d2|⟨d2,d3⟩
        .rw[d2] at X;cases X
        .have d2:=Ac d2
         have bd:¬t<=lo:=λF=>by rw[Aq F] at X;cases X
         rcases g5 with h|⟨h1,h2,_⟩|⟨q1,q2,q3⟩
         .exact .inl h
         .omega
         .have d2:off<=lo:=d2
          exact .inr (.inr ⟨G,.inr G,G⟩)
     obtain⟨H,K⟩:=o.move (pl':=⟨pl.b,pl.o+off,cap+pl.s-(len+n)⟩) V eH B B (by simp) (λb hb=>by show(w.heap.setIfInBounds pl.b _)[b]?=_;rw[AY (Ne.symm hb)]) a5 B B B;refine B6.made (Dp (IQ T (base:=I ⟨pl.b,o',Z⟩) (sLen:=len) (sCap:=cap+Hl Z pl) ty O Q U S y W (by simp only[EL,ho];exact a0))) ?_ H K (h.C id).1;have ao:=VR.slice (ρ:=ρ.ah h.a ⟨pl.b,pl.o+off,cap+pl.s-(len+n)⟩) (id:=h.a) (off:=0) (sp:=Z) (len:=len+n) (cap:=len+n) (o':=o') (Ren.C _ _) (λ_=>by simp only[];omega);have ai:len+n+Hl Z (⟨pl.b,pl.o+off,cap+pl.s-(len+n)⟩:Pl)=cap+Hl Z pl:=by
      show len+n+(cap+pl.s-(len+n))=cap+pl.s;omega
     rw[ai] at ao;exact ao
 .cases d
end
section
variable{P:AN} {τ:Bb} {ρ:Ren} {h:Y} {w:AM}
def X6 (T:BM P τ) (m:C5 P τ ρ h w) {p:List Ai} (ty:Ai) (b:U8 τ p vs h=I (u,J)) (g:LR ρ vs D0):
 B6 P τ ρ h w (do pure (.value (←Builtin.copy_ ⟨p⟩ ty ⟨D0⟩))) u J:=by
 unfold U8 at b;split at b
 case h_2=>cases b
 rename_i W p d s;cases g with|cons x g=>
 cases g with|cons y g=>
 cases g;rename_i X B;split at b
 case h_2=>cases b
 rename_i e q;split at b
 case h_2=>cases b
 rename_i i j r U f z;split at b
 case h_2=>cases b
 rename_i cs E;obtain⟨aa,A,C,n⟩:=GL m y E z (Nat.min_le_left _ _);have t:=Vx (P:=P) y z w;split at b
 .rename_i l c
  cases b;cases x;have:l=0/\j=0:=by
   unfold MM at f;split at f
   .rename_i k;cases k;simp at f;exact⟨rfl,f.symm⟩
   .rename_i k;cases k
   .rename_i k;cases k
   .cases f
  obtain⟨rfl,rfl⟩:=this;refine B6.pure m (Dp (v:=.int .i64 0) ?_) (.int _ _);simp only[Nat.min_zero] at n;simp[Builtin.copy_,aA (T.ds _ _ q),t,aV (T.b _ _ U),n,goInt]
 .rename_i a l c
  cases x with|@slice id off sp _ _ pl o' F H=>
  have K:j=l:=by
   have L:MM (.slice (I ⟨id,off,sp⟩) l c)=I l:=rfl;exact I.inj (f.symm.trans L)
  subst K;have D:Nat.min r j=min r j:=rfl;cases o:cs.isEmpty with
  |true=>
   simp only[o,D1,I.injEq,eD.injEq] at b;obtain⟨rfl,rfl⟩:=b;have:cs=[]:=Jq
   subst this;cases A;refine B6.pure m (Dp ?_) (.int _ _);simp[Builtin.copy_,aA (T.ds _ _ q),t,aV (T.b _ _ U),D,n,goInt,storeCells]
  |false=>
   simp only[o,I0] at b;split at b
   case h_2=>cases b
   rename_i h1 M;cases b;have ab:min r j≠0:=λN=>by
    rw[N,Qg] at C;have:=BO C;subst this;simp at o
   have O:=H G;let⟨w',Q,R,S,V⟩:=HI m F M A;refine B6.made (Dp ?_) (.int _ _) R S V;simp[Builtin.copy_,aA (T.ds _ _ q),t,aV (T.b _ _ U),D,n,goInt,O,Q]
 .cases b
def ER.length (h:ER ρ es C3):LT es=LT C3:=by
 induction h with
 |nil=>rfl
 |cons _ _ _ _ a=>simp[a]
def bB {es:Array Ap} {a:Nat} (b:w.heap[r]?=I (.map es a)):(getObj r).run P w=.ok (.map es a) w:=by
 simp[getObj,gN,b]
def Abs (T:BM P τ) (f:C5 P τ ρ h w) {d:List Ai} (ty:Ai) (a:I7 τ d vs h=I u) (e:LR ρ vs D0):
 (Builtin.len_ ⟨d⟩ ty ⟨D0⟩).run P w=.ok u w/\aJ u=true:=by
 unfold I7 at a;split at a
 case h_2=>cases a
 rename_i t d x xs;cases e with|cons c e=>
 split at a
 .cases a
 rename_i l b;split at a
 .cases a;cases c;exact⟨by simp[Builtin.len_,aA (T.ds _ _ b),goInt],B⟩
 .cases a;exact⟨by simp[Builtin.len_,aA (T.ds _ _ b),goInt],B⟩
 .cases a;cases c<;>exact⟨by simp[Builtin.len_,aA (T.ds _ _ b),goInt],B⟩
 .cases a;cases c;exact⟨by simp[Builtin.len_,aA (T.ds _ _ b),goInt],B⟩
 .split at a
  .rename_i r es m g
   cases a;cases c with|@map _ pl i=>
   let⟨C3,j,k⟩:=f.1.hr _ _ _ i g;exact⟨by simp[Builtin.len_,aA (T.ds _ _ b),bB j,goInt,k.length],B⟩
  .cases a
 .cases a
def Abk (T:BM P τ) {c:List Ai} (ty:Ai) (a:ZM τ c vs=I u) (d:LR ρ vs D0) (w:AM):
 (Builtin.cap_ ⟨c⟩ ty ⟨D0⟩).run P w=.ok u w/\aJ u=true:=by
 unfold ZM at a;split at a
 case h_2=>cases a
 rename_i t c x xs;cases d with|cons e d=>
 split at a
 .rename_i b;cases a;cases e;exact⟨by simp[Builtin.cap_,aA (T.ds _ _ b),goInt],rfl⟩
 .rename_i b;cases a;cases e;exact⟨by simp[Builtin.cap_,aA (T.ds _ _ b),goInt,Hl],rfl⟩
 .rename_i b;cases a;exact⟨by simp[Builtin.cap_,aA (T.ds _ _ b),goInt],rfl⟩
 .cases a
def Rk (f:Aa->Aa->Option Aa) (g:Aa->Aa->Sem Aa) (h:∀x y z x' e,f x y=I z->VR ρ x x'->VR ρ y e->∀w,(g x' e).run P w=.ok z w/\aJ z=Ag):
 ∀(l l':AH) (x x' u:Aa),Oy f l x=I u->LR ρ l l'->VR ρ x x'->∃c,(l'.foldlM g x').run P w=.ok c w/\VR ρ u c:=by
 intro l
 induction l with
 |nil=>intro l' x x' u a b d;cases b;simp[Oy] at a;subst a;exact⟨x',Jq,d⟩
 |cons y l i=>
  intro l' x x' u a b d;cases b with|cons j b=>
  simp only[Oy] at a;split at a
  .rename_i z k
   let⟨m,n⟩:=h _ _ _ _ _ k d j w;let⟨c,o,p⟩:=i _ z z u a b (VR.C n);exact⟨c,Jq,p⟩
  .cases a
def X2 {b:Aa} (a:YP x y=I z) (c:VR ρ x x') (d:VR ρ y b) (w:AM):(Builtin.min2 x' b).run P w=.ok z w/\aJ z=true:=by
 unfold YP at a;split at a
 .cases a;cases c;cases d;exact⟨Jq,B⟩
 .cases a
def Yc {b:Aa} (a:YL x y=I z) (c:VR ρ x x') (d:VR ρ y b) (w:AM):(Builtin.max2 x' b).run P w=.ok z w/\aJ z=true:=by
 unfold YL at a;split at a
 .cases a;cases c;cases d;exact⟨Jq,B⟩
 .cases a
def TH {s:Sem Aa} (a:s.run P w=.ok u w/\aJ u=Ag) (b:C5 P τ ρ h w):B6 P τ ρ h w (do pure (.value (←s))) u h:=
 B6.pure b (Dp a.1) (VR.C a.2)
def Km {o o':Obj} (a:w.heap[r]?=I o) (b:∀c e f,o≠.cells c e f):(setObj r o').run P w=.ok () {w with heap:=w.heap.setIfInBounds r o'}:=by
 cases o<;>first
  |exact Cf rfl (b _ _ _)
  |simp[setObj,gN,a]
def WQ (T:BM P τ) (g:C5 P τ ρ h w) {l:List Ai} (ty:Ai) (d:QQ τ l vs h=I J) (m:LR ρ vs D0):
 B6 P τ ρ h w (do pure (.value (←Builtin.clear_ ⟨l⟩ ty ⟨D0⟩))) (.tuple #[]) J:=by
 unfold QQ at d;split at d
 case h_2=>cases d
 rename_i t l x;cases m with|cons j m=>
 cases m;split at d
 .rename_i f
  cases d;cases j;exact B6.pure g (Dp (v:=.tuple #[]) (by simp[Builtin.clear_,aA (T.ds _ _ f)])) (.tuple .nil)
 .rename_i f
  cases d;cases j;exact B6.pure g (Dp (v:=.tuple #[]) (by simp[Builtin.clear_,aA (T.ds _ _ f)])) (.tuple .nil)
 .rename_i e a n c f
  split at d
  .rename_i i z U s
   obtain⟨u,d⟩:=C1 d;obtain⟨c1,Q⟩:=Dh u;have c1:=Af c1;cases j with|@slice id off sp _ _ pl o' k y=>
   have A:=y G;obtain⟨C,D⟩:=E9 T U s;have E:=(FZ (ρ:=ρ) D).b1 (n+1);obtain⟨w',F,H,K,L⟩:=HI g k d E;refine B6.made (Dp ?_) (.tuple .nil) H K L;simp[Builtin.clear_,aA (T.ds _ _ f),Fz (T.b _ _ U) C,Gl,A,F]
  .cases d
 .rename_i f
  cases d;cases j;exact B6.pure g (Dp (v:=.tuple #[]) (by simp[Builtin.clear_,aA (T.ds _ _ f)])) (.tuple .nil)
 .rename_i kt et r f
  split at d
  .rename_i es p q
   cases d;cases j with|@map _ pl k=>
   let⟨C3,o,R⟩:=g.1.hr _ _ _ k q;have M:=(dM.1 o).1;let⟨N,O⟩:=g.write (w':={w with heap:=w.heap.setIfInBounds pl.b (.map #[] p)}) (hb':=.map [] p) k q B (by simp) (λb hb=>by show(w.heap.setIfInBounds pl.b _)[b]?=_;rw[AY (Ne.symm hb)])
    ⟨#[],by simp[M],.nil⟩ B B B
   refine B6.made (Dp ?_) (.tuple .nil) N O (h.C r).1;simp[Builtin.clear_,aA (T.ds _ _ f),bB o,Km o]
  .cases d
 .cases d
def KW (f:C5 P τ ρ h w) {g:Array Ai} (ty:Ai) (a:Fg vs=I u) (b:LR ρ vs D0):
 B6 P τ ρ h w (do pure (.value (←Builtin.unsafeSliceData_ g ty ⟨D0⟩))) u h:=by
 unfold Fg at a;split at a
 .cases a
  cases b with|cons d b=>cases b;cases d;exact B6.pure f (Dp B) .bn
 .rename_i id off sp l c
  obtain⟨e,a⟩:=kF a;have e:c≠0:=λi=>by rw[i] at e;simp at e
  cases a;cases b with|cons d b=>
  cases b;cases d with|@slice _ _ _ _ _ pl o' j k=>
  have m:=k G;subst m;exact B6.pure f (Dp (Lib.run_unsafeSliceData_row w g ty _ l _ G)) (.ptr j)
 .cases a
def Sj (c:P.cellsOf e=1) (a off n:Nat) (d:off+n<=a):liesAt P P.depth e a off e n=true:=by
 have b:P.depth=(2*(P.types.size+Made.depth)+1)+1:=rfl;rw[b];simp only[liesAt,Dm];left;rw[b];simp[rowAt,c,d,sameLayout,Nat.mod_one]
def LP:∀(c:List Int) (a:BD) (b:Bd),(∀(j:Nat) v,(c.map (AL .u8))[j]?=I v->w.cell? (a.add j)=I v)->
 (loadBytes a b (LT c)).run P w=.ok ⟨⟨aI b.data++c.map λn=>dR n.toNat⟩⟩ w
 |[],a,b,_=>by simp[loadBytes]
 |
  x::l,a,b,h=>by
  have h0:w.cell? a=I (.int .u8 x):=by
   have:=h 0 _ B;simpa[Addr.add] using this
  have f:=LP l (a.add 1) (b.push (dR x.toNat)) (λj y g=>by
   have:=h (j+1) y (by simpa using g);have e:(a.add 1).add j=a.add (j+1):=by
    unfold Addr.add;by_cases d:j=0
    .subst d;simp
    .simp[d];omega
   rw[e];exact this)
  simp only[AO,loadBytes,AI,run_load,h0,Mr];have i:x.toNat.toUInt8=dR x.toNat:=rfl;rw[i,f];congr 1;apply RL;simp[vU]
def M7 (T:BM P τ) (y:C5 P τ ρ h w) {q:List Ai} (ty:Ai) (d:EP τ q vs h=I (u,J)) (g:LR ρ vs D0):
 B6 P τ ρ h w (do pure (.value (←Builtin.unsafeString_ ⟨q⟩ ty ⟨D0⟩))) u J:=by
 have A:IntKind.i64.max=9223372036854775807:=rfl;obtain⟨r,O,Q,R,S,D⟩:∃r O Q R S,∀q p x,Builtin.unsafeString_ q ty ⟨[.pointer p,x]⟩=(do
  let n←asInt x
  let I E:=q[0]?|stuck r
  if n<0 then runtimePanic (.error O)
  if n>IntKind.i64.max then unsupported (.unsafePointer Q)
  match p with
  |
   none=>
   if n=0 then pure (.string .empty)
   else runtimePanic (.error R)
  |
   some a=>
   if n=0 then pure (.string .empty)
   else if←variablesAt a (←elemOf E) n.toNat then do
    let s←loadBytes a .empty n.toNat
    freeze a n.toNat
    pure (.string s)
   else unsupported (.unsafePointer S)):=⟨_,_,_,_,_,λ_ _ _=>rfl⟩
 unfold EP at d;split at d
 .rename_i E q k
  cases d;cases g with|cons F g=>
  cases g with|cons H g=>
  cases g;cases F;cases H;refine B6.pure y (Dp (v:=.string .empty) ?_) (.string _);rw[D];simp[asInt,asIntOf,A]
 .rename_i E q id off k n
  cases g with|cons F g=>
  cases g with|cons H g=>
  cases g;cases H;cases F with|@ptr _ _ pl r=>
  cases f:Am n 0 with
  |
   true=>
   simp only[f,D1,I.injEq,eD.injEq] at d;obtain⟨rfl,rfl⟩:=d;have f:=Af f;subst f;refine B6.pure y (Dp (v:=.string .empty) ?_) (.string _);rw[D];simp[asInt,asIntOf,A]
  |
   false=>
   simp only[f,I0] at d;have f:n≠0:=λt=>by rw[t] at f;simp at f
   obtain⟨hb,d⟩:=C1 d;have hb:=Hb hb;split at d
   .rename_i z c m e lo U xx hd K
    obtain⟨L,d⟩:=C1 d;obtain⟨L,c3⟩:=Dh L;obtain⟨c1,c2⟩:=Dh L;have c1:=Af c1;subst c1;have c3:=Ac c3;split at d
    .rename_i i l he ab V
     split at d
     .rename_i bs ad
      obtain⟨c4,d⟩:=C1 d;have c4:=Af c4;cases d;have ae:=y.1.hr _ _ _ r K;obtain⟨C,o,M,g2,g3,g4,g5,g6⟩:=ae;have am:=(dM.1 M).1;obtain⟨l',q1,q2,q3⟩:=Ko (y.1.hr _ _ _ r K) V;have af:=(FN _ _ _ _ V).1;obtain⟨W,rfl,rfl⟩:=Jb ad;have:=q1.bh;subst this;have ag:LT W=n:=by simpa using af
      have X:=LP (P:=P) (w:=w) W ⟨pl.b,pl.o+off,Z⟩ .empty (λj v g=>by rw[EL];exact q3 j v g);rw[ag] at X;have aa:P.cellsOf z=1:=by simp[uQ,T.b _ _ ab,c4]
      have ah:=Sj (P:=P) aa (C.size/P.cellsOf z) (pl.o+off) n (by rw[aa,Nat.div_one];omega);have ai:w.shape? pl.b=I (z,C.size):=by simp[Jd,M]
      have aj:BR P ρ pl (w.freeze ⟨pl.b,pl.o+off,Z⟩ n) (.cells c m z (bif Ar U lo then off else min lo off) (bif Ar U lo then off+n else max U (off+n)) xx):=by
       refine⟨C,(if o.1==o.2 then(pl.o+off,pl.o+off+n) else(min o.1 (pl.o+off),max o.2 (pl.o+off+n))),?_,g2,g3,g4,?_,g6⟩
       .show(if n=0 then w else _).heap[pl.b]?=_
        simp only[f,if_false];rw[B3,Bi B,M];obtain⟨f1,f2⟩:=o;simp
       .refine .inr (.inr ?_)
        have ak:¬(lo=1/\U=0):=λt=>by
         obtain⟨rfl,rfl⟩:=t;simp at c2
        by_cases N:o.1=o.2
        .simp only[N,beq_self_eq_true,if_true]
         cases t:Ar U lo<;>simp<;>omega
        .have al:(o.1==o.2)=false:=by simpa using N
         simp only[al,BE,if_false];rcases g5 with h|⟨h1,h2,_⟩|⟨h1,h2,h3⟩
         .exact Cf h N
         .exact Cf ⟨h1,h2⟩ ak
         .have:Ar U lo=false:=MK.2 λt=>by have:=Ac t;omega
          simp only[this,I0];omega
      obtain⟨k1,k2⟩:=y.write (w':=w.freeze ⟨pl.b,pl.o+off,Z⟩ n) (hdr:=by simp[Gw,f]) r K B (by simp[Gw,f]) (λb hb=>by
       show(if n=0 then w else _).heap[b]?=_
       simp only[f,if_false];rw[B3,Bm (Ne.symm hb)]) aj (by simp[Gw,f]) (by simp[Gw,f]) (by simp[Gw,f])
      refine B6.made (Dp (v:=.string _) ?_) (.string _) k1 k2 (h.C id).1;rw[D];have hb':¬(9223372036854775807:Int)<(n:Int):=G;simp[asInt,asIntOf,A,f,hb',elemOf,aA (T.ds _ _ hd),variablesAt,ai,ah,X];intro an;omega
     .cases d
    .cases d
   .cases d
 .cases d
end
section
variable{P:AN} {τ:Bb} {ρ:Ren} {h:Y} {w:AM} {k' m':Aa} {kt:Ai}
def LN {a:Type} {f:a->PUnit->Sem (ForInStep PUnit)}:∀(l:List a),(∀x∈l,(f x ⟨⟩).run P w=.ok (.yield ⟨⟩) w)->(forIn l PUnit.unit f).run P w=.ok ⟨⟩ w
 |[],_=>Jq
 |x::l,b=>by
  simp[tI,AI,b x Jq,Aw];exact LN l λy c=>b y Jq
def Ep (T:BM P τ) (h:Bool) (w:AM):∀(d:Nat) (n:Nat) (t:Ai) (v u:Aa),d<=n->Do τ d t v=Ag->VR ρ v u->(Instr.checkKey h n t u).run P w=.ok () w:=by
 intro d
 induction d with
 |zero=>intro n t v u _ a;simp[Do] at a
 |succ d i=>
  intro n t v u s a c;obtain⟨n,rfl⟩:∃m,n=m+1:=⟨n-1,G⟩;simp only[Do] at a;split at a
  .rename_i b;cases c;simp[Instr.checkKey,aA (T.ds _ _ b)]
  .rename_i b;cases c;simp[Instr.checkKey,aA (T.ds _ _ b)]
  .rename_i b;cases c;simp[Instr.checkKey,aA (T.ds _ _ b)]
  .rename_i DU cs b
   cases c with|agg j=>
   cases e:τ.f t with
   |false=>rw[e] at a;cases a
   |true=>
   rw[e] at a;simp only[D1] at a;simp only[Instr.checkKey,AI,aA (T.ds _ _ b),Aw];rw[←Array.forIn_toList];rw[LN]
   .simp
   .intro f k
    have:=Jf.1 a f k;split at this
    .rename_i p l
     let⟨o,q,r⟩:=He T l j w;have:=i n f.type p o G this r;by_cases g:f.name= "_"
     .simp[g]
     .simp[g,q,this]
    .cases this
  .cases a
def ER.get (h:ER ρ es C3):∀{i:Nat} {e:Ap},es[i]?=I e->∃d,C3[i]?=I d/\VR ρ e.key d.key/\VR ρ e.val d.val/\e.born=d.born:=by
 induction h with
 |nil=>intro i e h;simp at h
 |cons a b c r g=>
  intro i e f;cases i with
  |zero=>cases f;exact⟨_,B,a,b,c⟩
  |succ i=>simp at f;let⟨d,j,k⟩:=g f;exact⟨d,Jq,k⟩
def RD {a:eT} {k:Aa} {b:Bool} {d:Nat} (f:τ.ds.get t=I a) (hb:IZ τ (d+1) t k x=I b) (c:VR ρ k k') (e:VR ρ x x'):
 Instr.sameNow a k' x'=I b\/Instr.sameNow a k' x'=none:=by
 rw[IZ,f] at hb;simp only at hb;split at hb
 all_goals first
  |(cases c;cases e;simp only[Instr.sameNow];first
   |(cases hb;exact .inl rfl)
   |(rw[OQ] at hb;cases hb;exact .inl rfl)
   |(
    split at hb
    .rename_i g;subst g;cases hb;simp
    .cases hb)
   |exact .inr rfl)
  |(cases hb;done)
  |(right;cases c<;>cases e<;>rfl)
inductive FR (ρ:Ren) (C3:List Ap) (i0:Nat):Option (Nat×Ap)->Option (Nat×Aa)->Prop
 |none:FR ρ C3 i0 Z Z
 |some {j:Nat} {e e':Ap}:C3[j-i0]?=I e'->VR ρ e.key e'.key->VR ρ e.val e'.val->e.born=e'.born->i0<=j->FR ρ C3 i0 (I (j,e)) (I (j,e'.val))
def FR.succ {f:Ap} {r s} (h:FR ρ C3 (i+1) r s):FR ρ (f::C3) i r s:=by
 cases h with
 |none=>exact .none
 |@some j _ _ a b c d e=>exact .some Jq b c d G
def OX (T:BM P τ) {k:Aa} (j:VR ρ k k') (w:AM):∀(es C3:List Ap) (i:Nat) (r),CE τ kt k es i=I r->ER ρ es C3->
 ∃g,(Instr.findAsking kt k' C3 i).run P w=.ok g w/\FR ρ C3 i r g:=by
 intro es
 induction es with
 |nil=>intro C3 i r d f;cases f;simp[CE] at d;subst d;exact⟨Z,Jq,.none⟩
 |cons e es l=>
  intro C3 i r d f;cases f with|cons a b c f=>
  rename_i m C3;simp[CE] at d;split at d
  .rename_i h
   cases d;have:=OK T _ _ _ _ _ _ _ w h j a;exact⟨I (i,m.val),by simp[Instr.findAsking,Op.equal,this],.some Jq a b c (Ae _)⟩
  .rename_i h
   have:=OK T _ _ _ _ _ _ _ w h j a;let⟨g,n,o⟩:=l C3 (i+1) r d f;exact⟨g,by simp[Instr.findAsking,Op.equal,this,n],o.succ⟩
  .cases d
def Se {j:eT} (m:τ.ds.get kt=I j) {k:Aa} (n:VR ρ k k'):∀(es C3:List Ap) (i:Nat) (r),CE τ kt k es i=I r->ER ρ es C3->
 Instr.findNow j k' C3 i=Z\/∃g,Instr.findNow j k' C3 i=I g/\FR ρ C3 i r g:=by
 intro es
 induction es with
 |nil=>intro C3 i r d f;cases f;simp[CE] at d;subst d;exact .inr ⟨Z,Jq,.none⟩
 |cons e es o=>
  intro C3 i r d f;cases f with|cons a b c f=>
  rename_i s C3;simp[CE] at d;simp[Instr.findNow];split at d
  .rename_i l
   cases d;rcases RD m l n a with h|h
   .rw[h];exact .inr ⟨_,B,.some Jq a b c (Ae _)⟩
   .rw[h];exact .inl B
  .rename_i l
   rcases RD m l n a with h|h
   .rw[h]
    rcases o C3 (i+1) r d f with h|⟨g,p,q⟩
    .exact .inl h
    .exact .inr ⟨g,p,q.succ⟩
   .rw[h];exact .inl B
  .cases d
def NL {d:Nat} (h:Do τ d t v=Ag):∃a,τ.ds.get t=I a:=by
 cases d with
 |zero=>simp[Do] at h
 |succ d=>
  simp[Do] at h;cases b:τ.ds.get t with
  |none=>simp[b] at h
  |some a=>exact⟨a,B⟩
def ED (T:BM P τ) {k:Aa} {f:eT} (b:τ.ds.get kt=I f) (c:VR ρ k k') (w:AM) {r} (d:CE τ kt k es 0=I r) (e:ER ρ es C3):
 ∃a,(Instr.findKey kt k' C3).run P w=.ok a w/\FR ρ C3 0 r a:=by
 unfold Instr.findKey;simp[AI,aA (T.ds _ _ b),Aw];rcases Se b c es C3 0 r d e with h|⟨a,g,i⟩
 .rw[h];exact OX T c w es C3 0 r d e
 .rw[g];exact⟨a,Jq,i⟩
def UB (T:BM P τ) (M:C5 P τ ρ h w) {m n:Aa} {g:Bool} (f:BW τ t x m g h=I u) (D:VR ρ x x') (i:VR ρ m n):
 ∃E,(Instr.lookup t x' n g).run P w=.ok E w/\VR ρ u E:=by
 unfold BW at f;split at f
 case h_2=>cases f
 rename_i kt et p;let⟨q,f⟩:=C1 f;have Da:∀{a a':Aa} b,VR ρ a a'->VR ρ (if g=Ag then C4 #[a,.bool b] else a) (if g=Ag then C4 #[a',.bool b] else a'):=by
  intro a a' b F;cases g
  .exact F
  .exact .tuple (.cons F (.cons (.bool b) .nil))
 let⟨Q,s⟩:=NL q;simp[] at f;split at f
 .cases D
  split at f
  .rename_i z v
   cases f;let⟨y,A⟩:=JJ T v;refine⟨_,?_,Da Ah (VR.ak A)⟩;have o:=Ep T Ag w 5 10000 kt m n G q i;let⟨H,k,l⟩:=ED T s i w B .nil;cases l;simp[Instr.lookup,AI,aA (T.ds _ _ p),Aw,Bc];simp[Array.isEmpty_empty,o,Aw,k,y,AI,Bc]
  .cases f
 .rename_i r
  split at f
  .rename_i es R N
   cases D with|@map _ pl O=>
   let⟨C3,K,L⟩:=M.1.hr _ _ _ O N;have o:=Ep T C3.isEmpty w 5 10000 kt m n G q i;split at f
   .rename_i j e C
    cases f;let⟨H,k,l⟩:=ED T s i w C L;cases l with|@some _ _ S a b c d _=>
    refine⟨_,?_,Da Ag c⟩;simp[Instr.lookup,AI,aA (T.ds _ _ p),Aw,bB K,Bc,o,k]
   .rename_i C
    split at f
    .rename_i z v
     cases f;let⟨y,A⟩:=JJ T v;let⟨H,k,l⟩:=ED T s i w C L;cases l;refine⟨_,?_,Da Ah (VR.ak A)⟩;simp[Instr.lookup,AI,aA (T.ds _ _ p),Aw,bB K,Bc,o,k,y]
    .cases f
   .cases f
  .cases f
 .cases f
def ER.C (h:ER ρ es C3) (f g:Ap->Ap):∀(i:Nat),(∀e d,es[i]?=I e->C3[i]?=I d->VR ρ e.key d.key->VR ρ e.val d.val->e.born=d.born->
 VR ρ (f e).key (g d).key/\VR ρ (f e).val (g d).val/\(f e).born=(g d).born)->ER ρ (Cu es i f) (C3.modify i g):=by
 induction h with
 |nil=>intro i _;simp[Ev.Cu];exact .nil
 |cons a b c r l=>
  intro i H;cases i with
  |zero=>
   let⟨j,k,m⟩:=H _ _ B B a b c;simp[Ev.Cu,List.modify_zero_cons];exact .cons j k m r
  |succ i=>
   simp[Ev.Cu,List.modify_succ_cons];exact .cons a b c (l i λe d j k=>H e d Jq Jq)
def ER.push (h:ER ρ es C3) {e d:Ap} (f:VR ρ e.key d.key) (g:VR ρ e.val d.val) (i:e.born=d.born):ER ρ (es++[e]) (C3++[d]):=by
 induction h with
 |nil=>exact .cons f g i .nil
 |cons a b c _ j=>exact .cons a b c j
def ER.eraseIdx (h:ER ρ es C3):∀i,ER ρ (es.eraseIdx i) (C3.eraseIdx i):=by
 induction h with
 |nil=>intro i;simp;exact .nil
 |cons a b c r d=>
  intro i;cases i with
  |zero=>exact r
  |succ i=>exact .cons a b c (d i)
def LO {a b:Aa} (h:HS a b=Ag):a=b/\aJ a=Ag/\∀n,Instr.sameBits n a a=true:=by
 unfold HS at h;split at h
 .rename_i x y;have:x=y:=Jq
  subst this;exact⟨B,B,λn=>by cases n<;>simp[Instr.sameBits]⟩
 .rename_i j x k y
  let⟨c,d⟩:=Dh h;have:=Ly c;subst this;have:x=y:=Gq;subst this;exact⟨B,B,λn=>by cases n<;>simp[Instr.sameBits]⟩
 .rename_i x y
  rw[J0] at h;have:x=y:=by
   let⟨⟨x⟩⟩:=x;let⟨⟨y⟩⟩:=y;simp at h;subst h;rfl
  subst this;refine⟨B,B,λn=>?_⟩;have:(x==x)=Ag:=by rw[←OQ,J0];simp
  cases n<;>simp[Instr.sameBits,this]
 .exact⟨B,B,λn=>by cases n<;>simp[Instr.sameBits]⟩
 .cases h
def Iq:∀{l m:AH},Dv l m=Ag->l=m/\l.all aJ=Ag/\∀n,(l.zip l).all (λ(x,y)=>Instr.sameBits n x y)=Ag
 |[],[],_=>⟨B,B,λ_=>rfl⟩
 |[],_::_,h=>Jq
 |_::_,[],h=>Jq
 |a::l,b::m,h=>by
  let⟨c,d⟩:=Dh h;obtain⟨rfl,g,e⟩:=LO c;obtain⟨rfl,i,f⟩:=Iq d;refine⟨B,Jq,λn=>?_⟩;rw[List.zip_cons_cons,Jh,f n,Mh];exact e n
def NX {a b:Aa} (h:Cy a b=Ag):a=b/\DG a=Ag/\Instr.sameBits 10000 a a=true:=by
 unfold Cy at h;split at h
 .rename_i x y
  let⟨x⟩:=x;let⟨y⟩:=y;let⟨c,d,e⟩:=Iq h;simp only at c;subst c;refine⟨B,d,?_⟩;have:=e 9999;rw[show(10000:Nat)=9999+1 from B];simp only[Instr.sameBits,beq_self_eq_true,gT];exact this
 .let⟨c,d,e⟩:=LO h
  refine⟨c,?_,e _⟩;cases a<;>first
   |exact d
   |(simp[aJ] at d;done)
def VR.M (h:VR ρ v v') (a:DG v=Ag):v'=v:=by
 cases h with
 |agg b=>rw[b.M a]
 |tuple b=>rw[b.M a]
 |iface c=>rw[c.O a]
 |_=>first
  |rfl
  |(simp[DG,aJ] at a;done)
def SQ {e:Ap} {a:Ap} {k:Aa} (d:Cy e.key k=Ag) (f:VR ρ e.key a.key) (g:VR ρ k k'):(Instr.keyThatStays a.key k').run P w=.ok k' w:=by
 let⟨b,c,h⟩:=NX d;rw[(f.M c),(g.M Jq),←b];simp[Instr.keyThatStays,h]
def GK (d:C5 P τ ρ h w) {es2:List Ap} {l es2':Array Ap} {c a:Nat} (e:ρ r=I pl) (f:h.t.get r=I (.map es c)) (g:w.heap[pl.b]?=I (.map l c))
 (i:ER ρ es2 (aI es2')):(setObj pl.b (.map es2' a)).run P w=.ok () {w with heap:=w.heap.setIfInBounds pl.b (.map es2' a)}/\
 C5 P τ ρ (h.put r (.map es2 a)) {w with heap:=w.heap.setIfInBounds pl.b (.map es2' a)}/\Mj ρ w h.a ρ {w with heap:=w.heap.setIfInBounds pl.b (.map es2' a)} (h.put r (.map es2 a)).a (h.put r (.map es2 a)).lo/\
 (h.put r (.map es2 a)).lo<=h.lo:=by
 let⟨j,k⟩:=d.write (w':={w with heap:=w.heap.setIfInBounds pl.b (.map es2' a)}) (hb':=.map es2 a) e f B (by simp) (λb hb=>by show(w.heap.setIfInBounds pl.b _)[b]?=_;rw[AY Jq])
  ⟨es2',Jq,i⟩ B B B
 exact⟨Km g (by simp),j,k,(h.C r).1⟩
def YI {s:Sem Unit} (a:s.run P w=.ok () w') (b:C5 P τ C2 J w') (c:Mj ρ w h.a C2 w' J.a J.lo) (d:J.lo<=h.lo):
 B6 P τ ρ h w (do s;pure .skip) (.tuple #[]) J:=⟨_,w',.tuple #[],C2,ABw a,.inr ⟨B,B⟩,.tuple .nil,b,c,d⟩
def PL (T:BM P τ) (n:C5 P τ ρ h w) {m k:Aa} (f:BH τ t m k v h=I J) (M:VR ρ m m') (g:VR ρ k k') (C:VR ρ v v'):
 B6 P τ ρ h w (do Instr.mapUpdate t m' k' v';pure .skip) (.tuple #[]) J:=by
 unfold BH at f;split at f
 case h_2=>cases f
 rename_i kt et r D;obtain⟨E,f⟩:=C1 f;obtain⟨R,F⟩:=NL E;cases M with|@map _ pl o=>
 split at f
 case h_2=>cases f
 rename_i es H p;obtain⟨S,i,l⟩:=n.1.hr _ _ _ o p;have K:=Ep T Ah w 5 10000 kt k k' G E g;split at f
 .rename_i j e q
  obtain⟨N,f⟩:=C1 f;cases f;obtain⟨O,s,u⟩:=ED T F g w q l;cases u with|@some _ _ L a b c d _=>
  have Q:=SQ (P:=P) (w:=w) N b g;obtain⟨x,y,z,A⟩:=GK (es2:=Cu es j λe=>{e with key:=k,val:=v}) (es2':=S.modify j λe=>{e with key:=k',val:=v'}) n o p i
   (by rw[M8];exact l.C _ _ j λe L _ _ _ _ hb=>⟨g,C,hb⟩)
  refine YI ?_ y z A;simp[Instr.mapUpdate,AI,aA (T.ds _ _ D),Aw,bB i,K,s,(by simpa using a:S[j]?=I L),Ek,EN,Q,x]
 .rename_i q
  cases f;obtain⟨O,s,u⟩:=ED T F g w q l;cases u;obtain⟨x,y,z,A⟩:=GK (es2:=es++[{key:=k,val:=v,born:=H}]) (es2':=S.push {key:=k',val:=v',born:=H}) n o p i (by rw[uP];exact l.push g C B);refine YI ?_ y z A;simp[Instr.mapUpdate,AI,aA (T.ds _ _ D),Aw,bB i,K,s,x]
 .cases f
def RG (T:BM P τ) (o:C5 P τ ρ h w) {m k:Aa} (f:D6 τ t m k h=I (u,J)) (O:VR ρ m m') (g:VR ρ k k'):
 B6 P τ ρ h w (do pure (.value (←Instr.mapEntry t m' k'))) u J:=by
 unfold D6 at f;split at f
 case h_2=>cases f
 rename_i kt et r H;obtain⟨K,f⟩:=C1 f;obtain⟨Y,L⟩:=NL K;cases O with|@map _ pl p=>
 split at f
 case h_2=>cases f
 rename_i es q s;obtain⟨U,i,l⟩:=o.1.hr _ _ _ p s;have M:=Ep T Ah w 5 10000 kt k k' G K g;split at f
 .rename_i j e x
  obtain⟨Q,f⟩:=C1 f;cases f;obtain⟨R,y,A⟩:=ED T L g w x l;cases A with|@some _ _ n a b c d _=>
  have S:=SQ (P:=P) (w:=w) Q b g;obtain⟨C,D,E,F⟩:=GK (es2:=Cu es j λe=>{e with key:=k}) (es2':=U.modify j λe=>{e with key:=k'}) o p s i
   (by rw[M8];exact l.C _ _ j λe n _ _ _ V hb=>⟨g,V,hb⟩)
  refine B6.made (Dp (v:=.tuple #[n.val,goInt n.born]) ?_) (.tuple (.cons c (.cons (by rw[d];exact .int _ _) .nil))) D E F;simp[Instr.mapEntry,AI,aA (T.ds _ _ H),Aw,bB i,M,y,(by simpa using a:U[j]?=I n),Ek,EN,S,C,Bc]
 .rename_i x
  split at f
  .rename_i z W
   cases f;let⟨X,N⟩:=JJ T W;let⟨R,y,A⟩:=ED T L g w x l;cases A;obtain⟨C,D,E,F⟩:=GK (es2:=es++[{key:=k,val:=z,born:=q}]) (es2':=U.push {key:=k',val:=z,born:=q}) o p s i (by rw[uP];exact l.push g (VR.ak N) B);refine B6.made (Dp (v:=.tuple #[z,goInt q]) ?_) (.tuple (.cons (VR.ak N) (.cons (.int _ _) .nil))) D E F;simp[Instr.mapEntry,AI,aA (T.ds _ _ H),Aw,bB i,M,y,X,C,Bc]
  .cases f
 .cases f
def RJ (f:ER ρ es C3) (n:Nat):∀{i j:Nat},Fx n es i=I j->i<=j/\C3.findIdx? (λe=>(e.born:Int)==(n:Int))=I (j-i):=by
 induction f with
 |nil=>intro i j h;simp[Fx] at h
 |
  cons a b c r g=>
  rename_i e d l l';intro i j h;simp[Fx] at h;rw[List.findIdx?_cons];cases hb:Am e.born n with
  |
   true=>
   simp[hb,D1,I.injEq] at h;subst h;have hb:=Af hb;have:((d.born:Int)==(n:Int))=true:=by rw[←c,hb];simp
   simp[this]
  |false=>
   simp[hb,I0] at h;obtain⟨o,k⟩:=g h;have p:e.born≠n:=λm=>by rw[m] at hb;simp at hb
   have:((d.born)==(n:Int))=false:=by rw[←c];simp;omega
   simp[this,BE,if_false,k,Ek];exact⟨G,by congr 1;omega⟩
def O2 (b:C5 P τ ρ h w) {m s c:Aa} (a:DM m s v h=I J) (k:VR ρ m m') (o:VR ρ s c) (p:VR ρ v v'):
 B6 P τ ρ h w (do Instr.entryStore t m' c v';pure .skip) (.tuple #[]) J:=by
 unfold DM at a;split at a
 case h_2=>cases a
 rename_i r n q;cases k with|@map _ pl d=>
 obtain⟨kk,rfl⟩:=E7 q o;split at a
 case h_2=>cases a
 rename_i es C f;obtain⟨B,g,j⟩:=b.1.hr _ _ _ d f;split at a
 case h_2=>cases a
 rename_i i U;cases a;obtain⟨_,U⟩:=RJ j n U;obtain⟨u,x,y,z⟩:=GK (es2:=Cu es i λe=>{e with val:=v}) (es2':=B.modify i λe=>{e with val:=v'}) b d f g
  (by rw[M8];exact j.C _ _ i λe D _ _ A _ hb=>⟨A,p,hb⟩)
 refine YI ?_ x y z;simp[Instr.entryStore,AI,Aw,bB g,asInt,asIntOf,Bc,(by obtain⟨l⟩:=B;simpa using U:B.findIdx? (λe=>(e.born:Int)==(n:Int))=I i),u]
def Ut (T:BM P τ) (l:C5 P τ ρ h w) {u:List Ai} (ty:Ai) (f:II τ u vs h=I J) (i:LR ρ vs D0):
 B6 P τ ρ h w (do pure (.value (←Builtin.delete_ ⟨u⟩ ty ⟨D0⟩))) (.tuple #[]) J:=by
 unfold II at f;split at f
 case h_2=>cases f
 rename_i t u m k;cases i with|cons H i=>
 cases i with|cons n i=>
 cases i;rename_i m' k';split at f
 .rename_i kt et o
  let⟨p,f⟩:=C1 f;cases f;cases H;have q:=Ep T Ag w 5 10000 kt k k' G p n;exact B6.pure l (Dp (by simp[Builtin.delete_,aA (T.ds _ _ o),q])) (.tuple .nil)
 .rename_i kt et r o
  let⟨p,f⟩:=C1 f;let⟨M,K⟩:=NL p;cases H with|@map _ pl v=>
  split at f
  case h_2=>cases f
  rename_i es N x;let⟨C3,s,g⟩:=l.1.hr _ _ _ v x;have q:=Ep T C3.isEmpty w 5 10000 kt k k' G p n;split at f
  .rename_i j e y
   cases f;obtain⟨L,z,A⟩:=ED T K n w y g;cases A with|@some _ _ O a b c d _=>
   obtain⟨C,D,E,F⟩:=GK (es2':=C3.eraseIdxIfInBounds j) l v x s (by
    rw[Array.eraseIdxIfInBounds];split
    .rw[Array.toList_eraseIdx];exact g.eraseIdx j
    .have:LT es<=j:=by have:=g.length;simp at this;omega
     rw[List.eraseIdx_of_length_le this];exact g)
   refine B6.made (Dp ?_) (.tuple .nil) D E F;simp[Builtin.delete_,Db,CO,B5,AI,aA (T.ds _ _ o),Aw,bB s,q,z,C,Bc]
  .rename_i y
   cases f;let⟨L,z,A⟩:=ED T K n w y g;cases A;obtain⟨C,D,E,F⟩:=GK l v x s g;refine B6.made (Dp ?_) (.tuple .nil) D E F;simp[Builtin.delete_,Db,CO,B5,AI,aA (T.ds _ _ o),Aw,bB s,q,z,C,Bc]
  .cases f
 .cases f
end
section
variable{P:AN} {τ:Bb} {ρ:Ren} {h:Y} {w:AM}
def Uj (a:C5 P τ ρ h w) {o:Obj} (b:∀f,ρ.le f->BR P f ⟨w.heap.size,0,0⟩ (w.alloc o) hb) {s:Sem RM}
 (c:s.run P w=.ok (.value (.pointer (I ⟨w.heap.size,0,Z⟩))) (w.alloc o)):B6 P τ ρ h w s (AG h.a 0) (h.new hb):=by
 obtain⟨d,e⟩:=a.alloc o hb 0 (b _ (Ren.M (a.1.fresh h.a (Ae _)) _));refine⟨_,_,_,_,c,.inl B,?_,d,e,WS.le_refl _⟩;have:=VR.ptr (ρ:=ρ.ah h.a ⟨w.heap.size,0,0⟩) (id:=h.a) (off:=0) (Ren.C _ _);simpa[AG] using this
def WV (T:BM P τ) (c:C5 P τ ρ h w) (a:Gh τ t x h=I (u,J)) (e:VR ρ x x'):
 B6 P τ ρ h w (do pure (.value (←Instr.range t x'))) u J:=by
 unfold Gh at a;split at a
 .cases a
 rename_i l f;split at a
 .rename_i s
  cases a;cases e;exact Uj c (hb:=.str s 0) (o:=.stringIter s 0) (λp _=>⟨Ca w _,B⟩) (Dp (by simp[Instr.range,aA (T.ds _ _ f)]))
 .cases a
  cases e;exact Uj c (hb:=.ay Z 0 [] 0) (o:=.mapIter Z 0 #[] 0) (λp _=>⟨Ca w _,B⟩) (Dp (by simp[Instr.range,aA (T.ds _ _ f)]))
 .rename_i m
  split at a
  .rename_i es d i
   cases a;cases e with|@map _ pl g=>
   let⟨C3,j,n⟩:=c.1.hr _ _ _ g i;exact Uj c (hb:=.ay (I m) d [] d) (o:=.mapIter (I pl.b) d #[] d) (λp k=>⟨pl,k _ _ g,Ca w _,B⟩) (Dp (by simp[Instr.range,aA (T.ds _ _ f),bB j]))
  .cases a
 .cases a
def LL {s:Bd} {a:Nat} (b:w.heap[r]?=I (.stringIter s a)):(getObj r).run P w=.ok (.stringIter s a) w:=by
 simp[getObj,gN,b]
def GQ {m:Option Nat} {a:Nat} {d:Array Nat} (c:w.heap[r]?=I (.mapIter m a d b)):(getObj r).run P w=.ok (.mapIter m a d b) w:=by
 simp[getObj,gN,c]
def ER.bU (f:ER ρ es C3) (g:Bo):ER ρ (es.filter λe=>!g.contains e.born) (C3.filter λe=>!g.contains e.born):=by
 induction f with
 |nil=>exact .nil
 |cons a b c r d=>
  simp only[List.filter_cons];rw[c];split
  .exact .cons a b c d
  .exact d
def ER.bI (d:ER ρ es C3) (p:Nat->Bool):es.all (λe=>p e.born)=C3.all (λe=>p e.born):=by
 induction d with
 |nil=>rfl
 |cons a b c r f=>simp only[Jh,f,c]
def Yk (T:BM P τ) (o:C5 P τ ρ h w) {R S:Aa} {Fh:Bool} {l:List (Aa×Y)} (ty:Ai) (c:FT R Fh h=I l) (hx:VR ρ R S):
 ∃v J,(v,J)∈l/\B6 P τ ρ h w (do pure (.value (←Instr.next S Fh ty))) v J:=by
 unfold FT at c;split at c
 case h_2=>cases c
 rename_i r;cases hx with|@ptr _ _ pl C=>
 split at c
 ·
  rename_i s g q;obtain⟨p,t⟩:=o.1.hr _ _ _ C q;rw[t];cases k:AD g s.size with
  |
   true=>
   simp only[k,D1,I.injEq] at c;subst c;have k:g<aL s:=by simpa[AK] using k
   refine⟨_,_,bQ.2 rfl,?_⟩;have H:=(dM.1 p).1;rw[←Pk];obtain⟨K,E⟩:=o.write (w':={w with heap:=w.heap.setIfInBounds pl.b (.stringIter s (g+(io s g).2))}) (hb':=.str s (g+(io s g).2)) C q B (by simp)
    (λb hb=>by show(w.heap.setIfInBounds pl.b _)[b]?=_;rw[AY (Ne.symm hb)]) ⟨by simp[H],t⟩ B B B
   refine B6.made (Dp (v:=.tuple #[.bool Ag,goInt g,.int .i32 (io s g).1]) ?_) (.tuple (.cons (.bool _) (.cons (.int _ _) (.cons (.int _ _) .nil)))) K E (h.C r).1;have M:=Km (P:=P) (o':=.stringIter s (g+(io s g).2)) p (by simp);simp[Instr.next,LL p,k,M]
  |
   false=>
   simp only[k,I0,I.injEq] at c;subst c;have k:¬g<aL s:=by
    intro D;have:AD g s.size=true:=by simpa[AK] using D
    rw[this] at k;cases k
   refine⟨_,_,bQ.2 rfl,B6.pure o (Dp (v:=.tuple #[.bool Ah]) ?_) (.tuple (.cons (.bool _) .nil))⟩;simp[Instr.next,LL p,k]
 ·
  rename_i f seen x q;obtain⟨p,t⟩:=o.1.hr _ _ _ C q;rw[t];cases c;refine⟨_,_,bQ.2 rfl,B6.pure o (Dp (v:=.tuple #[.bool Ah]) ?_) (.tuple (.cons (.bool _) .nil))⟩;simp[Instr.next,GQ p]
 ·
  rename_i m f seen x q;obtain⟨y,V,p,t⟩:=o.1.hr _ _ _ C q;rw[t];split at c
  case h_2=>cases c
  rename_i es u ag;obtain⟨C3,m1,F⟩:=o.1.hr _ _ _ V ag;obtain⟨ah,c⟩:=kF c;obtain⟨W,c⟩:=C1 c;have ai:(!(⟨seen⟩:Array Nat).isEmpty&&!C3.isEmpty&&C3.all (λe:Ap=>decide (e.born≥x)))=false:=by
   have e2:C3.isEmpty=es.isEmpty:=by
    have:=F.length;rw[DJ];cases es with
    |nil=>simp at this⊢;exact Array.size_eq_zero_iff.1 this.symm
    |cons a l=>simp at this⊢;intro D;rw[D] at this;simp at this
   have e3:C3.all (λe:Ap=>decide (e.born≥x))=es.all (λe=>Ar x e.born):=by
    rw[F.bI (λb=>Ar x b),←Array.all_toList];congr 1;funext e;rw[DJ];simp[UP]
   have e4:(⟨seen⟩:Array Nat).isEmpty=seen.isEmpty:=by cases seen<;>rfl
   rw[e2,e3,e4];exact ah
  have aj:∀e∈aI C3,e.born<f:=by
   have:=F.bI (λb=>AD b f);rw[this] at W;intro e n;have:=Jf.1 W e n;simpa[AK] using this
  have z:=F.bU seen;have X:(C3.filter λe=>!(⟨seen⟩:Array Nat).contains e.born)=⟨C3.toList.filter λe=>!seen.contains e.born⟩:=by
   apply Et;simp
  generalize hL:C3.toList.filter (λe=>!seen.contains e.born)=d at z X;have aa:∀e∈d,e.born<f:=λe n=>aj e (by rw[←hL] at n;exact(List.mem_filter.1 n).1);have ak:(⟨d⟩:Array Ap).filter (·.born<f)=⟨d⟩:=by
   apply Et;simp only[vW];exact List.filter_eq_self.2 λe n=>by simpa using aa e n
  have al:(⟨d⟩:Array Ap).filter (·.born≥f)=#[]:=by
   apply Et;simp only[vW];exact List.filter_eq_nil_iff.2 λe n=>by have:=aa e n;simp;omega
  generalize es.filter (λe=>!seen.contains e.born)=L at z c;obtain⟨em,N⟩:∃em,(Instr.next (.pointer (I ⟨pl.b,0,Z⟩)) Ah ty).run P w=(do
   match(((if(⟨d⟩:Array Ap).isEmpty then#[Z] else#[])++(⟨d⟩:Array Ap).map I)[←choose (.mapNext ((if(⟨d⟩:Array Ap).isEmpty then#[Z] else#[])++(⟨d⟩:Array Ap).map I).size)]?:Option (Option Ap)) with
   |
    some (I e)=>do
    setObj pl.b (.mapIter (I y.b) f ((⟨seen⟩:Array Nat).push e.born) u)
    pure (.tuple #[.bool Ag,e.key,e.val])
   |some Z=>pure (.tuple #[.bool Ah])
   |none=>stuck em:Sem Aa).run P w:=by
   apply Exists.intro;simp only[Instr.next,AI,GQ p,Aw,bB m1,ai,BE,if_false,X,ak,al,Array.append_empty]
   rfl
  split at c
  .cases c
   cases z;refine⟨_,_,bQ.2 rfl,B6.pure o (Dp (v:=.tuple #[.bool Ah]) ?_) (.tuple (.cons (.bool _) .nil))⟩;rw[N];simp[Question.forced]
  .rename_i am
   cases c;have ab:d≠[]:=λD=>by subst D;cases z;exact am B
   have an:(⟨d⟩:Array Ap).isEmpty=false:=by cases d with|nil=>exact Cf B ab|cons _ _=>rfl
   simp only[an,BE,if_false,Array.empty_append,Array.size_map] at N;have ad:0<LT d:=List.length_pos_iff.2 ab;have O:∃i j,i<LT d/\(j=w\/j=w.drew)/\(choose (.mapNext (⟨d⟩:Array Ap).size)).run P w=.ok i j:=by
    rw[run_choose];by_cases ae:(Question.mapNext (⟨d⟩:Array Ap).size).forced=Ag
    .rw[Bi ae];exact⟨0,w,ad,.inl B,B⟩
    .rw[Bm ae]
     refine⟨_,w.drew,?_,.inr B,B⟩;exact Je _ ad
   obtain⟨i,j,U,Q,O⟩:=O;have ao:C5 P τ ρ h j:=by rcases Q with rfl|rfl;exact o;exact o.drew
   have ap:j.heap=w.heap:=by rcases Q with rfl|rfl<;>rfl
   have aw:=z.length;obtain⟨e,n⟩:∃e,L[i]?=I e:=⟨L[i]'G,by simp[show i<LT L by omega]⟩;obtain⟨A,aq,ha,hb,k⟩:=z.get n;have ar:e∈L:=AZ n;refine⟨_,_,List.mem_map.2 ⟨e,ar,B⟩,?_⟩;have af:j.heap[pl.b]?=I (.mapIter (I y.b) f ⟨seen⟩ x):=by rw[ap];exact p
   have H:=(dM.1 af).1;obtain⟨K,E⟩:=ao.write (w':={j with heap:=j.heap.setIfInBounds pl.b (.mapIter (I y.b) f ((⟨seen⟩:Array Nat).push A.born) u)}) (hb':=.ay (I m) f (seen++[e.born]) u) C q B (by simp)
    (λb hb=>by show(j.heap.setIfInBounds pl.b _)[b]?=_;rw[AY (Ne.symm hb)]) ⟨y,V,by simp[H,k],t⟩ B B B
   have au:Mj ρ w h.a ρ {j with heap:=j.heap.setIfInBounds pl.b (.mapIter (I y.b) f ((⟨seen⟩:Array Nat).push A.born) u)} (h.put r (.ay (I m) f (seen++[e.born]) u)).a (h.put r (.ay (I m) f (seen++[e.born]) u)).lo:=by
    rcases Q with rfl|rfl
    .exact E
    .exact E.M
   refine B6.made (Dp (v:=.tuple #[.bool Ag,A.key,A.val]) ?_) (.tuple (.cons (.bool _) (.cons ha (.cons hb .nil)))) K au (h.C r).1;rw[N,AI,O];have M:=Km (P:=P) (o':=.mapIter (I y.b) f ((⟨seen⟩:Array Nat).push A.born) u) af (by simp);have av:((⟨d⟩:Array Ap).map I)[i]?=I (I A):=by simp[aq]
   simp only[Aw,av,AI,M,Bc]
 .cases c
end
section
variable{P:AN} {τ:Bb} {ρ:Ren} {h:Y} {w:AM}
def WF (i:C5 P τ ρ h w) {j k:Aa} (d:Ou j h=I u) (o:VR ρ j k):∃n,(Instr.entry k).run P w=.ok n w/\VR ρ u n:=by
 unfold Ou at d;split at d
 case h_2=>cases d
 rename_i r;cases o with|@ptr _ _ pl p=>
 split at d
 case h_2=>cases d
 rename_i m L G M q;obtain⟨N,s,t,v⟩:=i.1.hr _ _ _ p q;rw[v];split at d
 case h_2=>cases d
 rename_i st es O x y;obtain⟨J,z,A⟩:=i.1.hr _ _ _ s y;replace d:=C1 d;obtain⟨g,d⟩:=d;have g:=Af g;subst g;split at d
 case h_2=>cases d
 rename_i e C;cases d;have:∀{l l':List Ap},ER ρ l l'->l.find? (λe=>e.born==st)=I e->∃f,l'.find? (λe=>e.born==st)=I f/\VR ρ e.key f.key/\VR ρ e.val f.val:=by
  intro l l' D
  induction D with
  |nil=>intro h;simp at h
  |
   cons a b c r E=>
   rename_i F H l l';intro h;rw[List.find?_cons] at h⊢;rw[←c];cases hb:F.born==st with
   |true=>rw[hb] at h;cases h;exact⟨H,B,a,b⟩
   |false=>rw[hb] at h;simp at h;exact E h
 obtain⟨f,S,R,Q⟩:=this A C;have K:J.find? (λe=>e.born==st)=I f:=by obtain⟨l⟩:=J;simpa using S
 have hb:(⟨G⟩:Array Nat).back?=I st:=by simpa using x
 refine⟨.tuple #[f.key,f.val],?_,.tuple (.cons R (.cons Q .nil))⟩;simp[Instr.entry,GQ t,hb,bB z,K]
def LR.putAt:∀{vs d cs c:AH} (off:Nat),LR ρ cs c->LR ρ vs d->LR ρ (My cs off vs) (Ev.My c off d)
 |_,_,_,_,_,b,.nil=>b
 |_,_,_,_,off,b,.cons a r=>by
  simp only[Ev.My];exact LR.putAt (off+1) (b.set off a) r
def YW (off:Nat):∀(l:AH) (k:Nat) (C:Array Aa),((l.zipIdx k).foldl (λcs (p:Aa×Nat)=>cs.setIfInBounds (off+p.2) p.1) C).toList=My (aI C) (off+k) l
 |[],k,C=>rfl
 |v::l,k,C=>by
  rw[List.zipIdx_cons,F7,YW off l (k+1),My];simp[DD]
inductive PR (ρ:Ren):List (Nat×Aa)->List (Nat×Aa)->Prop
 |nil:PR ρ [] []
 |cons {i:Nat} {v v':Aa} {l l':List (Nat×Aa)}:VR ρ v v'->PR ρ l l'->PR ρ ((i,v)::l) ((i,v')::l')
def Rj {g place':Nat->Option (Nat×Nat)} (l:∀i p,g i=I p->place' i=I p):∀(ps b:List (Nat×Aa)) (cs c:AH) (C:Array Aa),Jw g ps cs=I c->PR ρ ps b->LR ρ cs (aI C)->
 ∃h,Instr.fill place' C b=I h/\LR ρ c (aI h):=by
 intro ps
 induction ps with
 |nil=>intro b cs c C a e d;cases e;simp[Jw] at a;subst a;exact⟨C,B,d⟩
 |cons q ps m=>
  intro b cs c C a e d;cases e with|@cons i v v' _ l' n o=>
  simp only[Jw] at a;split at a
  .cases a
  .rename_i off r s
   let⟨f,a⟩:=C1 a;let⟨f,c3⟩:=Dh f;let⟨c1,j⟩:=Dh f;have c1:=Af c1;have j:=Ac j;have k:=n.cellsOf;have t:v'.cells.size=r:=by rw[←c1,k.length,EZ]
   have u:C.size=LT cs:=by rw[d.length,EZ]
   simp only[Instr.fill,l _ _ s];rw[Bm Jq];refine m l' _ _ _ a o ?_;have:=YW off (aI v'.cells) 0 C;rw[←IV,Array.toList_zipIdx];rw[this];exact d.putAt off k
def M3 (c:C5 P τ ρ h w) {fr:Fr} {a:FP} (d:Tv ρ fr a):∀{ps:List (Nat×BU)} {vs:List (Nat×Aa)},Ql τ fr ps=I vs->PR ρ vs (ps.map λ(i,x)=>(i,a.eval x))
 |[],vs,b=>by simp[Ql] at b;subst b;exact .nil
 |(i,x)::ps,vs,b=>by
  simp only[Ql] at b;split at b
  .rename_i v g e f
   cases b;exact .cons (EK c d e) (M3 c d f)
  .cases b
def Ww (T:BM P τ) {ps:List (Nat×Aa)} {l:Array (Nat×Aa)} (b:TO τ t ps=I u) (F:PR ρ ps (aI l)) (w:AM):
 ∃D,(Instr.build t l).run P w=.ok D w/\VR ρ u D:=by
 have Y:∀(i:KR) z,τ.b.get t=I i->i.zero=I z->DG z=Ag->∀{d:eT},τ.ds.get t=I d->∀{y place':Nat->Option (Nat×Nat)} {cs:AH},(∀i p,y i=I p->place' i=I p)->
  Jw y ps (AJ z)=I cs->∃a,Instr.fill place' z.cells (aI l)=I a/\LR ρ cs (aI a):=by
  intro i z U m H d o y place' cs K q;exact Rj K ps (aI l) _ _ z.cells q F (FZ H)
 unfold TO at b;split at b
 .rename_i X z o m
  let⟨v,b⟩:=C1 b;split at b
  .rename_i cs q
   cases b;cases U:τ.b.get t with
   |none=>unfold CP at m;simp[U] at m
   |some i=>
    let⟨s,A⟩:=E9 T U m;have L:∃x,X.toList.mapM (λf=>(P.info? f.type).map λi=>(f.offset,i.size))=I x/\
     ∀(j:Nat) f k,X.toList[j]?=I f->τ.b.get f.type=I k->x[j]?=I (f.offset,k.size):=by
     clear q o Y;generalize (aI X)=E at v
     induction E with
     |nil=>exact⟨[],B,λj f k h=>Jq⟩
     |cons f E M=>
      simp only[Jh,An] at v;let⟨N,O,Q⟩:=M v.2;let⟨k,r⟩:=fP.1 v.1;refine⟨(f.offset,k.size)::N,by simp[UH,T.b _ _ r,O],λj g R c C=>?_⟩;cases j with
      |zero=>cases c;rw[r] at C;cases C;rfl
      |succ j=>simp at c;simpa using Q j g R c C
    let⟨x,S,V⟩:=L;obtain⟨a,J,G⟩:=Y i z U s A o (place':=λi=>x.toArray[i]?) (λj p c=>by
     split at c
     .rename_i f W
      split at c
      .rename_i k r
       cases c;simpa using V j f k W r
      .cases c
     .cases c) q
    have hb:P.built t (aI l)=I a:=by
     simp only[uJ,T.b _ _ U,T.ds _ _ o,s,S];exact J
    let⟨a⟩:=a;exact⟨.agg ⟨a⟩,run_build w t l ⟨a⟩ hb,.agg G⟩
  .cases b
 .rename_i n e z o m
  split at b
  .rename_i k r
   split at b
   .rename_i cs q
    cases b;cases U:τ.b.get t with
    |none=>unfold CP at m;simp[U] at m
    |some i=>
     let⟨s,A⟩:=E9 T U m;let⟨a,J,G⟩:=Y i z U s A o (λj p c=>c) q;have hb:P.built t (aI l)=I a:=by
      simp only[uJ,T.b _ _ U,T.ds _ _ o,s,T.b _ _ r];exact J
     let⟨a⟩:=a;exact⟨.agg ⟨a⟩,run_build w t l ⟨a⟩ hb,.agg G⟩
   .cases b
  .cases b
 .cases b
def OZ (T:BM P τ) (o:C5 P τ ρ h w) {ps:List (Nat×Aa)} {b:Array (Nat×Aa)} (a:Bs τ t n ps h=I (u,J)) (q:PR ρ ps (aI b)):
 B6 P τ ρ h w (do pure (.value (←Instr.buildSlice t n b))) u J:=by
 unfold Bs at a;split at a
 case h_2=>cases a
 rename_i e g;split at a
 case h_2=>cases a
 rename_i i z U r;obtain⟨c,a⟩:=C1 a;obtain⟨c,M⟩:=Dh c;obtain⟨c1,d⟩:=Dh c;have d:=Af d;have M:=Ac M;split at a
 case h_2=>cases a
 rename_i cs s;cases a;obtain⟨y,A⟩:=E9 T U r;have l:=FZ (ρ:=ρ) A;have C:z.cells.size=i.size:=by rw[←d,l.length,EZ]
 have D:madeCells z.cells (n*i.size)=⟨Dy (aI z.cells) n⟩:=by rw[←C,←OP]
 obtain⟨L,B,N⟩:=Rj (place':=λk=>I (k*i.size,i.size)) (λj p E=>E) ps (aI b) _ _ (madeCells z.cells (n*i.size)) s q (by rw[D];exact l.b1 n);obtain⟨F,H⟩:=Ua o e N;refine B6.made (Dp (v:=.slice (I ⟨w.heap.size,0,Z⟩) n n) ?_) (by
  have K:=VR.slice (ρ:=ρ.ah h.a ⟨w.heap.size,0,0⟩) (id:=h.a) (off:=0) (sp:=Z) (len:=n) (cap:=n) (o':=0) (Ren.C _ _) (λ_=>rfl);simpa[Hl] using K) F H (WS.le_refl _)
 have m:¬(n*i.size>2^24):=G
 by_cases h0:n*i.size=0
 .have f:(qE (n*i.size)).map (λx=>(#[]:Array Aa)[x%(#[]:Array Aa).size]!)=madeCells z.cells (n*i.size):=by simp[h0,madeCells]
  simp only[Instr.buildSlice,AI,aA (T.ds _ _ g),aV (T.b _ _ U),Aw,m,if_false,Bi h0,Bc,f,B,newRow,run_newObj];rfl
 .have f:(qE (n*i.size)).map (λx=>z.cells[x%z.cells.size]!)=madeCells z.cells (n*i.size):=rfl
  simp only[Instr.buildSlice,AI,aA (T.ds _ _ g),aV (T.b _ _ U),Aw,m,if_false,Bm h0,Fz (T.b _ _ U) y,Bc,f,B,newRow,run_newObj];rfl
end
section
variable{P:AN} {τ:Bb} {ρ:Ren} {h:Y} {w:AM}
def Uw (T:BM P τ) {p:Ai} {e:Bool} (a:P8 τ x t e=I u) (g:VR ρ x x') (w:AM):
 ∃c,(Instr.typeAssert x' p t e).run P w=.ok c w/\VR ρ u c:=by
 unfold P8 at a;simp only[] at a;split at a
 .cases a
 rename_i k r;have h:∀(s d:Option Ai) (m:String) {v:Aa},(bif e then(match CP τ t with|some z=>I (.tuple #[z,.bool Ah])|none=>Z) else Z)=I v->
  ∃F,(do if e then pure (.tuple #[←zeroValue t,.bool Ah]) else runtimePanic (.typeAssertion s d t m):Sem Aa).run P w=.ok F w/\VR ρ v F:=by
  intro s d m v b;obtain⟨f,b⟩:=C1 b;split at b
  .rename_i z y
   cases b;obtain⟨A,C⟩:=JJ T y;exact⟨.tuple #[z,.bool Ah],by simp[f,A],.tuple (.cons (VR.ak C) (.cons (.bool _) .nil))⟩
  .cases b
 have q:∀{v F:Aa},VR ρ v F->∃c,(pure (if e then .tuple #[F,.bool Ag] else F):Sem Aa).run P w=.ok c w/\VR ρ (if e=Ag then .tuple #[v,.bool Ag] else v) c:=by
  intro v F b;refine⟨_,B,?_⟩;cases e
  .exact b
  .exact .tuple (.cons b (.cons (.bool _) .nil))
 unfold Instr.typeAssert;simp only[AI,aA (T.ds _ _ r),Aw];split at a
 .cases g;exact h _ _ _ a
 .rename_i E G D
  cases g with|@iface _ _ F b=>
  split at a
  .rename_i i U
   simp only[AI,bG (T.b _ _ U),Aw];split at a
   .rename_i l
    cases a;rw[l];exact q (.iface b)
   .rename_i m l
    rw[l];exact h _ _ _ a
  .cases a
 .rename_i j
  cases g;cases k<;>first
   |exact Cf rfl (j _)
   |exact h _ _ _ a
 .rename_i G D j
  cases g with|@iface _ _ F b=>
  split at a
  .rename_i n
   cases a;let⟨c,f,o⟩:=q b;refine⟨c,?_,o⟩;cases k<;>first
    |exact Cf rfl (j _)
    |(simp only[n,if_true];exact f)
  .rename_i n
   let⟨c,f,o⟩:=h (I p) (I G) "" a;refine⟨c,?_,o⟩;cases k<;>first
    |exact Cf rfl (j _)
    |(simp only[n,if_false];exact f)
 .cases a
def DB (b:C5 P τ ρ h w) {s:Sem Aa} (c:∃a,s.run P w=.ok a w/\VR ρ u a):B6 P τ ρ h w (do pure (.value (←s))) u h:=by
 let⟨a,d,e⟩:=c;exact B6.pure b (Dp d) e
def Ov {o:Option Aa} (e:CN h o=I (v,J)):o=I v/\J=h:=by
 cases o with
 |none=>cases e
 |some x=>simp[CN] at e;exact⟨Jq,e.2.symm⟩
def vt {o:Option Y} (e:Nb o=I (v,J)):o=I J/\v=.tuple #[]:=by
 cases o with
 |none=>cases e
 |some x=>simp[Nb] at e;exact⟨Jq,e.1.symm⟩
def XJ (b:C5 P τ ρ h w) (c:Tv ρ fr a) {x:Option BU} {v:Option Aa} (d:ZK τ fr x=I v):fQ ρ v (x.map a.eval):=by
 rcases OE b c d with⟨rfl,rfl⟩|⟨o,u,rfl,rfl,e⟩
 .constructor
 .constructor;exact e
def Gs {p:Prop} (h:p:=by assumption):p:=h
def Yl (T:BM P τ) (e:C5 P τ ρ h w) (p:Tv ρ fr a) {o:C0} (b:Ch τ fr h o.op=I (v,J)):
 B6 P τ ρ h w (execOp a.eval o) v J:=by
 have E:∀{x:BU} {v:Aa},ev τ fr x=I v->VR ρ v (a.eval x):=λj=>EK e p j;unfold Ch iH at b;unfold execOp;simp only[];split at b
 all_goals try(first|(cases b;done)|(rename_i f;first
  |(obtain⟨m,rfl⟩:=Ov b;simp only[f];exact B6.pure e rfl (E m))
  |(
   split at b
   .simp only[f];first
     |exact Ym T e b (E Gs)
     |exact PQ T e b (E Gs) (E Gs)
     |exact RG T e b (E Gs) (E Gs)
     |exact WV T e b (E Gs)
     |(
      obtain⟨g,rfl⟩:=Ov b
      first
       |exact TH (Yi T g (E Gs) (E Gs) w) e
       |exact TH ⟨Abt g (E Gs) w,WU g⟩ e
       |exact DB e (WW T g (E Gs) (XJ e p Gs) (XJ e p Gs) (XJ e p Gs) w)
       |exact DB e (PS T g (E Gs) w)
       |exact DB e (Wp T g (E Gs) w)
       |exact DB e (PO T g (E Gs) (E Gs) w)
       |exact DB e (Wn T g (E Gs) (E Gs) w)
       |exact DB e (UB T e g (E Gs) (E Gs))
       |exact DB e (WF e g (E Gs))
       |exact DB e (Uw T g (E Gs) w)
       |exact DB e (UA T g (E Gs) w))
     |(
      obtain⟨g,rfl⟩:=vt b
      first
       |exact PL T e g (E Gs) (E Gs) (E Gs)
       |exact O2 e g (E Gs) (E Gs) (E Gs))
   .cases b)))
 .rename_i c x y f
  split at b
  .rename_i t Q
   obtain⟨m,rfl⟩:=Ov b;simp only[f];have L:=E Q;cases R:a.eval c<;>rw[R] at L<;>cases L;cases t
   .exact B6.pure e Jq (E m)
   .exact B6.pure e Jq (E m)
  .cases b
 ·
  rename_i t f;split at b
  .rename_i z S
   simp only[f];let⟨V,W⟩:=JJ T S;refine S7 e t (VR.ak W) b (Dp ?_);simp[Instr.alloc,V,newVar,newRow]
  .cases b
 ·
  rename_i t x f;split at b
  .rename_i X l
   simp only[f];refine S7 e t (E l) b (Dp ?_);simp[Instr.box,newVar,newRow]
  .cases b
 ·
  rename_i t ps f;split at b
  .rename_i vs l
   obtain⟨m,rfl⟩:=Ov b;simp only[f];have C:=M3 e p l;rw[←KO] at C;exact DB e (Ww T m C w)
  .cases b
 ·
  rename_i t n ps f;split at b
  .rename_i vs l
   simp only[f];have C:=M3 e p l;rw[←KO] at C;exact OZ T e b C
  .cases b
 ·
  rename_i t x f;split at b
  .rename_i id off l
   obtain⟨m,rfl⟩:=Ov b;simp only[f];have j:=E l;generalize a.eval x=x' at j⊢;cases j with|@ptr _ _ pl A=>
   let⟨v',g,D⟩:=OJ T e A m;exact DB e ⟨v',Jq,D⟩
  .cases b
 ·
  rename_i t x y f;split at b
  .rename_i id off X l aa
   obtain⟨m,rfl⟩:=vt b;simp only[f];have j:=E l;generalize a.eval x=x' at j⊢;cases j with|@ptr _ _ pl A=>
   let⟨w',g,D,k3,k4⟩:=Sc T e A m (E aa);exact YI Jq D k3 k4
  .cases b
 ·
  rename_i x f;split at b
  all_goals first|(cases b;done)|skip
  all_goals
   rename_i l;cases b;simp only[f];have j:=E l;generalize a.eval x=x' at j⊢;have M:=j;cases j
   all_goals first|exact B6.pure e B M|(cases ‹Yw _ _ _›;exact B6.pure e B M)
 ·
  rename_i t x f;split at b
  .cases b
  .rename_i v1 d Z Y F
   cases b;simp only[f];refine DB e ⟨.iface t (a.eval x),?_,.iface (E Y)⟩;simp only[Instr.makeInterface,AI,aA (T.ds _ _ F),Aw];cases d<;>first
    |rfl
    |exact Cf rfl (Z _)
  .cases b
 ·
  rename_i fn first cap f
  split at b
  .rename_i l1 l2 m q
   split at b
   .cases b
    simp only[f];have A:=JE e p m;have N:=JE e p q;rw[←KO] at A N;exact DB e ⟨.func (.func _) (first.map a.eval) (cap.map a.eval),B,.func (.func _) A N⟩
   .cases b
  .cases b
 ·
  rename_i t r f;simp only[f];have O:∀{s:Sem RM},s.run P w=.ok (.value (.map (I w.heap.size))) (w.alloc (.map #[] 0))->B6 P τ ρ h w s (.map (I h.a)) (h.new (.map [] 0)):=by
   intro s G;let⟨g,D⟩:=e.alloc (.map #[] 0) (.map [] 0) 0 ⟨#[],Ca w _,.nil⟩;exact B6.made G (by have:=VR.map (ρ:=ρ.ah h.a ⟨w.heap.size,0,0⟩) (id:=h.a) (Ren.C _ _);exact this) g D (WS.le_refl _)
  split at b
  .rename_i H
   cases b;rcases OE e p H with⟨rfl,_⟩|⟨o,u,rfl,q,_⟩
   .exact O (Dp Jq)
   .cases q
  .rename_i k n H
   split at b
   .rename_i kt et F
    cases b;rcases OE e p H with⟨rfl,q⟩|⟨o',u,rfl,q,l⟩
    .cases q
    .cases q
     have K:a.eval o'=.int k n:=by cases K:a.eval o'<;>rw[K] at l<;>cases l;rfl
     exact O (Dp (by simp[Instr.makeMap,aA (T.ds _ _ F),K,asInt,asIntOf]))
   .cases b
  .cases b
 ·
  rename_i x i f;split at b
  .rename_i vs h0
   let⟨vs⟩:=vs;obtain⟨g,rfl⟩:=Ov b;simp only[f];have j:=E h0;cases ae:a.eval x<;>rw[ae] at j<;>cases j;rename_i l' U;let⟨v',g1,g2⟩:=U.get g;exact DB e ⟨v',by simp[Instr.extract,g1],g2⟩
  .cases b
end
section
variable{P:AN} {τ:Bb} {ρ:Ren} {h:Y} {w:AM}
def Sb (T:BM P τ) (d:C5 P τ ρ h w) {b:Builtin} {o:List Ai} {ty:Ai} {cs:Array Bool} (a:Bx τ b o vs h=I (u,J)) (e:LR ρ vs D0):
 B6 P τ ρ h w (builtin b ⟨o⟩ ty cs ⟨D0⟩) u J:=by
 unfold Bx at a;unfold builtin;simp only[];split at a
 .split at a
  .rename_i r p;cases a;exact Uv T d ty p e
  .exact R8 T d ty a e
 .split at a
  .rename_i v c;cases a;exact TH (Abk T ty c e w) d
  .cases a
 .exact M7 T d ty a e
 .split at a
  .rename_i v c;cases a;exact KW d ty c e
  .cases a
 .split at a
  .rename_i v c;cases a;exact TH (Abs T d ty c e) d
  .cases a
 .exact X6 T d ty a e
 .split at a
  .rename_i x l
   split at a
   .rename_i v c
    cases a;cases e with|cons f g=>
    obtain⟨i,j,k⟩:=Rk (w:=w) YP Builtin.min2 (λx y z s q m f n w=>X2 m f n w) l _ x _ _ c g f;exact DB d ⟨i,Jq,k⟩
   .cases a
  .cases a
 .split at a
  .rename_i x l
   split at a
   .rename_i v c
    cases a;cases e with|cons f g=>
    obtain⟨i,j,k⟩:=Rk (w:=w) YL Builtin.max2 (λx y z s q m f n w=>Yc m f n w) l _ x _ _ c g f;exact DB d ⟨i,Jq,k⟩
   .cases a
  .cases a
 .split at a
  .rename_i v c;cases a;exact WQ T d ty c e
  .cases a
 .split at a
  .rename_i v c;cases a;exact Ut T d ty c e
  .cases a
 .cases a
def Up (T:BM P τ) (q:C5 P τ ρ h w) {r:Aa} {o:String} (g:No τ h t v o=I (f,r)) (k:VR ρ v v') (n:Nat):
 ∃p,(method (n+1) t v' o).run P w=.ok (f,p) w/\VR ρ r p:=by
 unfold No at g;split at g
 case h_2=>cases g
 rename_i i H U l;split at g
 case h_2=>cases g
 rename_i m s;replace g:=C1 g;obtain⟨u,g⟩:=g;have x:m.path=#[]:=by simpa using u
 unfold method;simp only[AI,bG (T.b _ _ U),Aw,s,x,follow,Bc];split at g
 .rename_i f0 e j
  cases g;exact⟨v',by simp[j,receiverAt,aA (T.ds _ _ l),Place.get],k⟩
 .rename_i f0 e j
  split at g
  case h_2=>cases g
  rename_i id off;cases k with|@ptr _ _ pl y=>
  split at g
  case h_2=>cases g
  rename_i K z;cases g;obtain⟨v',A,C⟩:=OJ T q y z;refine⟨v',?_,C⟩;have D:∀a b c d,(Builtin.ssaWrapNilChk_ a b #[.pointer (I ⟨pl.b,pl.o+off,Z⟩),strVal c,strVal d]).run P w=.ok (.pointer (I ⟨pl.b,pl.o+off,Z⟩)) w:=λa b c d=>rfl;simp[j,receiverAt,aA (T.ds _ _ l),Place.get,D,asAddr,A]
 .rename_i E _ _ f0 j F
  cases g;refine⟨v',?_,k⟩;cases E<;>first
   |exact Cf rfl (F _)
   |simp[j,receiverAt,aA (T.ds _ _ l),Place.get]
 .cases g
structure RF (ρ:Ren) (w:AM) (h:Y) (C2:Ren) (w':AM) (J:Y):Prop where
 a:Mj ρ w h.a C2 w' J.a J.lo
 b:AF h J
def RF.refl (a:C5 P τ ρ h w):RF ρ w h ρ w h:=⟨Mj.refl ρ w h.a h.lo a.1.fresh,AF.refl h⟩
def RF.trans {c:Ren} {d e:AM} {f g:Y} (i:C5 P τ ρ h w) (a:RF ρ w h c d f) (b:RF c d f FS e g):RF ρ w h FS e g:=
 ⟨a.a.trans b.a b.b.2.1 i.1.fresh,a.b.trans b.b⟩
def RF.le (a:C5 P τ ρ h w) (r:RF ρ w h C2 w' J):ρ.le C2:=r.a.le a.1.fresh
def Hk (P:AN) (s:Sem RM) (w:AM) (R:ZG->AM->Prop):Prop:=
 match s.run P w with
 |.ok (.value v) w'=>R (.returned v) w'
 |.ok .skip w'=>R (.returned undef) w'
 |.ok (.enter f args) w'=>CallsIn Fence.wide 0 P f args w' R
 |.ok (.round l f a b c) w'=>RoundIn Fence.wide 0 P l f a b c w' R
 |.halt (.panic v) w'=>R (.panicked [{v,recovered:=Ah}]) w'
 |_=>False
def Ho (P:AN) (τ:Bb) (ρ:Ren) (w:AM) (h:Y) (k kp:Aa->Y->RR) (b:List EO):ZG->AM->Prop
 |.returned d,w'=>∃c v J o',VR c v d/\C5 P τ c J w'/\RF ρ w h c w' J/\k v J=I o'/\o'⊆b
 |.panicked a,w'=>∃c v d J o',a=[{v:=d,recovered:=Ah}]/\VR c v d/\C5 P τ c J w'/\RF ρ w h c w' J/\kp v J=I o'/\o'⊆b
 |.outgrown,_=>False
def LW:Fn->AH->Sem RM
 |.func f,args=>callFunc f ⟨args⟩
 |.yield l,args=>Instr.yield l ⟨args⟩
 |_,_=>stuck "no call"
def C8 (P:AN) (τ:Bb) (call:Be):Prop:=
 ∀(fn a:Fn) (args AP) h (k kp) outs ρ w,C5 P τ ρ h w->Yw ρ fn a->LR ρ args AP->
  call fn args h k kp=I outs->Hk P (LW a AP) w (Ho P τ ρ w h k kp outs)
def B6.cK {s:Sem RM} (g:B6 P τ ρ h w s v J) (b:AF h J) {k:Aa->Y->RR} (c:k v J=I outs):Hk P s w (Ho P τ ρ w h k kp outs):=by
 let⟨n,w',v',C2,i,j,d,e,f,l⟩:=g;unfold Hk;rw[i];rcases j with rfl|⟨rfl,rfl⟩
 .exact⟨C2,v,J,outs,d,e,⟨f,b⟩,c,λ_ a=>a⟩
 .exact⟨C2,v,J,outs,d,e,⟨f,b⟩,c,λ_ a=>a⟩
def Hk.C {s a:Sem RM} {R:ZG->AM->Prop} (b:s.run P w=a.run P w) (h:Hk P a w R):Hk P s w R:=by
 unfold Hk at*;rw[b];exact h
def Hk.mono {s:Sem RM} {R b:ZG->AM->Prop} (h:Hk P s w R) (a:∀e w',R e w'->b e w'):Hk P s w b:=by
 unfold Hk at*;split at h
 .exact a _ _ h
 .exact a _ _ h
 .exact CallsIn.mono h a
 .exact RoundIn.mono h a
 .exact a _ _ h
 .exact h.elim
def O0 (T:BM P τ) (g:C8 P τ call) (b:C5 P τ ρ h w) {c d:Aa} {e:String} {k:Aa->Y->RR}
 (a:Hd τ call c e args h k kp=I outs) (i:VR ρ c d) (j:LR ρ args AP):Hk P (callMethod d e ⟨AP⟩) w (Ho P τ ρ w h k kp outs):=by
 unfold Hd at a;split at a
 case h_2=>cases a
 rename_i t v;cases i with|@iface _ _ v' l=>
 split at a
 case h_2=>cases a
 rename_i f r m;obtain⟨n,o,p⟩:=Up T b m l (P.types.size+99);have:=g (.func f) (.func f) (r::args) (n::AP) h k kp outs ρ w b (.func f) (.cons p j) a;refine this.C ?_;have q:P.types.size+Made.depth=P.types.size+99+1:=rfl;simp only[callMethod,AI,run_program,Aw,q,o,LW];congr 1;simp
def WE (i:C8 P τ call) (j:C5 P τ ρ h w) {m n:Aa} {k:Aa->Y->RR}
 (a:Vn call m args h k kp=I outs) (o:VR ρ m n) (p:LR ρ args AP):
 Hk P (do let d←Deferred.ofValue n ⟨AP⟩;invoke d.target d.args) w (Ho P τ ρ w h k kp outs):=by
 unfold Vn at a;split at a
 .rename_i f first cap
  let⟨first⟩:=first
  let⟨cap⟩:=cap;cases o with|@func _ _ _ c _ q e g r=>
  cases e;have:=i (.func f) (.func f) _ (c++AP++q) h k kp outs ρ w j (.func f) ((g.append p).append r) a;refine this.C ?_;simp[Deferred.ofValue,invoke,LW]
 .rename_i l first cap
  let⟨first⟩:=first
  let⟨cap⟩:=cap;cases o with|@func _ _ _ c _ q e g r=>
  cases e with|@yield _ pl s=>
  have:=i (.yield l) (.yield pl.b) _ (c++AP) h k kp outs ρ w j (.yield s) (g.append p) a;refine this.C ?_;simp[Deferred.ofValue,invoke,LW]
 .cases a
end
section
variable{P:AN} {τ:Bb} {ρ:Ren} {h:Y} {w:AM}
def Wi {k:Aa->Y->RR}:∀{l:List (Aa×Y)} {j:List EO} {v:Aa} {J:Y},R2 k l=I j->(v,J)∈l->∃o',k v J=I o'/\o'⊆j
 |[],_,_,_,_,d=>Jq
 |(g,h0)::l,j,v,J,c,d=>by
  simp only[R2] at c;cases e:k g h0 with
  |none=>rw[e] at c;cases R2 k l<;>simp[Ns] at c
  |some a=>
   cases f:R2 k l with
   |none=>rw[e,f] at c;simp[Ns] at c
   |some b=>
    rw[e,f] at c;simp[Ns] at c;subst c;rcases bZ.1 d with d|d
    .cases d;exact⟨a,e,List.subset_append_left _ _⟩
    .let⟨o',a1,h⟩:=Wi f d
     exact⟨o',a1,λx i=>List.mem_append_right _ (h i)⟩
def B6.c2 {s:Sem RM} (g:B6 P τ ρ h w s v J) (m:AF h J) {k:Aa->Y->RR} {o':List EO} (n:k v J=I o') (l:o'⊆outs):Hk P s w (Ho P τ ρ w h k kp outs):=by
 refine(g.cK m n (kp:=kp)).mono λe w' f=>?_;cases e with
 |returned v'=>let⟨C2,v,J,i,a,b,c,d,e⟩:=f;exact⟨C2,v,J,i,a,b,c,d,λx j=>l (e j)⟩
 |panicked o=>let⟨C2,v,v',J,i,a0,a,b,c,d,e⟩:=f;exact⟨C2,v,v',J,i,a0,a,b,c,d,λx j=>l (e j)⟩
 |outgrown=>exact f
def WK (T:BM P τ) (m:C8 P τ call) (g:C5 P τ ρ h w) (l:Tv ρ fr a) {c:Call} {ty:Ai} {k:Aa->Y->RR}
 (e:Ju τ call fr h c k kp=I outs):Hk P (do let d←resolve a.eval c ty;invoke d.target d.args) w (Ho P τ ρ w h k kp outs):=by
 unfold Ju at e;split at e
 .cases e
 rename_i vs n;have j:=JE g l n;rw[←KO] at j;split at e
 .rename_i b i
  split at e
  case h_2=>cases e
  rename_i v J hb;refine Hk.C ?_ ((Sb (ty:=ty) (cs:=c.args.map λ|.const _=>Ag|_=>Ah) T g hb j).cK (Pj hb).1 e);simp only[resolve,i,AI,Bc,Aw,invoke];rfl
 .rename_i r t i
  split at e
  case h_2=>cases e
  rename_i u o;refine Hk.C ?_ (O0 T m g e (EK g l o) j);simp only[resolve,i,AI,Bc,Aw,invoke];have p:(#[a.eval r]++ZA a.eval c.args)[0]?=I (a.eval r):=Jq
  have q:(#[a.eval r]++ZA a.eval c.args).extract 1 (#[a.eval r]++ZA a.eval c.args).size=⟨(ZA a.eval c.args).toList⟩:=by
   apply Et;simp;exact Bj Jq
  rw[p,q]
 .rename_i f i
  split at e
  case h_2=>cases e
  rename_i x s;refine Hk.C ?_ (WE m g e (EK g l s) j);simp only[resolve,i]
def ND (T:BM P τ) (p:C8 P τ call) (d:C5 P τ ρ h w) (i:Tv ρ fr a) {o:C0} {k:Aa->Y->RR}
 (b:F9 τ call fr h o.op k kp=I outs):Hk P (execOp a.eval o) w (Ho P τ ρ w h k kp outs):=by
 unfold F9 at b;split at b
 .rename_i c g
  have:=WK T p d i (ty:=o.type) b;unfold execOp;simp only[g];exact this
 .rename_i C s g
  split at b
  case h_2=>cases b
  rename_i v j;have e:=EK d i j;have K:∀{l:List (Aa×Y)} {outs:List EO},FT v s h=I l->R2 k l=I outs->Hk P (execOp a.eval o) w (Ho P τ ρ w h k kp outs):=by
   intro l outs f q;obtain⟨D,E,m,r⟩:=Yk T d o.type f e;obtain⟨o',u,y⟩:=Wi q m;have:=r.c2 (kp:=kp) (V4 f _ _ m).1 u y;unfold execOp;simp only[g];exact this
  split at b
  .rename_i v' J f
   exact K f (by simp only[R2,b,Ns,Fb])
  .rename_i l _ f
   exact K f b
  .cases b
 .rename_i x g
  split at b
  case h_2=>cases b
  rename_i t v j;have e:=EK d i j;unfold execOp;simp only[g];generalize a.eval x=x' at e⊢;have z:=e;cases e with|@iface _ _ v' F=>
  have A:(do pure (.value (←Instr.panic (.iface t v'))):Sem RM).run P w=.halt (.panic (.iface t v')) w:=by
   simp[Instr.panic,goPanic,gN,Mr]
  unfold Hk;rw[A];exact⟨ρ,_,_,h,outs,B,z,d,RF.refl d,b,λ_ e=>e⟩
 .split at b
  case h_2=>cases b
  rename_i v J n;exact(Yl T d i n).cK (Zr n).1 b
inductive DR (ρ:Ren):List Hh->List Hh->Prop
 |nil:DR ρ [] []
 |fn {f:Au} {cap cap' args AP:AH} {l l':List Hh}:LR ρ cap cap'->LR ρ args AP->DR ρ l l'->DR ρ ({target:=.fn (.func f) ⟨cap⟩,args:=⟨args⟩}::l) ({target:=.fn (.func f) ⟨cap'⟩,args:=⟨AP⟩}::l')
 |collected {b:Nat} {pl:Pl} {l l':List Hh}:ρ b=I pl->DR ρ l l'->DR ρ ({target:=.collected b,args:=#[]}::l) ({target:=.collected pl.b,args:=#[]}::l')
def DR.mono (h:ρ.le C2):∀{l l':List Hh},DR ρ l l'->DR C2 l l'
 |_,_,.nil=>.nil
 |_,_,.fn a b r=>.fn (a.mono h) (b.mono h) (r.mono h)
 |_,_,.collected e r=>.collected (h _ _ e) (r.mono h)
structure St (P:AN) (τ:Bb) (ρ:Ren) (fr:Fr) (h:Y) (a:FP) (w:AM):Prop where
 hk:C5 P τ ρ h w
 b:Tv ρ fr a
 ds:DR ρ fr.ds a.defers
def TR.put {t:T Aa} {sz:Nat} {a:Array Aa} (c:TR ρ t sz a) {d:Tmp} (e:VR ρ v v') (f:d<sz):TR ρ (t.ins d v) sz (a.setIfInBounds d v'):=by
 refine⟨by simp[c.1],λi u b=>?_⟩;rw[T.M] at b;by_cases U:i=d
 .rw[Bi U] at b;cases b;subst U
  exact⟨v',by simp[←c.1,f],e⟩
 .rw[Bm U] at b
  let⟨g,h,j⟩:=c.2 i u b;exact⟨g,Jq,j⟩
def L6 {d:Option Tmp} (e:Tv ρ fr a) (f:VR ρ v v') (b:fr.set d v=I Ec):Tv ρ Ec (a.put d v')/\Ec.ds=fr.ds/\(a.put d v').defers=a.defers:=by
 unfold Fr.set at b;cases d with
 |none=>cases b;exact⟨e,B,B⟩
 |some t=>
  simp only at b;let⟨c,b⟩:=C1 b;have c:t<fr.sz:=Jq
  cases b;exact⟨TR.put e f c,B,B⟩
def Fw:Option Nat->gL
 |Z=>Fence.wide
 |I l=>Fence.wide.inRound l
def Vb (ro:Option Nat) (f:Au):(Fw ro).fn f:=by cases ro<;>exact trivial
def V7 (ro:Option Nat):(Fw ro).depth=none:=by cases ro<;>rfl
def Wd (ro:Option Nat):(Fw ro).round=ro:=by cases ro<;>rfl
def Rz {ro:Option Nat} {args:Array Aa} {R:ZG->AM->Prop} (h:CallsIn Fence.wide 0 P f args w R):CallsIn (Fw ro) 0 P f args w R:=by
 cases ro with
 |none=>exact h
 |some l=>exact h.inRound l
def LG {ro:Option Nat} {o:C0} {next:FP->AM->Prop} {Q:Exit->FP->AM->Prop} {R:ZG->AM->Prop} (h:Hk P (o.semAt ro a.eval) w R)
 (d:∀v w',R (.returned v) w'->next (a.put o.dst v) w') (i:∀g w',R (.panicked g) w'->Q (.panic g) a w') (j:∀w',R .outgrown w'->False):o.wpIn (Fw ro) 0 P a w next Q:=by
 refine⟨λf _=>Vb ro f,?_⟩;rw[Wd];unfold Hk at h;have k:((Fw ro).depth.isSome=Ag->1<=0):=by rw[V7];simp
 split at h
 .rename_i v w' b;rw[b];exact d _ _ h
 .rename_i w' b;rw[b];exact d _ _ h
 .rename_i f args w' b
  rw[b];refine⟨k,CallsIn.mono (Rz h) λe m c=>?_⟩;cases e with
  |returned v=>exact d _ _ c
  |panicked g=>exact i _ _ c
  |outgrown=>exact(j _ c).elim
 .rename_i l f n p q w' b
  rw[b];refine⟨k,?_⟩;have J:RoundIn (Fw ro) 0 P l f n p q w' R:=by
   cases ro with
   |none=>exact h
   |some l=>exact h
  refine RoundIn.mono J λe m c=>?_;cases e with
  |returned v=>exact d _ _ c
  |panicked g=>exact i _ _ c
  |outgrown=>exact(j _ c).elim
 .rename_i v w' b;rw[b];exact i _ _ h
 .exact h.elim
end
section
variable{P:AN} {τ:Bb} {ρ:Ren} {h:Y} {w:AM} {ro ro':Option Nat} {AU:Array C0}
def QK (P:AN) (τ:Bb) (b:Ren) (c:AM) (h0:Y) (K:Kt) (f:List EO):Exit->FP->AM->Prop:=λe a w=>
 ∃ρ fr h o',St P τ ρ fr h a w/\RF b c h0 ρ w h/\o'⊆f/\(match e with
  |.normal=>K.n fr h=I o'
  |.exit id=>K.x id fr h=I o'
  |.ret=>K.r fr h=I o'
  |.panic d=>∃v g,d=[{v:=g,recovered:=Ah}]/\VR ρ v g/\K.p v fr h=I o'
  |_=>False)
def QK.trans {c:Ren} {d:AM} {b:Y} {K:Kt} {f:List EO} (g:C5 P τ ρ h w) (i:RF ρ w h c d b) (j:f⊆outs) {e:Exit} (k:QK P τ c d b K f e a w'):
 QK P τ ρ w h K outs e a w':=by
 let⟨C2,fr,J,o',b,l,m,n⟩:=k;exact⟨C2,fr,J,o',b,i.trans g l,λx o=>j (m o),n⟩
def gI (ρ:Ren):Option Nat->Option Nat->Prop
 |Z,Z=>True
 |I l,I l'=>∃pl,ρ l=I pl/\l'=pl.b
 |_,_=>False
def gI.mono (h:ρ.le C2) (r:gI ρ ro ro'):gI C2 ro ro':=by
 cases ro<;>cases ro'<;>first
  |exact r
  |(obtain⟨pl,e,rfl⟩:=r;exact⟨pl,h _ _ e,rfl⟩)
def Kn (f:Tv ρ fr a) {g:Option (Nat×Bool)} {b:Bool} (c:E5 fr (aI AU) g=I b) (o:C0) (h:o.guard=g):tH o (yielded AU a.tmps)=b:=by
 unfold tH;rw[h];unfold E5 at c;split at c
 .cases c;rfl
 .rename_i j q
  split at c
  case h_2=>cases c
  rename_i i k;split at c
  case h_2=>cases c
  rename_i t l;have m:(AU[j]?).bind (·.dst)=I t:=by
   have:AU[j]?=I i:=Jq
   rw[this];exact l
  simp only[yielded,m];split at c
  .rename_i b0 hb
   cases c;let⟨v',d,e⟩:=f.2 t _ hb;cases e;simp[d]
  .rename_i v n hb
   cases c;let⟨v',d,e⟩:=f.2 t _ hb;have:∀b0,v'≠.bool b0:=λb0 p=>by subst p;cases e;exact n _ B
   simp only[CC,d];cases v'<;>first
    |exact Cf rfl (this _)
    |rfl
  .cases c
def OR:VR ρ (.tuple #[]) undef:=.tuple .nil
def LetsOut.cF {Q Q':Exit->FP->AM->Prop} (b:∀e a w,Q e a w->Q' e a w) (h:LetsOut Q):LetsOut Q':=let⟨a,w,q⟩:=h;⟨a,w,b _ _ _ q⟩
def Abu {F:gL} {o:C0} {K g:FP->AM->Prop} {Q Q':Exit->FP->AM->Prop} (f:∀a w,K a w->g a w) (d:∀e a w,Q e a w->Q' e a w)
 (b:o.wpIn F n P a w K Q):o.wpIn F n P a w g Q':=by
 unfold Oper.wpIn at*;refine⟨b.1,?_⟩;have b:=b.2;generalize(o.semAt F.round a.eval).run P w=r at*;cases r with
 |ok x w'=>
  cases x<;>simp only[Oper.uponIn] at b⊢<;>
   first
    |exact f _ _ b
    |exact⟨b.1,CallsIn.mono b.2 (λe h c=>by cases e<;>first|exact f _ _ c|exact d _ _ _ c|exact LetsOut.cF d c)⟩
    |exact⟨b.1,RowsIn.mono b.2 (λ_ _ c=>f _ _ c)⟩
    |exact⟨b.1,RoundIn.mono b.2 (λe h c=>by cases e<;>first|exact f _ _ c|exact d _ _ _ c|exact LetsOut.cF d c)⟩
 |halt x w'=>cases x<;>simp only[Oper.uponIn] at b⊢<;>first|exact d _ _ _ b|exact b
def HJ {F:gL} {AU:Array C0} {Q Q':Exit->FP->AM->Prop} (b:∀e a w,Q e a w->Q' e a w):∀(l:Bo) (a:FP) (w:AM),wpOpsIn F n P AU Q l a w->wpOpsIn F n P AU Q' l a w
 |[],a,w,h=>b _ _ _ h
 |i::l,a,w,h=>by
  simp only[wpOpsIn] at h⊢;split at h
  .exact HJ b l _ _ h
  .split at h
   .rename_i c;rw[Bi c];exact Abu (λa w=>HJ b l a w) b h
   .rename_i c;rw[Bm c];exact⟨h.1,HJ b l _ _ h.2⟩
def Z7 (T:BM P τ) (V:C8 P τ call) {K:Kt}:∀(l:List C0) (i:Nat),AU.toList.drop i=l->∀{fr:Fr} {h:Y} {a:FP} {w:AM} {ρ:Ren} {J:List EO},
 St P τ ρ fr h a w->gI ρ ro ro'->EX τ call ro (aI AU) K.p K.n l fr h=I J->wpOpsIn (Fw ro') 0 P AU (QK P τ ρ w h K J) (List.range' i (AU.size-i)) a w:=by
 intro l
 induction l with
 |nil=>
  intro i U fr h a w ρ J st _ b;have W:AU.size-i=0:=by
   have:=Cs HD U;simp at this;omega
  rw[W];simp only[List.range'_zero,wpOpsIn];exact⟨ρ,fr,h,J,st,RF.refl st.hk,λ_ X=>X,b⟩
 |cons o l r=>
  intro i U fr h a w ρ J st s b;have ao:i<AU.size:=by
   have:=Cs HD U;simp at this;omega
  have aa:AU[i]?=I o:=by
   have:(AU.toList.drop i)[0]?=I o:=Jq
   simpa using this
  have t:AU.toList.drop (i+1)=l:=by
   have:=Cs nU U;simpa using this
  have ab:AU.size-i=(AU.size-(i+1))+1:=G;rw[ab,List.range'_succ];simp only[wpOpsIn,aa];simp only[EX] at b;split at b
  .rename_i u
   have x:=Kn st.b u o B;rw[Bi x];unfold IB at b;split at b
   ·
    rename_i c ho;split at b
    case h_2=>cases b
    rename_i d j ad;unfold Xv at j;split at j
    case h_2=>cases j
    rename_i f vs ae af;split at j
    case h_2=>cases j
    rename_i g first cap hg
    cases j;cases ro' with
    |some l'=>exact s.elim
    |none=>
    have hl:=JE st.hk st.b af;have Q:=EK st.hk st.b hg;let⟨first⟩:=first
    let⟨cap⟩:=cap;generalize ag:a.eval f=fv at Q;cases Q with|@func _ _ _ y _ z hf ah ai=>
    cases hf;refine⟨λf _=>Vb Z f,?_⟩;have aj:(o.semAt (Fw Z).round a.eval).run P w=.ok (.defer {target:=.fn (.func g) ⟨z⟩,args:=⟨y++c.args.toList.map a.eval⟩}) w:=by
     show(execOp a.eval o).run P w=_;unfold execOp;simp only[ho,resolve,ae,ag,Deferred.ofValue,AI,Bc,Aw];congr 2;simp
    rw[aj];have ak:St P τ ρ {M:=fr.M,sz:=fr.sz,ds:={target:=.fn (.func g) ⟨cap⟩,args:=⟨first++vs⟩}::fr.ds} h ({a with defers:={target:=.fn (.func g) ⟨z⟩,args:=⟨y++c.args.toList.map a.eval⟩}::a.defers}:FP) w:=
     ⟨st.hk,st.b,.fn ai (ah.append hl) st.ds⟩
    show wpOpsIn (Fw Z) 0 P AU (QK P τ ρ w h K J) (List.range' (i+1) (AU.size-(i+1))) (({a with defers:={target:=.fn (.func g) ⟨z⟩,args:=⟨y++c.args.toList.map a.eval⟩}::a.defers}).put o.dst undef) w;rw[ad];exact r (i+1) t ak trivial b
   ·
    rename_i al;have am:=Oper.semAt_eq ro' a.eval o al;have R:=ND T V st.hk st.b b;rw[←am] at R;refine LG R (λv' w' q=>?_) (λch w' q=>?_) (λw' q=>q)
    .let⟨A,v,C,S,D,E,k,m,F⟩:=q
     simp only[] at m;split at m
     case h_2=>cases m
     rename_i fr1 H;have L:=k.le st.hk;let⟨M,N,O⟩:=L6 (st.b.mono L) D H;have an:St P τ A fr1 C (a.put o.dst v') w':=⟨E,M,N▸O▸st.ds.mono L⟩;have:=r (i+1) t an (s.mono L) m;exact HJ (λe a w hq=>QK.trans st.hk k F hq) _ _ _ this
    .let⟨A,v,v',C,S,k0,D,E,k,m,F⟩:=q
     exact⟨A,fr,C,S,⟨E,st.b.mono (k.le st.hk),st.ds.mono (k.le st.hk)⟩,k,F,v,v',k0,D,m⟩
  .rename_i u
   have x:=Kn st.b u o B;rw[Bm Jq];refine⟨λf _=>Vb ro' f,?_⟩;split at b
   case h_2=>cases b
   rename_i fr1 H;let⟨M,N,O⟩:=L6 st.b OR H;exact r (i+1) t ⟨st.hk,M,N▸O▸st.ds⟩ s b
  .cases b
end
section
variable{P:AN} {τ:Bb} {ρ:Ren} {h:Y} {w:AM}
def MR (P:AN) (τ:Bb) (call:Be):Prop:=
 ∀(id:Nat) AU K fr h a w ρ outs ro',Region.ok P.types AU Ag=Ag->St P τ ρ fr h a w->
  MC τ call (aI AU) (Df AU).toList K.n (aI AU) 0 [] fr h=I outs->(Code.region id AU Ag).wpIn (Fw ro') 0 P (QK P τ ρ w h K outs) a w
def RE {l:Nat} {K:Kt} {ro':Option Nat} (st:St P τ ρ fr h a w) (p:ρ l=I pl) (e:HP l K fr h=I outs):
 ∃q g,(Instr.endLoop pl.b).run P w=.ok q g/\(match q with
  |none=>QK P τ ρ w h K outs .normal a g
  |some c=>c.wpIn (Fw ro') 0 P (QK P τ ρ w h K outs) a g):=by
 unfold HP at e;split at e
 case h_2=>cases e
 rename_i S k m sz ps n o d r;obtain⟨L,s,v,t,x,y,z,A,C,g9,D,E,F⟩:=st.hk.1.hr _ _ _ p r;have H:=(dM.1 s).1;split at e
 .cases e
 rename_i M;have N:L.state≠.busy:=by
  intro u;rw[v] at u;exact M u
 have O:=run_endLoop (P:=P) s N;obtain⟨Q,R⟩:=st.hk.write (w':=w.putObj pl.b (.loop {L with state:=.exhausted})) (hb':=.loop .exhausted k m sz ps n o d) p r B (by simp[KY])
  (λb hb=>by show(w.heap.setIfInBounds pl.b _)[b]?=_;rw[AY (Ne.symm hb)])
  ⟨{L with state:=.exhausted},by simp[KY,H],B,t,x,y,z,A,C,g9,D,E,F⟩ B B B
 have i:St P τ ρ fr (h.put l (.loop .exhausted k m sz ps n o d)) a (w.putObj pl.b (.loop {L with state:=.exhausted})):=⟨Q,st.b,st.ds⟩;have j:RF ρ w h ρ (w.putObj pl.b (.loop {L with state:=.exhausted})) (h.put l (.loop .exhausted k m sz ps n o d)):=⟨R,AF.put _ _ _⟩;refine⟨_,_,O,?_⟩;generalize w.putObj pl.b (.loop {L with state:=.exhausted})=g at i j⊢;rw[t];split at e
 .exact⟨ρ,fr,_,outs,i,j,λ_ f=>f,e⟩
 .exact wpIn_ret ⟨ρ,fr,_,outs,i,j,λ_ f=>f,e⟩
 .exact wpIn_exit ⟨ρ,fr,_,outs,i,j,λ_ f=>f,e⟩
 .cases e
def OY (T:BM P τ) (hc:C8 P τ call) {ro ro':Option Nat} {f:BU} {ps:Array Tmp} {k body:DC} {K:Kt}
 (u:CR P k/\CR P body) (st:St P τ ρ fr h a w) (C:gI ρ ro ro') (m:Oo τ call ro ps k body K fr h (ev τ fr f)=I outs):
 (Code.rangeFunc f ps k body).wpIn (Fw ro') 0 P (QK P τ ρ w h K outs) a w:=by
 unfold Oo at m;split at m
 case h_2=>cases m
 rename_i Q af;have R:=EK st.hk st.b af;refine wpIn_rangeFunc λx _=>?_;rw[Wd];have Cw:∀{n:Ren} {i:AM} {t:Y} {l:Nat} {pl:Pl} {G:Fr} {a1:FP},C5 P τ n t i->RF ρ w h n i t->n l=I pl->Tv n G a1->DR n G.ds a1.defers->a1.tmps=a.tmps->VR n Q (a.eval f)->
  U5 τ call Q l t (λ_ ag=>HP l K G ag) (λ_ _=>Z)=I outs->
  ∃d p g args q,(resolve a.eval (rangeCall f pl.b) 0).run P i=.ok d p/\(∀y,Target.leads P p d.target d.args=I y->(Fw ro').fn y)/\(invoke d.target d.args).run P p=.ok (.enter g args) q/\
   CallsIn (Fw ro') 0 P g args q (rangePost (Fw ro') 0 P pl.b (QK P τ ρ w h K outs) a1):=by
  intro n i t l pl G a1 S ah el z ai ht V j;unfold U5 at j;split at j
  case h_2=>cases j
  rename_i g first cap
  split at j
  case h_2=>cases j
  rename_i fn W;replace j:=C1 j;let⟨X,j⟩:=j;let⟨c,aj⟩:=fP.1 X;let⟨first⟩:=first
  let⟨cap⟩:=cap;generalize ak:a.eval f=au at V;cases V with|@func _ _ _ D _ E hf al am=>
  cases hf;have hy:VR n (.func (.yield l) #[] #[]) (.func (.yield pl.b) #[] #[]):=.func (.yield el) .nil .nil;have F:=hc (.func g) (.func g) _ (D++[.func (.yield pl.b) #[] #[]]++E) t _ _ outs n i S (.func g) ((al.append (.cons hy .nil)).append am) j;have aa:=λargs=>MuLone.run_callFunc_enter (T.fn _ _ W).1 ((T.fn _ _ W).2 X) aj args i;unfold Hk LW at F;rw[aa] at F;refine⟨{target:=.fn (.func g) ⟨E⟩,args:=⟨D++[.func (.yield pl.b) #[] #[]]⟩},i,g,⟨D++[.func (.yield pl.b) #[] #[]]++E⟩,i,?_,λy _=>Vb ro' y,?_,?_⟩
  .simp only[resolve,rangeCall,ak,Deferred.ofValue,Bc]
   congr 2;apply Et;simp[Act.eval]
  .simp only[invoke]
   rw[aa];congr 2;apply Et;simp
  .refine CallsIn.mono (Rz F) λe ab H=>?_
   cases e with
   |returned v'=>
    obtain⟨FS,v,U,o2,b1,b2,b3,M,b5⟩:=H;have N:=b3.le S;have an:St P τ FS G U a1 ab:=⟨b2,z.mono N,ai.mono N⟩;obtain⟨ad,w4,c1,r⟩:=RE (ro':=ro') an (N _ _ el) M;refine⟨ad,w4,c1,?_⟩;have J:∀e a w',QK P τ FS ab U K o2 e a w'->QK P τ ρ w h K outs e a w':=λe a w' hq=>QK.trans st.hk (ah.trans st.hk b3) b5 hq;cases ad with
    |none=>exact J _ _ _ r
    |some c=>exact wpIn_mono r J
   |panicked ch=>let⟨_,_,_,_,_,_,_,_,_,M,_⟩:=H;cases M
   |outgrown=>exact H.elim
 have ae:((Fw ro').depth.isSome=Ag->1<=0):=by rw[V7];simp
 split at m
 ·
  cases ro' with
  |some l'=>exact C.elim
  |none=>
  simp only[] at m;obtain⟨A,O⟩:=st.hk.alloc (.deferred (I [])) (.aq Ah) 0 (Ca w _);have o:=Ren.M (st.hk.1.fresh h.a (Ae _)) ⟨w.heap.size,0,0⟩;have z:=st.b.mono o;have ao:(w.alloc (.deferred (I []))).heap.size=w.heap.size+1:=uN _ _;have s:=Ren.M (A.1.fresh (h.new (.aq Ah)).a (Ae _)) ⟨(w.alloc (.deferred (I []))).heap.size,0,0⟩;let⟨k3,k4⟩:=A.alloc (.loop {state:=.ready,pending:=Z,fn:=x,tmps:=a.tmps,params:=ps,assign:=k,body:=body,defers:=w.heap.size}) (.loop .ready Z fr.M fr.sz (aI ps) k body h.a) 0
   ⟨_,Ca _ _,B,B,B,B,B,z.mono s,u.1,u.2,_,s _ _ (Ren.C _ _),B⟩
  have rf:=RF.trans st.hk ⟨O,AF.new h _⟩ ⟨k4,AF.new _ _⟩;let⟨d,p,g,args,q,c1,r,c3,c4⟩:=Cw
   (a1:={a with defers:=[{target:=.collected w.heap.size,args:=#[]}]++a.defers}) (pl:=⟨(w.alloc (.deferred (I []))).heap.size,0,0⟩) k3 rf (Ren.C _ _)
   (by cases fr;exact z.mono s) (by cases fr;exact .collected (s _ _ (Ren.C _ _)) ((st.ds.mono o).mono s)) B ((R.mono o).mono s) m
  rw[ao] at c1 c4;exact⟨w.heap.size+1,[{target:=.collected w.heap.size,args:=#[]}],_,d,p,g,args,q,run_enterLoop_outer x a.tmps ps k body,c1,r,c3,ae,c4⟩
 ·
  rename_i l0;cases ro' with
  |none=>exact C.elim
  |some l'=>
  obtain⟨av,e0,rfl⟩:=C;split at m
  case h_2=>cases m
  rename_i aw ax ay ZI az a0 a2 d0 ap;let⟨L,g1,g2,g3,g4,g5,g6,g7,g8,g9,a3,aq,ar⟩:=st.hk.1.hr _ _ _ e0 ap;have o:=Ren.M (st.hk.1.fresh h.a (Ae _)) ⟨w.heap.size,0,0⟩;let⟨A,O⟩:=st.hk.alloc (.loop {state:=.ready,pending:=Z,fn:=x,tmps:=a.tmps,params:=ps,assign:=k,body:=body,defers:=L.defers}) (.loop .ready Z fr.M fr.sz (aI ps) k body d0) 0
   ⟨_,Ca _ _,B,B,B,B,B,st.b.mono o,u.1,u.2,_,o _ _ aq,ar⟩
  let⟨d,p,g,args,q,c1,r,c3,c4⟩:=Cw A ⟨O,AF.new _ _⟩ (Ren.C _ _)
   (st.b.mono o) (st.ds.mono o) B (R.mono o) m
  exact⟨w.heap.size,[],_,d,p,g,args,q,run_enterLoop_inner g1 x a.tmps ps k body,c1,r,c3,ae,c4⟩
end
section
variable{P:AN} {τ:Bb} {ρ:Ren} {h:Y} {w:AM} {c:DC}
def F4 {b:Frame} {k:List Item} {cs:List Frame}:step P (lone (b.atR a (.code (.scope c)::k)) cs w)=.next (lone (b.atR a (.code c::.inScope c::k)) cs w):=
 step_lone_go Jq
def Sh {b:Frame} {k:List Item} {cs:List Frame}:step P (lone (b.atR a (.inScope c::k)) cs w)=.next (lone (b.atR a k) cs w):=
 step_lone_go Jq
def X3 {F:gL} {Q:Exit->FP->AM->Prop} (p:∀l a w,¬Q (.goto l) a w) (h:c.wpIn F n P Q a w):(Code.scope c).wpIn F n P Q a w:=by
 intro b k cs q hb j;have h0:(lone (b.atR a (.code (.scope c)::k)) cs w).fenced P F:=fenced_calm hb j B;let⟨e,g,i,d,f⟩:=h b (.inScope c::k) cs q hb j;cases e with
 |normal=>exact⟨.normal,g,i,d,.head h0 F4 (StepsIn.trans f (.one (fenced_calm hb j B) Sh))⟩
 |exit id=>
  have o:exitTo id (.inScope c::k)=exitTo id k:=Jq
  exact⟨.exit id,g,i,d,λk' m=>.head h0 F4 (f.1 k' Jq),
   λr m=>let⟨s,t,u⟩:=f.2 r Jq;⟨s,t,.head h0 F4 u⟩⟩
 |goto l=>exact Cf d (p l _ _)
 |ret=>exact⟨_,g,i,d,.of_steps (.one h0 F4) f⟩
 |panic v=>exact⟨_,g,i,d,.of_steps (.one h0 F4) f⟩
 |outgrown=>exact⟨_,g,i,d,.of_steps (.one h0 F4) f⟩
def QK.cb {K:Kt} {n':Fr->Y->RR} {next:FP->AM->Prop} {e:Exit}
 (k:QK P τ ρ w h {n:=n',x:=K.x,r:=K.r,p:=K.p} outs e a w')
 (m:∀c q b d,St P τ c q b a w'->RF ρ w h c w' b->d⊆outs->n' q b=I d->next a w'):Exit.then next (QK P τ ρ w h K outs) e a w':=by
 let⟨c,q,b,d,g,i,j,f⟩:=k;cases e with
 |normal=>exact m c q b d g i j f
 |exit id=>exact⟨c,q,b,d,g,i,j,f⟩
 |goto l=>exact f.elim
 |ret=>exact⟨c,q,b,d,g,i,j,f⟩
 |panic o=>exact⟨c,q,b,d,g,i,j,f⟩
 |outgrown=>exact f.elim
def GP (T:BM P τ) (N:C8 P τ call) (hdr:MR P τ call) (L:Nat):∀(c:DC),CR P c->∀{ro ro':Option Nat} {K:Kt} {fr:Fr} {h:Y} {a:FP} {w:AM} {ρ:Ren} {G:List EO},
 St P τ ρ fr h a w->gI ρ ro ro'->B7 τ call L ro c K fr h=I G->c.wpIn (Fw ro') 0 P (QK P τ ρ w h K G) a w:=by
 intro c
 induction c with
 |skip=>intro _ ro ro' K fr h a w ρ G st _ b;exact wpIn_skip ⟨ρ,fr,h,G,st,RF.refl st.hk,λ_ q=>q,b⟩
 |label l=>intro _ ro ro' K fr h a w ρ G st _ b;exact wpIn_label ⟨ρ,fr,h,G,st,RF.refl st.hk,λ_ q=>q,b⟩
 |exit id=>intro _ ro ro' K fr h a w ρ G st _ b;exact wpIn_exit ⟨ρ,fr,h,G,st,RF.refl st.hk,λ_ q=>q,b⟩
 |ret=>intro _ ro ro' K fr h a w ρ G st _ b;exact wpIn_ret ⟨ρ,fr,h,G,st,RF.refl st.hk,λ_ q=>q,b⟩
 |goto l=>intro _ ro ro' K fr h a w ρ G st _ b;cases b
 |refuse s=>intro _ ro ro' K fr h a w ρ G st _ b;cases b
 |region id AU S=>
  intro g ro ro' K fr h a w ρ G st i b;cases S with
  |false=>
   have:=Z7 T N (aI AU) 0 rfl st i b;exact wpIn_region (List.range_eq_range'▸this)
  |true=>exact hdr id AU K fr h a w ρ G ro' (g B) st b
 |seq x y E F=>
  intro g ro ro' K fr h a w ρ G st i b;refine wpIn_seq (wpIn_mono (E g.1 st i b) λe a1 z A=>A.cb λk J j o r p u d=>?_);exact wpIn_mono (F g.2 r (i.mono (p.le st.hk)) d) λe O Q V=>QK.trans st.hk p u V
 |cond H x y E F=>
  intro g ro ro' K fr h a w ρ G st i b;change Vg (B7 τ call L ro x) (B7 τ call L ro y) K fr h (ev τ fr H)=I G at b;unfold Vg at b;split at b
  case h_2=>cases b
  rename_i t W;have R:=EK st.hk st.b W;have X:a.eval H=.bool t:=by generalize a.eval H=v at R;cases R;rfl
  refine wpIn_cond X ?_;cases t with
  |true=>exact E g.1 st i b
  |false=>exact F g.2 st i b
 |block id c C=>
  intro g ro ro' K fr h a w ρ G st i b;refine wpIn_block (wpIn_mono (C g st i b) λe a1 z A=>?_);let⟨k,J,j,o,r,p,u,d⟩:=A;cases e with
  |normal=>exact⟨k,J,j,o,r,p,u,d⟩
  |exit M=>
   simp only[Exit.inBlock];simp only[] at d;by_cases D:M=id
   .rw[Bi D]
    have:Am M id=true:=Jq
    rw[this] at d;exact⟨k,J,j,o,r,p,u,d⟩
   .rw[Bm D]
    have:=MK.2 λhh=>D (Af hh);rw[this] at d;exact⟨k,J,j,o,r,p,u,d⟩
  |goto l=>exact d.elim
  |ret=>exact⟨k,J,j,o,r,p,u,d⟩
  |panic ch=>exact⟨k,J,j,o,r,p,u,d⟩
  |outgrown=>exact d.elim
 |loop c C=>
  intro g ro ro' K fr h a w ρ G st i b;change Nq (B7 τ call L ro c) L K fr h=I G at b;refine wpIn_loop_rounds L ?_;have Cw:∀n k J j o a1 z,St P τ k J j a1 z->RF ρ w h k z j->o⊆G->Nq (B7 τ call L ro c) n K J j=I o->Code.roundsIn (Fw ro') 0 P c (QK P τ ρ w h K G) n a1 z:=by
   intro n
   induction n with
   |zero=>intro k J j o a1 z _ _ _ d;cases d
   |succ m aa=>
    intro k J j o a1 z r p u d;refine wpIn_mono (C g r (i.mono (p.le st.hk)) d) λe O Q A=>?_;exact(QK.trans st.hk p u A).cb λab ad h3 U m1 m2 m3 Z=>aa ab ad h3 U O Q m1 m2 m3 Z
  exact Cw L ρ fr h G a w st (RF.refl st.hk) (λ_ q=>q) b
 |rangeFunc f ps ae af _ _=>
  intro g ro ro' K fr h a w ρ G st i b;exact OY T N g st i b
 |scope c C=>
  intro g ro ro' K fr h a w ρ G st i b;exact X3 (λl a w A=>by obtain⟨_,_,_,_,_,_,_,d⟩:=A;exact d) (C g st i b)
end
section
variable{P:AN} {τ:Bb} {ρ:Ren} {h:Y} {w:AM} {fn:BC}
def Uz:∀(ps:List Tmp) (args k:AH) (sz:Nat) (t b:T Aa) (A:Array Aa),JY sz ps args t=I b->LR ρ args k->TR ρ t sz A->
 LT ps=LT k/\TR ρ b sz ((ps.zip k).foldl (λf (p:Tmp×Aa)=>f.setIfInBounds p.1 p.2) A):=by
 intro ps
 induction ps with
 |nil=>
  intro args k sz t b A a c d;cases args with
  |nil=>cases c;simp[JY] at a;subst a;exact⟨B,d⟩
  |cons v vs=>simp[JY] at a
 |cons p ps g=>
  intro args k sz t b A a c d;cases args with
  |nil=>simp[JY] at a
  |cons v vs=>
   cases c with|cons h c=>
   simp only[JY] at a;let⟨e,a⟩:=C1 a;have e:p<sz:=Jq
   let⟨i,j⟩:=g vs _ sz _ b _ a c (d.put h e);exact⟨Jq,j⟩
def MJ (e:C5 P τ ρ h w) {l:Nat} {st:LoopState} {a:Option DC} (f:ρ l=I pl) (c:IJ h l st a=I J):
 ∃L,w.heap[pl.b]?=I (.loop L)/\C5 P τ ρ J (w.putObj pl.b (.loop {L with state:=st,pending:=a}))/\RF ρ w h ρ (w.putObj pl.b (.loop {L with state:=st,pending:=a})) J:=by
 unfold IJ at c;split at c
 case h_2=>cases c
 rename_i z A j sz ps k m d g;cases c;let⟨L,i,C,D,n,o,p,q,r,g9,s,t,u⟩:=e.1.hr _ _ _ f g;have v:=(dM.1 i).1;let⟨x,y⟩:=e.write (w':=w.putObj pl.b (.loop {L with state:=st,pending:=a})) (hb':=.loop st a j sz ps k m d) f g B (by simp[KY])
  (λb hb=>by show(w.heap.setIfInBounds pl.b _)[b]?=_;rw[AY (Ne.symm hb)])
  ⟨{L with state:=st,pending:=a},by simp[KY,v],B,B,n,o,p,q,r,g9,s,t,u⟩ B B B
 exact⟨L,i,x,y,AF.put _ _ _⟩
def Wy (T:BM P τ) (y:C8 P τ call) (hdr:MR P τ call) (L:Nat) (j:C5 P τ ρ h w) {l:Nat} {k:Aa->Y->RR}
 (n:ρ l=I pl) (Q:LR ρ args AP) (m:Ll τ call L l args h k=I outs):Hk P (Instr.yield pl.b ⟨AP⟩) w (Ho P τ ρ w h k kp outs):=by
 unfold Ll at m;split at m
 case h_2=>cases m
 rename_i z aq tm sz ps R S d V;split at m
 case h_2=>cases m
 rename_i A W;obtain⟨g,X,g2,g3,C,g5,g6,g7,g8,g9,ar,au,av⟩:=j.1.hr _ _ _ n V;obtain⟨q1,q2⟩:=Uz ps args AP sz tm A g.tmps W Q g7;have aa:(⟨AP⟩:Array Aa).size=g.params.size:=by
  have:g.params.size=LT ps:=by rw[←C];simp
  rw[this,q1];rfl
 have ab:(g.params.zip (⟨AP⟩:Array Aa)).foldl (λtmps (t,a)=>tmps.setIfInBounds t a) g.tmps=(ps.zip AP).foldl (λtmps (p:Tmp×Aa)=>tmps.setIfInBounds p.1 p.2) g.tmps:=by
  rw[←IV,Array.toList_zip,C]
 unfold Hk;rw[run_yield X aa,ab,g5,g6];refine roundIn_of_wpIn trivial ?_;have z:St P τ ρ {M:=A,sz:=sz,ds:=[]} h {tmps:=(ps.zip AP).foldl (λtmps (p:Tmp×Aa)=>tmps.setIfInBounds p.1 p.2) g.tmps,defers:=[]} w:=⟨j,q2,.nil⟩;have hF:Fence.wide.inRound pl.b=Fw (I pl.b):=rfl;rw[hF];have D:gI ρ (I l) (I pl.b):=⟨pl,n,B⟩;refine wpIn_mono (GP T y hdr L R g8 z D m) λe a1 u hq=>?_;obtain⟨ad,G,h1,o1,o,E,k3,c⟩:=hq;cases e with
 |exit id=>cases c
 |goto l=>exact c.elim
 |ret=>cases c
 |panic ch=>obtain⟨_,_,_,_,c⟩:=c;cases c
 |outgrown=>exact c.elim
 |
  normal=>
  simp only[] at c;split at c
  case h_2=>cases c
  rename_i aw ax ay az a0 d2 a2 ae;have q:=E.le j;split at c
  case h_2=>cases c
  rename_i h2 af;obtain⟨r,F,H,m3⟩:=MJ o.hk (q _ _ n) af;obtain⟨ag,K,r2,r3,_⟩:=o.hk.1.hr _ _ _ (q _ _ n) ae;have M:r=ag:=by rw[F] at K;cases K;rfl
  have ah:(Instr.beginRound pl.b).run P u=.ok () (u.putObj pl.b (.loop {r with state:=.busy,pending:=Z})):=by
   have:=run_beginRound (P:=P) F (M▸r2);rw[this];have:r.pending=none:=Jq
   rw[←this]
  refine⟨_,ah,?_⟩;have ai:St P τ ad G h2 a1 (u.putObj pl.b (.loop {r with state:=.busy,pending:=Z})):=⟨H,o.b,o.ds⟩;have aj:=E.trans j m3;refine wpIn_mono (GP T y hdr L S g9 ai (D.mono q) c) λe a3 U ak=>?_
  let⟨al,am,h3,N,n1,O,n3,f⟩:=ak;have an:=aj.trans j O;have J:∀i,Fy l i k am h3=I N->∃v w',(Instr.endRound pl.b i).run P U=.ok v w'/\Ho P τ ρ w h k kp outs (.returned v) w':=by
   intro i s;unfold Fy at s;split at s
   case h_2=>cases s
   rename_i h4 a4 ao;have ap:=O.le H;let⟨a5,p1,p2,p3⟩:=MJ n1.hk (ap _ _ (q _ _ n)) ao;refine⟨_,_,run_endRound i p1,al,.bool i.isNone,h4,N,.bool _,?_,?_,s,λx hx=>k3 (n3 hx)⟩
   .cases i<;>exact p2
   .cases i<;>exact an.trans j p3
  cases e with
  |normal=>exact J Z f
  |exit id=>exact J (I (.exit id)) f
  |ret=>exact J (I .ret) f
  |goto l=>exact f.elim
  |panic ch=>let⟨_,_,_,_,f⟩:=f;cases f
  |outgrown=>exact f.elim
def OI (T:BM P τ) (g:C5 P τ ρ h w) (f:Tv ρ fr a):∀(e:List ResultVar) (vs:AH),Ng τ fr h e=I vs->
 ∃D0,LR ρ vs D0/\(e.mapM λ|.tmp t=>pure (a.tmps.getD t undef)|.cell c t=>do loadVar t (←asAddr (a.tmps.getD c undef)):Sem AH).run P w=.ok D0 w
 |[],vs,d=>by simp[Ng] at d;subst d;exact⟨[],.nil,by simp⟩
 |
  .tmp t::e,vs,d=>by
  simp only[Ng] at d;split at d
  case h_2=>cases d
  rename_i v i j k;cases d;obtain⟨v',a1,l⟩:=f.2 _ _ j;obtain⟨D0,b1,m⟩:=OI T g f e i k;refine⟨v'::D0,.cons l b1,?_⟩;have:a.tmps.getD t undef=v':=by simp[Bh,a1]
  simp only[UH,AI,Bc,Aw,m,this]
 |
  .cell c t::e,vs,d=>by
  simp only[Ng] at d;split at d
  case h_2=>cases d
  rename_i id off j;split at d
  case h_2=>cases d
  rename_i v i k n;cases d;obtain⟨v',a1,l⟩:=f.2 _ _ j;cases l with|@ptr _ _ pl o=>
  obtain⟨p,c1,q⟩:=OJ T g o k;obtain⟨D0,b1,m⟩:=OI T g f e i n;refine⟨p::D0,.cons q b1,?_⟩;have:a.tmps.getD c undef=.pointer (I ⟨pl.b,pl.o+off,Z⟩):=by simp[Bh,a1]
  have r:∀x:BD,asAddr (.pointer (I x))=pure x:=λ_=>rfl;simp only[UH,AI,Aw,this,r,Bc,c1,m]
def MG (T:BM P τ) (c:C5 P τ ρ h w) (d:Tv ρ fr a) (e:Ng τ fr h (aI fn.results)=I vs):
 ∃j,(results fn a.tmps).run P w=.ok j w/\VR ρ (Ff vs) j:=by
 obtain⟨i,f,g⟩:=OI T c d _ _ e;refine⟨(if h:(⟨i⟩:Array Aa).size=1 then(⟨i⟩:Array Aa)[0] else .tuple ⟨i⟩),?_,?_⟩
 .unfold results
  rw[Array.mapM_eq_mapM_toList];simp only[map_eq_pure_bind,bind_assoc,pure_bind,AI];refine(Si g _).trans ?_;simp only[Bc]
 .cases f with
  |nil=>exact .tuple .nil
  |cons a r=>
   cases r with
   |nil=>exact a
   |cons b r=>exact .tuple (.cons a (.cons b r))
def mW (P:AN) (τ:Bb) (dv:Au->Option (AH->Y->Option Y)):Prop:=
 ∀f g,dv f=I g->∀(args b:AH) (h J) ρ w,C5 P τ ρ h w->LR ρ args b->g args h=I J->
  (callFunc f ⟨b⟩).run P w=.ok (.enter f ⟨b⟩) w/\
  CallsDIn Fence.wide 0 P f ⟨b⟩ .returning w λe a w'=>(∃v,e=.returned v)/\settle a=.returning/\∃c,C5 P τ c J w'/\RF ρ w h c w' J
def SK (T:BM P τ) {dv:Au->Option (AH->Y->Option Y)} (F:mW P τ dv) {k:Aa->Y->RR} {r:Ren} {s:AM} (z:C5 P τ r h0 s):
 ∀(ds l:List Hh) {h:Y} {a:FP} {w:AM} {ρ:Ren} {o':List EO},C5 P τ ρ h w->Tv ρ fr a->DR ρ ds l->RF r s h0 ρ w h->o'⊆outs->Iw τ dv (aI fn.results) fr k ds h=I o'->
  LeavesInM Fence.wide 0 P fn a.tmps (Ho P τ r s h0 k kp outs) l .returning w:=by
 intro ds
 induction ds with
 |nil=>
  intro l h a w ρ o' i m t n o c;cases t;simp only[Iw] at c;split at c
  case h_2=>cases c
  rename_i vs H;let⟨v',u,K⟩:=MG T i m H;exact⟨v',u,ρ,Ff vs,h,o',K,i,n,c,o⟩
 |
  cons d ds A=>
  intro l h a w ρ o' i m t n o c;cases t with
  |
   @fn f cap j args AP _ l' L M x=>
   simp only[Iw] at c;split at c
   case h_2=>cases c
   rename_i g N;split at c
   case h_2=>cases c
   rename_i u O;let⟨Q,R⟩:=F f g N (args++cap) (AP++j) h u ρ w i (M.append L) O;refine⟨by simp,.inr ⟨by simp[Fence.wide],.func f,⟨j⟩,f,⟨AP++j⟩,B,?_,λ_ _=>trivial,?_⟩⟩
   .simp only[invoke]
    rw[show((⟨AP⟩:Array Aa)++⟨j⟩)=⟨AP++j⟩ by simp];exact Q
   .refine CallsDIn.mono R λe X w' S=>?_
    obtain⟨⟨v,rfl⟩,V,G,y,p⟩:=S;simp only[V];have C:=p.le i;exact A l' y (m.mono C) (x.mono C) (n.trans z p) o c
  |@collected b pl _ l' D x=>
   simp only[Iw] at c;split at c
   case h_2=>cases c
   rename_i E;have q:=i.1.hr _ _ _ D E;have q:=q;have W:=(dM.1 q).1;obtain⟨y,p⟩:=i.write (w':=w.putObj pl.b (.deferred Z)) (hb':=.aq Ag) D E B (by simp[KY])
    (λb hb=>by show(w.heap.setIfInBounds pl.b _)[b]?=_;rw[AY (Ne.symm hb)]) (by show(w.heap.setIfInBounds pl.b _)[pl.b]?=_;simp[W]) B B B
   refine⟨by simp,.inl ⟨pl.b,_,B,run_takeDeferred q,?_⟩⟩;exact A l' y m x (n.trans z ⟨p,AF.put _ _ _⟩) o c
def sS (P:AN) (τ:Bb) (a:Au->Option (AH->Aa->Y->Option Y)):Prop:=
 ∀f g,a f=I g->∀(args c:AH) (v v') (h J) ρ w,C5 P τ ρ h w->LR ρ args c->VR ρ v v'->g args v h=I J->
  (callFunc f ⟨c⟩).run P w=.ok (.enter f ⟨c⟩) w/\
  CallsDIn Fence.wide 0 P f ⟨c⟩ (.panicking [{v:=v',recovered:=Ah}]) w λe b w'=>(∃v,e=.returned v)/\settle b=.returning/\∃d,C5 P τ d J w'/\RF ρ w h d w' J
def Aaa (T:BM P τ) {o:Au->Option (AH->Aa->Y->Option Y)} (x:sS P τ o) {k:Aa->Y->RR} {i:Ren} {j:AM} (y:C5 P τ i h0 j)
 {p:List Hh} {o':List EO} (l:C5 P τ ρ h w) (z:Tv ρ fr a) (c:DR ρ fr.ds p) (q:RF i j h0 ρ w h) (r:o'⊆outs) (s:VR ρ v v')
 (b:TC τ o (aI fn.results) k kp v fr h=I o'):LeavesInM Fence.wide 0 P fn a.tmps (Ho P τ i j h0 k kp outs) p (.panicking [{v:=v',recovered:=Ah}]) w:=by
 unfold TC at b;split at b
 .rename_i m
  rw[m] at c;cases c;exact⟨ρ,v,v',h,o',B,s,l,q,b,r⟩
 .rename_i f cap args m
  rw[m] at c;split at b
  case h_2=>cases b
  rename_i g A;split at b
  case h_2=>cases b
  rename_i n C;split at b
  case h_2=>cases b
  rename_i vs D;cases c with
  |
   @fn _ cap d args AP _ l' E F H=>
   let⟨K,L⟩:=x f g A _ _ v v' h n ρ w l (F.append E) s C;refine⟨by simp,.inr ⟨by simp[Fence.wide],.func f,⟨d⟩,f,⟨AP++d⟩,B,?_,λ_ _=>trivial,?_⟩⟩
   .simp only[invoke]
    rw[show((⟨AP⟩:Array Aa)++⟨d⟩)=⟨AP++d⟩ by simp];exact K
   .refine CallsDIn.mono L λe R w' M=>?_
    obtain⟨⟨v,rfl⟩,N,O,t,u⟩:=M;simp only[N];cases H;let⟨v',n,Q⟩:=MG T t (z.mono (u.le l)) D;exact⟨v',n,O,Ff vs,_,o',Q,t,q.trans y u,b,r⟩
 .cases b
end
section
variable{P:AN} {τ:Bb} {ρ:Ren} {h:Y} {w:AM} {S:A9}
def J1 (P:AN) (τ:Bb) (x:Lc) (c:DC):Prop:=∀(ρ:Ren) (fr Ec) (h J) a w,St P τ ρ fr h a w->x fr h=I (Ec,J)->
 ∀(K:Kt) outs,K.n Ec J=I outs->c.wpIn (Fw Z) 0 P (QK P τ ρ w h K outs) a w
structure JX (P:AN) (τ:Bb) (S:A9):Prop where
 a:∀f g,S.a f=I g->∀(call:Be),C8 P τ call->∀(args AP:AH) (h J:Y) (v:Aa) (ρ:Ren) (w:AM),C5 P τ ρ h w->LR ρ args AP->g call args h=I (v,J)->
  ∀(k kp:Aa->Y->RR) (outs:List EO),k v J=I outs->Hk P (callFunc f ⟨AP⟩) w (Ho P τ ρ w h k kp outs)
 b:mW P τ S.b
 c:sS P τ S.c
 ex:∀f e,τ.ex.get f=I e->∀(args AP:AH) (h J:Y) (v:Aa) (ρ:Ren) (w:AM),C5 P τ ρ h w->LR ρ args AP->R6 τ e args h=I (v,J)->B6 P τ ρ h w (callFunc f ⟨AP⟩) v J
 cr:∀f fn c,τ.fn.get f=I fn->fn.body=I c->CR P c
 hk:∀f g,S.hk f=I g->∀fn c,τ.fn.get f=I fn->fn.body=I c->∀i x ci,g i=I x->(IC c)[i]?=I ci->J1 P τ x ci
def tu (P:AN) (τ:Bb) (S:A9):Prop:=
 ∀f e i,S.M f=I e->τ.b.get e=I i->∀(a:Be) (args AP) (h J) v ρ w,C5 P τ ρ h w->LR ρ args AP->
  (∀k kp c,a (.func f) args h.ad k kp=I c->Hk P (callFunc f ⟨AP⟩) w (Ho P τ ρ w h.ad k kp c))->
  J3 h e (a (.func f) args h.ad (λv J=>bif J.lo.C h.a then(match MB J h.a e i.size v with|I (n,l)=>I [.flat n l]|Z=>Z) else Z) (λ_ _=>Z))=I (v,J)->
  ∀(k kp:Aa->Y->RR) c,k v J=I c->Hk P (callFunc f ⟨AP⟩) w (Ho P τ ρ w h k kp c)
def NW (c:LR ρ args AP) (b:GA args n=I fr):
 Tv ρ fr {tmps:=(⟨AP⟩:Array Aa)++Cz (n-(⟨AP⟩:Array Aa).size) undef,defers:=[]}/\fr.ds=[]:=by
 unfold GA at b;let⟨d,b⟩:=C1 b;have d:=Ac d;cases b;have g:=c.length;refine⟨⟨Jq,λi v a=>?_⟩,B⟩;simp only at a;rw[T.O] at a;by_cases U:0<=i/\i<0+LT args
 .rw[Bi U] at a
  simp only[DL] at a;let⟨v',e,f⟩:=c.get a;refine⟨v',?_,f⟩;rw[KP Jq];simpa using e
 .rw[Bm U,T.C] at a;cases a
def wpList (F:gL) (n:Nat) (P:AN) (Q:Exit->FP->AM->Prop):List DC->FP->AM->Prop
 |[],a,w=>Q .normal a w
 |c::l,a,w=>c.wpIn F n P (Exit.then (wpList F n P Q l) Q) a w
def Aai {next c:FP->AM->Prop} {Q:Exit->FP->AM->Prop} {e:Exit} (h:Exit.then next Q e a w) (b:next a w->c a w):Exit.then c Q e a w:=by
 cases e with
 |normal=>exact b h
 |_=>exact h
def Wz {F:gL} {Q:Exit->FP->AM->Prop}:∀(c:DC) (l:List DC) (a:FP) (w:AM),wpList F n P Q (IC c++l) a w->c.wpIn F n P (Exit.then (wpList F n P Q l) Q) a w:=by
 intro c
 induction c with
 |seq x y d f=>
  intro l a w h;refine wpIn_seq (wpIn_mono (d (IC y++l) a w (by rw[←KA];exact h)) λe a1 g b=>?_);cases e with
  |normal=>exact f l a1 g b
  |_=>exact b
 |_=>intro l a w h;exact h
def Abw {F:gL} {Q:Exit->FP->AM->Prop} {c:DC} (h:wpList F n P Q (IC c) a w):c.wpIn F n P Q a w:=by
 refine wpIn_mono (Wz c [] a w Jq) λe a1 d b=>?_;cases e with
 |normal=>exact b
 |_=>exact b
def Alw:∀{c:DC},CR P c->∀b∈IC c,CR P b:=by
 intro c
 induction c with
 |seq x y d e=>
  intro h b a;rcases List.mem_append.1 a with a|a
  .exact d h.1 b a
  .exact e h.2 b a
 |_=>intro h b a;obtain rfl:=bQ.1 a;exact h
def Abc (T:BM P τ) (z:C8 P τ call) (hdr:MR P τ call) (L:Nat) {g:Nat->Option Lc} {K:Kt}:∀(l:List DC) (i:Nat),(∀c∈l,CR P c)->
 (∀j x y,g (i+j)=I x->l[j]?=I y->J1 P τ x y)->∀{fr:Fr} {h:Y} {a:FP} {w:AM} {ρ:Ren} {G:List EO},
 St P τ ρ fr h a w->Qq τ call L Z g l i K fr h=I G->wpList (Fw Z) 0 P (QK P τ ρ w h K G) l a w:=by
 intro l
 induction l with
 |nil=>intro i _ _ fr h a w ρ G st s;exact⟨ρ,fr,h,G,st,RF.refl st.hk,λ_ A=>A,s⟩
 |cons c l N=>
  intro i F H fr h a w ρ G st s;have O:=λc z=>F c (Az _ z);have Q:∀j x y,g (i+1+j)=I x->l[j]?=I y->J1 P τ x y:=λj x y b R=>H (j+1) x y (by rw[←b];congr 1;omega) (by simpa using R);have Cw:c.wpIn (Fw Z) 0 P (QK P τ ρ w h {n:=λfr h=>Qq τ call L Z g l (i+1) K fr h,x:=K.x,r:=K.r,p:=K.p} G) a w:=by
   simp only[Qq] at s;split at s
   .rename_i x A
    split at s
    case h_2=>cases s
    rename_i X J S;exact H 0 x c A B ρ fr X h J a w st S _ G s
   .exact GP T z hdr L c (F c Av) (ro:=Z) (ro':=Z) st trivial s
  refine wpIn_mono Cw λe a1 o t=>?_;refine Aai (QK.cb t (next:=λa1 o=>∃d U b f,St P τ d U b a1 o/\RF ρ w h d o b/\f⊆G/\Qq τ call L Z g l (i+1) K U b=I f) λd U b f C u v D=>⟨d,U,b,f,C,u,v,D⟩) ?_
  rintro⟨d,U,b,f,C,u,v,D⟩;have:=N (i+1) O Q C D;have V:∀(l:List DC) a w',wpList (Fw Z) 0 P (QK P τ d o b K f) l a w'->wpList (Fw Z) 0 P (QK P τ ρ w h K G) l a w':=by
   intro l
   induction l with
   |nil=>intro a w' E;exact QK.trans st.hk u v E
   |cons c l W=>
    intro a w' E;refine wpIn_mono E λe k m t=>?_;cases e with
    |normal=>exact W k m t
    |exit id=>have q:QK P τ d o b K f (.exit id) k m:=t;exact(QK.trans st.hk u v q)
    |goto l=>have q:QK P τ d o b K f (.goto l) k m:=t;exact(QK.trans st.hk u v q)
    |ret=>have q:QK P τ d o b K f .ret k m:=t;exact(QK.trans st.hk u v q)
    |panic M=>have q:QK P τ d o b K f (.panic M) k m:=t;exact(QK.trans st.hk u v q)
    |outgrown=>have q:QK P τ d o b K f .outgrown k m:=t;exact(QK.trans st.hk u v q)
  exact V l a1 o this
def XN (T:BM P τ) (d:JX P τ S) (i:C8 P τ call) (hdr:MR P τ call) (L:Nat) {fn:BC} {c:DC} (e:τ.fn.get f=I fn) (hb:fn.body=I c) {K:Kt}
 (st:St P τ ρ fr h a w) (b:Ss τ S call L f c K fr h=I outs):c.wpIn (Fw Z) 0 P (QK P τ ρ w h K outs) a w:=by
 unfold Ss at b;split at b
 .exact GP T i hdr L c (d.cr f fn c e hb) (ro:=Z) (ro':=Z) st trivial b
 .rename_i g k
  exact Abw (Abc T i hdr L (IC c) 0 (Alw (d.cr f fn c e hb)) (λj x l m n=>d.hk f g k fn c e hb j x l Jq n) st b)
def MH (T:BM P τ) (g:JX P τ S) (r:C8 P τ call) (hdr:MR P τ call) (L:Nat) {k:Aa->Y->RR}
 (i:C5 P τ ρ h w) (p:LR ρ args AP) (a:DY τ S call L f args h k kp=I outs):Hk P (callFunc f ⟨AP⟩) w (Ho P τ ρ w h k kp outs):=by
 unfold DY at a;split at a
 .cases a
 rename_i fn j;split at a
 .split at a
  case h_2=>cases a
  rename_i e s;split at a
  case h_2=>cases a
  rename_i v J q;exact(g.ex f e s args AP h J v ρ w i p q).cK (Ako q).1 a
 .rename_i c m
  split at a
  case h_2=>cases a
  rename_i t u;let⟨f1,f2⟩:=NW p u;have x:fn.body.isSome=Ag:=Jq
  have y:=MuLone.run_callFunc_enter (P:=P) (T.fn _ _ j).1 ((T.fn _ _ j).2 x) m ⟨AP⟩ w;unfold Hk;rw[y];refine callsIn_of_wp_marks (T.fn _ _ j).1 m trivial ?_;have st:St P τ ρ t h {tmps:=(⟨AP⟩:Array Aa)++Cz (fn.ntmps-(⟨AP⟩:Array Aa).size) undef,defers:=[]} w:=⟨i,f1,by rw[f2];exact .nil⟩;have z:Fence.wide=Fw none:=rfl;rw[z];refine wpIn_mono (XN T g r hdr L j m st a) λe a1 D A=>?_;let⟨E,fr1,F,H,b,n,o,d⟩:=A;cases e with
  |normal=>exact SK T g.b i _ _ b.hk b.b b.ds n o d
  |ret=>exact SK T g.b i _ _ b.hk b.b b.ds n o d
  |exit id=>cases d
  |goto l=>exact d.elim
  |outgrown=>exact d.elim
  |panic K=>
   obtain⟨v,B,rfl,C,d⟩:=d;exact Aaa T g.c i b.hk b.b b.ds n o C d
def C5.ad (a:C5 P τ ρ h w):C5 P τ ρ h.ad w:=a
def JL (T:BM P τ) (l:JX P τ S) (o:tu P τ S) (hdr:∀call,C8 P τ call->MR P τ call) (L:Nat):∀n,C8 P τ (B8 τ S L n):=by
 intro n
 induction n with
 |zero=>intro fn p args x h k kp u ρ w _ _ _ a;cases a
 |succ n b=>
  intro fn p args x h k kp u ρ w d q j a;cases q with
  |func f=>
   simp only[B8] at a;split at a
   .rename_i v J m
    split at m
    case h_2=>cases m
    rename_i g r;exact l.a f g r _ b args x h J v ρ w d j m k kp u a
   .split at a
    .rename_i v J c
     unfold fB at c;split at c
     case h_2=>cases c
     rename_i e s;split at c
     case h_2=>cases c
     rename_i i U;exact o f e i s U (λfn args h k kp=>match fn with|.func f=>DY τ S (B8 τ S L n) L f args h k kp|_=>Z) args x h J v ρ w d j
      (λk kp u hb=>MH T l b (hdr _ b) L d.ad j hb) c k kp u a
    .exact MH T l b (hdr _ b) L d j a
  |yield t=>exact Wy T b (hdr _ b) L d t j a
end
section
variable{P:AN} {τ:Bb} {ρ:Ren} {h:Y} {w:AM}
def C5.grow (a:C5 P τ ρ h w) (c:w.heap.size<=w'.heap.size) (hb:∀b,b<w.heap.size->w'.heap[b]?=w.heap[b]?):C5 P τ ρ h w':=
 ⟨⟨a.1.fresh,λid pl x e d=>(a.1.hr id pl x e d).mono (Ren.le_refl ρ) (hb _ (a.1.b id pl e)),λid pl e=>AC (a.1.b id pl e) c,a.1.ord,a.1.a⟩,a.2⟩
def WA {r:RR} (a:J3 h e r=I (v,J)):∃n l rest,r=I (.flat n l::rest)/\
 ((n=0/\l=[.pointer Z]/\v=.slice Z 0 0/\J=h)\/(n≠0/\v=.slice (I ⟨h.a,0,Z⟩) n n/\J=HY h e l))/\
 ∀n' l',EO.flat n' l'∈(.flat n l::rest)->n'=n/\l'=l:=by
 unfold J3 at a;split at a
 case h_2=>cases a
 rename_i n l rest;let⟨d,a⟩:=C1 a;refine⟨n,l,rest,B,?_,λn' l' b=>?_⟩
 .rcases All a with⟨c,a⟩|⟨c,a⟩
  .split at a
   .cases a;exact .inl ⟨Af c,B,B,B⟩
   .cases a
  .cases a;exact .inr ⟨λf=>Jq,B,B⟩
 rcases bZ.1 b with b|b
 .cases b;exact⟨B,B⟩
 .have:=Jf.1 d _ b
  simp only[] at this;let⟨g,i⟩:=Dh this;exact⟨Af g,(Iq i).1.symm⟩
def Amm (T:BM P τ) {i:KR} (U:τ.b.get e=I i) (p:C5 P τ ρ h w) {M:Ren} {q:Y} {v1:Aa}
 (am:VR M v1 v') (N:C5 P τ M q w') (rf:RF ρ w h.ad M w' q) (af:∀id,id<h.a->¬q.lo.has id) (m:MB q h.a e i.size v1=I (n,l)) (hn:n≠0):
 ∃C2,VR C2 (.slice (I ⟨h.a,0,Z⟩) n n) v'/\C5 P τ C2 (HY h e l) w'/\RF ρ w h C2 w' (HY h e l):=by
 unfold MB at m;split at m
 case h_1=>cases m;exact Cf B hn
 case h_3=>cases m
 rename_i a len cap;split at m
 case h_2=>cases m
 rename_i c nB el xx eH;replace m:=C1 m;obtain⟨D,m⟩:=m;obtain⟨D,c4⟩:=Dh D;obtain⟨D,c3⟩:=Dh D;obtain⟨c1,S⟩:=Dh D;have c1:=Ac c1;have S:=Af S;have c3:=Ac c3;have c4:=Ac c4;subst S;split at m
 case h_2=>cases m
 rename_i E hg;obtain⟨an,m⟩:=C1 m;simp only[I.injEq,eD.injEq] at m;obtain⟨rfl,rfl⟩:=m;cases am with|@slice id off sp _ _ pl o' F e2=>
 have c1:h.a<=id:=c1;have c3:off+cap*i.size<=nB:=c3;have ho:=e2 G;obtain⟨C,V,g1,g2,g3,g4,g5,g6⟩:=N.1.hr _ _ _ F eH;have ao:V.1=V.2:=by
  rcases g5 with h|⟨h,_⟩|⟨q,O,h3⟩
  .exact h
  .cases h
  .omega
 have ag:=T.b _ _ U;have a2:=g3 i ag;obtain⟨ah,W⟩:=FN _ _ _ _ hg;have W:∀(j:Nat) v,E[j]?=I v->c.get (off+j)=I v:=W;have z:=p.1.fresh;have o:=rf.a;have X:∀d pl',q.lo.has d->ρ d=I pl'->False:=λd pl' aa f=>by rw[z d (gQ λk=>af d k aa)] at f;cases f
 have a3:(len)*i.size+(cap+Hl sp pl-len)*i.size=(cap+Hl sp pl)*i.size:=by rw[←Dw];congr 1;omega
 have a4:(cap+Hl sp pl)*i.size=cap*i.size+Hl sp pl*i.size:=Dw ..;have a5:Hl sp pl*i.size<=pl.s*i.size:=Ci _ (by unfold Hl;split<;>omega);have a6:len*i.size<=cap*i.size:=Ci _ c4;have ap:=Ren.M (z h.a (Ae _)) ⟨pl.b,pl.o+off,cap+Hl sp pl-len⟩;have aq:∀d pl',ρ d=I pl'->w'.heap[pl'.b]?=w.heap[pl'.b]?:=λd pl' f=>o.O _ (p.1.b _ _ f) λab ad O ae=>(X ab ad O ae).elim;have ar:=λd H=>rf.b.2.2 d H (af d H);have au:BR P (ρ.ah h.a ⟨pl.b,pl.o+off,cap+Hl sp pl-len⟩) ⟨pl.b,pl.o+off,cap+Hl sp pl-len⟩ w' (.cells (Ev.T.laid E 0 .nil) (LT E) el 0 0 Ah):=by
  refine⟨C,V,g1,Jq,λi' ai=>?_,λj v u=>?_,.inl ao,Jq⟩
  .rw[ag] at ai;cases ai;rw[ah];show pl.o+off+_+(cap+Hl sp pl-len)*i.size<=_;omega
  .rw[Ev.T.O] at u
   by_cases hj:0<=j/\j<0+LT E
   .rw[Bi hj] at u
    simp only[DL] at u;let⟨_,v',q1,q2⟩:=g4 _ _ (W j v u);have aj:=Jf.1 an v (AZ u);refine⟨G,v',by show C[pl.o+off+j]?=_;rw[DD];exact q1,?_⟩;rw[q2.O aj];exact VR.C aj
   .rw[Bm hj,Ev.T.C] at u;cases u
 have av:C5 P τ (ρ.ah h.a ⟨pl.b,pl.o+off,cap+Hl sp pl-len⟩) (HY h el E) w':=by
  refine⟨?_,UF p.2⟩;show Sl P τ _ (h.t.ins h.a _).get (h.a+1) w';rw[F3];refine⟨λd J=>?_,λd pl' hb f K=>?_,λd pl' f=>?_,λx y px py L A r Q aw hb=>?_,λg ax=>?_⟩
  .unfold Ren.ah;rw[Bm G];exact z d G
  .unfold Ren.ah at f;unfold Mn at K
   by_cases k:d=h.a
   .rw[Bi k] at f K;cases f;cases K;exact au
   .rw[Bm k] at f K
    exact(p.1.hr _ _ _ f K).mono ap (aq _ _ f)
  .unfold Ren.ah at f
   by_cases k:d=h.a
   .rw[Bi k] at f;cases f;exact N.1.b id pl F
   .rw[Bm k] at f;exact AC (p.1.b _ _ f) o.size
  .unfold Ren.ah at A r;unfold Mn at Q
   by_cases aa:x=h.a
   .by_cases R:y=h.a
    .omega
    .rw[Bm R] at r
     have:y<h.a:=BB λk=>by rw[z y k] at r;cases r
     omega
   .rw[Bm aa] at A Q
    have H:x<h.a:=BB λk=>by rw[z x k] at A;cases A
    by_cases R:y=h.a
    .rw[Bi R] at r;cases r
     have ak:M x=I px:=by rw[o.C x H];exact A
     have ay:q.t.get x=I L:=by rw[ar x H];exact Q
     rcases FD x id with k|k|k
     .exact N.1.ord x id px pl L ak F ay k hb
     .omega
     .have:=N.1.ord id x pl px _ F ak eH k hb.symm;cases this
    .rw[Bm R] at r;exact p.1.ord x y px py L A r Q aw hb
  .have:=p.2
   unfold Ren.ah;rw[Bm G];exact p.1.a g ax
 refine⟨_,?_,av,⟨⟨λd J=>?_,o.size,λb hb _=>o.O b hb λab ad O ae=>(X ab ad O ae).elim,λd pl' J f=>?_,Yr _,o.os,o.out,o.tape,o.drawn⟩,AF.new _ _⟩⟩
 .have al:=VR.slice (ρ:=ρ.ah h.a ⟨pl.b,pl.o+off,cap+Hl sp pl-len⟩) (id:=h.a) (off:=0) (sp:=Z) (len:=len) (cap:=len) (o':=o') (Ren.C _ _) (λ_=>by simp only[];omega)
  have az:len+Hl Z (⟨pl.b,pl.o+off,cap+Hl sp pl-len⟩)=cap+Hl sp pl:=by
   show len+(cap+Hl sp pl-len)=_;omega
  rw[az] at al;exact al
 .have J:=J
  unfold Ren.ah;rw[Bm G]
 .unfold Ren.ah at f
  by_cases k:d=h.a
  .rw[Bi k] at f;cases f
   rcases o.new id pl c1 F with L|⟨j,pj,a0,a1,_⟩
   .exact .inl L
   .exact(X j pj a0 a1).elim
  .rw[Bm k,z d J] at f;cases f
def Va (T:BM P τ) (S:A9):tu P τ S:=by
 intro f e i _ U ad args AP h J v ρ w m hl y z k kp B r;let⟨n,l,rest,A,C,D⟩:=WA z;refine(y _ _ _ A).mono λE w' p=>?_;cases E with
 |outgrown=>exact p
 |panicked ch=>let⟨_,_,_,_,_,_,_,_,_,hb,_⟩:=p;cases hb
 |returned v'=>
  let⟨ae,F,s,o1,t,H,u,g,K⟩:=p;simp only[] at g;obtain⟨o,g⟩:=C1 g;have o:∀id,id<h.a->¬s.lo.has id:=λid L=>GO o L;split at g
  case h_2=>cases g
  rename_i M N a;cases g;obtain⟨rfl,rfl⟩:=D M N (K (bQ.2 rfl));rcases C with⟨rfl,rfl,rfl,rfl⟩|⟨O,rfl,rfl⟩
  .have Q:F=.slice Z 0 0:=by
    unfold MB at a;split at a
    .rfl
    .split at a
     .let⟨_,a⟩:=C1 a
      split at a
      .rename_i x
       obtain⟨_,a⟩:=C1 a;cases a;rw[Qg] at x;cases x
      .cases a
     .cases a
    .cases a
   subst Q;cases t;have c:=u.a;have R:∀d pl',s.lo.has d->ρ d=I pl'->False:=λd pl' V j=>by rw[m.1.fresh d (gQ λW=>o d W V)] at j;cases j
   have hb:=λb hb=>c.O b hb λX aa G Y=>(R X aa G Y).elim;exact⟨ρ,_,_,B,.az 0 0,m.grow c.size hb,⟨⟨λ_ _=>rfl,c.size,λb hb' _=>hb b hb',λd pl' ab j=>(by rw[m.1.fresh d ab] at j;cases j),Ae _,c.os,c.out,c.tape,c.drawn⟩,AF.refl J⟩,r,λ_ q=>q⟩
  .let⟨C2,q1,q2,q3⟩:=Amm T U m t H u o a O
   exact⟨C2,_,_,B,q1,q2,q3,r,λ_ q=>q⟩
end
def LZ (AU:Array C0) (S:Nat->Prop):Prop:=∀j o e,AU[j]?=I o->e∈o.after->ET .any e=Ag->S j->S e.on
def Rg {A:Array Nat} {S:Nat->Prop} {k:Nat} {o:C0} (d:∀e∈o.after,ET .any e=Ag->S k->S e.on) (f:∀j i,(A.getD j 0).testBit i=Ag->S j->S i):
 ∀(es:List Edge) (s:Nat),(∀e∈es,e∈o.after)->(∀i,s.testBit i=Ag->S k->S i)->
  ∀i,(es.foldl (λs e=>if ET .any e then s|||2^e.on|||A.getD e.on 0 else s) s).testBit i=Ag->S k->S i
 |[],s,_,b,i,h,a=>b i h a
 |e::es,s,g,b,i,h,a=>by
  rw[F7] at h;refine Rg d f es _ (λe c=>g e (Az _ c)) (λi U a=>?_) i h a;by_cases hb:ET .any e=Ag
  .rw[Bi hb] at U
   have c:=d e (g e Av) hb a;rw[qN,qN] at U;simp only[Dm] at U;rcases U with(U|U)|U
   .exact b i U a
   .rw[Nat.testBit_two_pow] at U
    have:e.on=i:=Jq
    rw[←this];exact c
   .exact f _ _ U c
  .rw[Bm hb] at U;exact b i U a
def S4 (AU:Array C0) {S:Nat->Prop} (d:LZ AU S):∀(l:List C0) (A:Array Nat),AU.toList.drop A.size=l->(∀j i,(A.getD j 0).testBit i=Ag->S j->S i)->
 ∀j i,((l.foldl (λf o=>f.push (o.after.foldl (λs e=>if ET .any e then s|||2^e.on|||f.getD e.on 0 else s) 0)) A).getD j 0).testBit i=Ag->S j->S i
 |[],A,_,b,j,i,h,a=>b j i h a
 |o::l,A,g,b,j,i,h,a=>by
  rw[F7] at h;have m:AU[A.size]?=I o:=by
   have:(AU.toList.drop A.size)[0]?=I o:=Jq
   simpa using this
  refine S4 AU d l _ ?_ (λj i h a=>?_) j i h a
  .rw[Array.size_push]
   have:=Cs nU g;simpa using this
  .rcases FD j A.size with k|n|p
   .rw[Bh,Array.getElem?_push_lt k] at h
    refine b j i ?_ a;rw[Bh,By k];exact h
   .subst n
    rw[Bh,Array.getElem?_push_size] at h;simp only[EN] at h;rw[←IV] at h;exact Rg (λe c hb=>d _ o e m c hb) b (aI o.after) 0 (λe c=>Jq) (λi U=>Jq) i h a
   .rw[Bh,Dr Jq] at h
    simp at h
def LD {AU:Array C0} (a:LZ AU S) (h:((Df AU).toList.getD j 0).testBit i=Ag) (b:S j):S i:=by
 refine S4 AU a (aI AU) #[] B (λj i h=>Jq) j i ?_ b;have:(Df AU).toList.getD j 0=(Df AU).getD j 0:=by
  rw[Bh,Ak,Is]
 rw[this] at h;unfold Df at h;rw[←IV] at h;exact h
def OA (τ:Bb) (call:Be) (AU:Array C0) (F:Nat->Fr) (H:Nat->Y) (E:Nat->Hi) (j:Nat) (o:C0):Prop:=
 QI (aI AU) o.guard=Ag/\
 ((E5 (F j) (aI AU) o.guard=I Ag/\∃J,F9 τ call (F j) (H j).ad o.op (λv J=>match(F j).set o.dst v with|I Ec=>I [.aE Ec J]|Z=>Z) (λ_ _=>Z)=I [.aE (F (j+1)) J]/\
  H (j+1)=(H j).M J/\E j=CF τ (F j) o.op (H j) J.lo/\(E j).ok=Ag)\/
  (E5 (F j) (aI AU) o.guard=I Ah/\(F j).set o.dst (.tuple #[])=I (F (j+1))/\H (j+1)=H j/\E j=.aK))
def Rp (e:Hi) (h:AD nx nx'=Ah):MF e .aK nx nx'=false:=by
 have c:¬nx<nx':=λa=>by
  have:AD nx nx'=Ag:=AK▸a
  rw[this] at h;cases h
 cases e with
 |wr s d=>
  cases s with
  |no=>rfl
  |one b=>
   show(Ar nx b&&AD b nx')=Ah;refine MK.2 λa=>?_;simp only[An,AK] at a;have:=Ac a.1;omega
  |rest lo=>show(AD nx nx'&&AD lo nx')=Ah;rw[h];rfl
  |pair b lo=>
   show((Ar nx b&&AD b nx')||(AD nx nx'&&AD lo nx'))=Ah;rw[h,Bool.false_and,Bool.or_false];refine MK.2 λa=>?_;simp only[An,AK] at a;have:=Ac a.1;omega
 |_=>rfl
def Aae {a:Type} (e:Hi) (k:Hi->a):e.C k=k e:=by cases e<;>rfl
def XR {e:Hi} {b:fw}:(∀x∈b,x∈QC i e nx nx' b)/\((i,e,nx,nx')∈QC i e nx nx' b\/(e=.aK/\AD nx nx'=Ah)):=by
 unfold QC;split
 .cases hb:AD nx nx' with
  |false=>exact⟨λx a=>a,.inr ⟨B,B⟩⟩
  |true=>exact⟨λx a=>Az _ a,.inl Av⟩
 .exact⟨λx a=>Az _ a,.inl Av⟩
def SF {b:Bo} {e:Hi} {a:fw} (h:Lz b i e a=Ag):e.ok=Ag/\∀{k:Nat} {c:Hi} {nx nx':Nat},(k,c,nx,nx')∈a->MF e c nx nx'=Ag->Hy b i k=true:=by
 unfold Lz at h;rw[An] at h;refine⟨h.1,λd f=>?_⟩;have:=Jf.1 h.2 _ d;simp[f,Qf,Bool.false_or] at this;exact this
def Aao {AU:Array C0} {b:Bo} {k:Fr->Y->RR}:∀(l:List C0) (i:Nat),AU.toList.drop i=l->∀(n:fw) (fr:Fr) (h:Y) (W:List EO),
 MC τ call (aI AU) b k l i n fr h=I W->∃(F:Nat->Fr) (H:Nat->Y) (E:Nat->Hi),F i=fr/\H i=h/\(∀j o,i<=j->AU[j]?=I o->OA τ call AU F H E j o)/\
  (∀j k' e nx nx',i<=j->j<AU.size->(k',e,nx,nx')∈n->MF (E j) e nx nx'=Ag->Hy b j k'=Ag)/\
  (∀x y,i<=x->x<y->y<AU.size->MF (E y) (E x) (H x).a (H (x+1)).a=Ag->Hy b y x=Ag)/\k (F AU.size) (H AU.size)=I W:=by
 intro l
 induction l with
 |
  nil=>
  intro i U n fr h W c;have V:AU.size<=i:=by
   have:=Cs HD U;simp at this;omega
  refine⟨λ_=>fr,λ_=>h,λ_=>.aK,B,B,λj o p L=>?_,λj k' e nx nx' p M=>G,λx y z r q=>G,c⟩;have:j<AU.size:=(dM.1 L).1;omega
 |
  cons o l A=>
  intro i U n fr h W c;have s:AU[i]?=I o:=by
   have:(AU.toList.drop i)[0]?=I o:=Jq
   simpa using this
  have C:AU.toList.drop (i+1)=l:=by
   have:=Cs nU U;simpa using this
  have M:i<AU.size:=(dM.1 s).1;simp[MC] at c;obtain⟨D,c⟩:=C1 c;split at c
  .rename_i t
   split at c
   case h_2=>cases c
   rename_i X J N;rw[Aae] at c;let⟨K,c⟩:=C1 c;let⟨F,H,E,f0,h0,st,cl,sp,u⟩:=A (i+1) C _ _ _ _ c;obtain⟨O,P⟩:=XR (i:=i) (e:=CF τ fr o.op h J.lo) (nx:=h.a) (nx':=J.a) (b:=n);have Q:(H (i+1)).a=J.a:=by rw[h0];rfl
   refine⟨λk=>if k=i then fr else F k,λk=>if k=i then h else H k,λk=>if k=i then CF τ fr o.op h J.lo else E k,by simp,by simp,λj v p f=>?_,λj k' e nx nx' p w m a=>?_,λx y z r q a=>?_,?_⟩
   .by_cases d:j=i
    .subst d
     rw[s] at f;cases f;refine⟨D,.inl ?_⟩;simp[Bi,Bm (tG j)];refine⟨t,J,?_,h0,B,(SF K).1⟩;rw[f0];exact N
    .have:=st j v G f
     unfold OA at*;simp[Bm d,Bm (show j+1≠i by omega)];exact this
   .simp[] at a
    by_cases d:j=i
    .subst d;rw[Bi B] at a;exact(SF K).2 m a
    .rw[Bm d] at a;exact cl j k' e nx nx' G w (O _ m) a
   .simp[] at a
    rw[Bm (show y≠i by omega),Bm (show x+1≠i by omega)] at a;by_cases g:x=i
    .subst g
     rw[Bi B,Bi B,Q] at a;rcases P with m|⟨R,S⟩
     .exact cl y x _ _ _ G q m a
     .rw[R,Rp _ S] at a;cases a
    .rw[Bm g,Bm g] at a;exact sp x y G r q a
   .simp[Bm (show AU.size≠i by omega)];exact u
  .rename_i t
   split at c
   case h_2=>cases c
   rename_i X T;let⟨F,H,E,f0,h0,st,cl,sp,u⟩:=A (i+1) C _ _ _ _ c;refine⟨λk=>if k=i then fr else F k,λk=>if k=i then h else H k,λk=>if k=i then .aK else E k,Jq,by simp,λj v p f=>?_,λj k' e nx nx' p w m a=>?_,λx y z r q a=>?_,?_⟩
   .by_cases d:j=i
    .subst d
     rw[s] at f;cases f;refine⟨D,.inr ?_⟩;simp only[Bi,Bm (tG j)];exact⟨t,by rw[f0];exact T,h0,trivial⟩
    .have:=st j v G f
     unfold OA at*;simp[Bm d,Bm (show j+1≠i by omega)];exact this
   .simp[] at a
    by_cases d:j=i
    .subst d;rw[Bi B] at a;cases e<;>cases a
    .rw[Bm d] at a;exact cl j k' e nx nx' G w m a
   .simp[] at a
    rw[Bm (show y≠i by omega),Bm (show x+1≠i by omega)] at a;by_cases g:x=i
    .subst g
     rw[Bi B,Bi B,h0] at a;rw[Rp _ (by simp[AK,MK])] at a;cases a
    .rw[Bm g,Bm g] at a;exact sp x y G r q a
   .simp[Bm (show AU.size≠i by omega)];exact u
  .cases c
def je (h:Y):Option HB->Y
 |Z=>h
 |I b=>h.new b
def R1 (f:Y->Jl) (nx:Nat):Prop:=(∀h,h.a=nx->f h=Z)\/∃v b,∀h,h.a=nx->f h=I (v,je h b)
def R1.dC {f:Y->Jl} (X:Option Aa) (h:∀h,f h=CN h X):R1 f nx:=by
 cases X with
 |none=>exact .inl λJ _=>h J
 |some v=>exact .inr ⟨v,Z,λJ _=>h J⟩
def R1.no {f:Y->Jl} (h:∀h,f h=Z):R1 f nx:=.inl λJ _=>h J
def R1.new {f:Y->Jl} (v:Nat->Aa) (b:HB) (h:∀h,f h=I (v h.a,h.new b)):R1 f nx:=.inr ⟨v nx,I b,λJ e=>by rw[h J,e];rfl⟩
section
variable{τ:Bb} {call:Be} {fr:Fr}
def XQ (a:Dj o=Ag) (nx:Nat):R1 (λh=>Ch τ fr h o) nx:=by
 cases o<;>simp[Dj] at a<;>first
  |(cases a;done)
  |exact .dC (ev τ fr _) λ_=>rfl
  |(simp[Ch,iH];repeat' first|exact .no λ_=>rfl|exact .dC (I _) λ_=>rfl|exact .dC _ λ_=>rfl|split)
def Rq {s d:Ai} (g:(∃k n,v=.int k n)\/∃s,v=.string s) (nx:Nat):R1 (λh=>Ea τ s d v h) nx:=by
 simp[Ea];rcases g with⟨k,n,rfl⟩|⟨a,rfl⟩
 .split
  case h_2=>exact .no λ_=>rfl
  rename_i c f i j;cases f<;>first
   |exact .dC (I _) λ_=>rfl
   |(cases c<;>exact .no λ_=>rfl)
 .split
  case h_2=>exact .no λ_=>rfl
  rename_i c f i j;cases f<;>first
   |exact .dC (I _) λ_=>rfl
   |(cases c<;>exact .no λ_=>rfl)
   |skip
  rename_i e;have m:R1 (λh=>(bif Gv τ e then(match τ.ds.get e with
   |I (.int .u8)=>I (.slice (I ⟨h.a,0,Z⟩) a.size a.size,h.new (.cells (T.laid (a.data.toList.map λb=>.int .u8 b.toNat) 0 .nil) a.size e 1 0 Ah))
   |I (.int .i32)=>
    let l:=CA a.size (aI a.data)
    I (.slice (I ⟨h.a,0,Z⟩) (LT l) (LT l),h.new (.cells (T.laid l 0 .nil) (LT l) e 0 0 Ah))
   |_=>Z) else Z)) nx:=by
   cases Gv τ e with
   |false=>exact .no λ_=>rfl
   |true=>
    simp[D1];split
    .exact .new (λn=>.slice (I ⟨n,0,Z⟩) _ _) _ λ_=>rfl
    .exact .new (λn=>.slice (I ⟨n,0,Z⟩) _ _) _ λ_=>rfl
    .exact .no λ_=>rfl
  cases c<;>exact m
def JD (h:Y) (s:WS):(Fe h s=.aD/\s.C h.a=Ag)\/(Fe h s=.wr s Z/\∀b,s.top=I b->∃hb,h.t.get b=I hb/\hb.live=Ag)\/Fe h s=.bad:=by
 unfold Fe;cases c:s.C h.a with
 |true=>exact .inl ⟨B,B⟩
 |
  false=>
  simp only[I0];cases s<;>first|exact .inr (.inl ⟨B,λb hb=>by cases hb⟩)|(
   simp only[];split
   .rename_i x hb
    cases a:x.live
    .exact .inr (.inr B)
    .exact .inr (.inl ⟨B,λd hb'=>by cases hb';exact⟨x,hb,a⟩⟩)
   .exact .inr (.inr B))
def NH (t r:Nat) (e:Hi):Xb t r e=e\/∃b a,e=.wr (.one b) a/\(Xb t r e=.wr (.one b) Z\/(b=r/\Xb t r e=.wr (.one b) (I t))):=by
 unfold Xb;split
 .rename_i b a
  refine .inr ⟨b,a,B,?_⟩;cases hb:Am b r with
  |true=>exact .inr ⟨Af hb,B⟩
  |false=>exact .inl B
 .exact .inl rfl
def L4 {t:Nat}:(∀x,Xb t r (Fe h s)≠.rd x)/\(∀x y,Xb t r (Fe h s)≠.lk x y)/\Xb t r (Fe h s)≠.aK:=by
 rcases NH t r (Fe h s) with a|⟨b,d,_,a|⟨_,a⟩⟩<;>rw[a]
 .rcases JD h s with⟨c,_⟩|⟨c,_⟩|c<;>rw[c]<;>simp
 .simp
 .simp
def B2:(∀x,Fe h s≠.rd x)/\(∀x y,Fe h s≠.lk x y)/\Fe h s≠.aK:=by
 rcases JD h s with⟨a,_⟩|⟨a,_⟩|a<;>rw[a]<;>simp
def OW:CF τ fr o h lo=.aK\/(∃a,CF τ fr o h lo=.rd a)\/(∃a t,CF τ fr o h lo=.lk a t)\/CF τ fr o h lo=Fe h lo\/
 ∃t m k r,o=.mapEntry t m k/\ev τ fr m=I (.map (I r))/\CF τ fr o h lo=Xb t r (Fe h lo):=by
 unfold CF;cases Dj o with
 |true=>exact .inl B
 |false=>
  simp only[I0]
  repeat' first|exact .inl B|exact .inr (.inl ⟨_,B⟩)|exact .inr (.inr (.inl ⟨_,_,B⟩))|exact .inr (.inr (.inr (.inl B)))|exact .inr (.inr (.inr (.inr ⟨_,_,_,_,B,by assumption,B⟩)))|split|cases ‹Bool›
def Xz {f:Option Ai} (c:CF τ fr o h lo=.wr s f):s=lo/\∀b,s.top=I b->∃hb,h.t.get b=I hb/\hb.live=true:=by
 have g:∀f,Fe h lo=.wr s f->s=lo/\∀b,s.top=I b->∃hb,h.t.get b=I hb/\hb.live=Ag:=by
  intro f d;rcases JD h lo with⟨e,_⟩|⟨e,j⟩|e<;>rw[e] at d<;>cases d;exact⟨B,j⟩
 rcases OW with d|⟨a,d⟩|⟨a,t,d⟩|d|⟨t,m,k,r,_,_,d⟩<;>rw[d] at c
 .cases c
 .cases c
 .cases c
 .exact g _ c
 .rcases NH t r (Fe h lo) with i|⟨b,l,e,i|⟨_,i⟩⟩<;>rw[i] at c
  .exact g _ c
  .cases c;exact g _ e
  .cases c;exact g _ e
def Aly (d:CF τ fr o h lo=.aD):lo.C h.a=true:=by
 have g:Fe h lo=.aD->lo.C h.a=Ag:=by
  intro c;rcases JD h lo with⟨_,e⟩|⟨e,i⟩|e
  .exact e
  .rw[e] at c;cases c
  .rw[e] at c;cases c
 rcases OW with c|⟨a,c⟩|⟨a,t,c⟩|c|⟨t,m,k,r,_,_,c⟩<;>rw[c] at d
 .cases d
 .cases d
 .cases d
 .exact g d
 .rcases NH t r (Fe h lo) with f|⟨b,j,e,f|⟨_,f⟩⟩<;>rw[f] at d
  .exact g d
  .cases d
  .cases d
def Ark (c:CF τ fr o h lo=.wr s (I t)):∃m k r,o=.mapEntry t m k/\ev τ fr m=I (.map (I r))/\s=.one r:=by
 have g:Fe h lo=.wr s (I t)->False:=by
  intro d;rcases JD h lo with⟨e,_⟩|⟨e,n⟩|e<;>rw[e] at d<;>cases d
 rcases OW with d|⟨a,d⟩|⟨a,i,d⟩|d|⟨i,m,k,r,j,l,d⟩<;>rw[d] at c
 .cases c
 .cases c
 .cases c
 .exact(g c).elim
 .rcases NH i r (Fe h lo) with f|⟨b,p,e,f|⟨hb,f⟩⟩<;>rw[f] at c
  .exact(g c).elim
  .cases c
  .cases c;subst hb;exact⟨m,k,b,j,l,B⟩
def Gk {k:Aa->Y->RR} (a:∀c,o≠.call c) (b:∀e s,o≠.next e s) (d:∀x,o≠.panic x):
 F9 τ call fr h o k kp=(match Ch τ fr h o with|some (v,J)=>k v J|none=>Z):=by
 cases o<;>first
  |rfl
  |exact Cf rfl (a _)
  |exact Cf rfl (b _ _)
  |exact Cf rfl (d _)
def Zl (g:CF τ fr o h0 lo=.aK) {k:Aa->Y->RR} (y:F9 τ call fr h o k kp=I outs):
 ∃v G,∀(f:Y) (j m:Aa->Y->RR),f.a=h.a->F9 τ call fr f o j m=j v (je f G):=by
 have p:(∀c,o≠.call c)->(∀T s,o≠.next T s)->(∀x,o≠.panic x)->R1 (λh=>Ch τ fr h o) h.a->∃v G,∀(f:Y) (j m),f.a=h.a->F9 τ call fr f o j m=j v (je f G):=by
  intro E f K A;rw[Gk E f K] at y;rcases A with A|⟨v,G,A⟩
  .have:=A h B
   simp[] at this;rw[this] at y;cases y
  .refine⟨v,G,λJ j m M=>?_⟩
   rw[Gk E f K];have:=A J M;simp[] at this;rw[this]
 unfold CF at g;cases C:Dj o with
 |true=>exact p (λc q=>by subst q;cases C) (λi s q=>by subst q;cases C) (λx q=>by subst q;cases C) (XQ C _)
 |false=>
  rw[C] at g;simp[I0] at g;split at g
  .rename_i t
   refine p Jq Jq Jq ?_;simp[Ch,iH];split
   .exact .new (λn=>AG n 0) _ λ_=>rfl
   .exact .no λ_=>rfl
  .rename_i t x
   refine p Jq Jq Jq ?_;simp[Ch,iH];split
   .exact .new (λn=>AG n 0) _ λ_=>rfl
   .exact .no λ_=>rfl
  .rename_i t ps
   refine p Jq Jq Jq ?_;simp[Ch,iH];split
   .exact .dC _ λ_=>rfl
   .exact .no λ_=>rfl
  .rename_i t n ps
   refine p Jq Jq Jq ?_;simp[Ch,iH];split
   .rename_i vs R
    unfold Bs;split
    case h_2=>exact .no λ_=>rfl
    split
    case h_2=>exact .no λ_=>rfl
    rename_i i z _ _;cases q:(AD 0 i.size&&Am (AJ z).length i.size&&Ar (n*i.size) 16777216) with
    |false=>simp[I0];exact .no λ_=>rfl
    |true=>
     simp[D1];split
     .exact .new (λn=>.slice (I ⟨n,0,Z⟩) _ _) _ λ_=>rfl
     .exact .no λ_=>rfl
   .exact .no λ_=>rfl
  .rename_i t l c
   refine p Jq Jq Jq ?_;simp[Ch,iH];split
   .unfold Dk
    split
    case h_2=>exact .no λ_=>rfl
    split
    case h_2=>exact .no λ_=>rfl
    rename_i e l c _ _ _ _ _ i z _ _;cases q:(Ar l c&&E3 (c*i.bytes)&&E3 c&&AD 0 i.size&&Am (AJ z).length i.size) with
    |false=>simp[I0];exact .no λ_=>rfl
    |true=>simp[D1];exact .new (λn=>.slice (I ⟨n,0,Z⟩) _ _) _ λ_=>rfl
   .exact .no λ_=>rfl
  .rename_i t r
   refine p Jq Jq Jq ?_;simp[Ch,iH];split
   .exact .new (λn=>.map (I n)) _ λ_=>rfl
   .split
    .exact .new (λn=>.map (I n)) _ λ_=>rfl
    .exact .no λ_=>rfl
   .exact .no λ_=>rfl
  .split at g
   .cases g
   .exact(B2.2.2 g).elim
  .rename_i N
   split at g
   .cases N<;>cases g
   .exact(B2.2.2 g).elim
  .split at g
   .exact(L4.2.2 g).elim
   .exact(B2.2.2 g).elim
  .rename_i s d x
   refine p Jq Jq Jq ?_;simp[Ch,iH];split at g
   .rename_i k n w;rw[w];exact Rq (.inl ⟨_,_,rfl⟩) _
   .rename_i s w;rw[w];exact Rq (.inr ⟨_,rfl⟩) _
   .exact(B2.2.2 g).elim
  .rename_i args D
   have S:∀v vs,O8 τ fr (aI args)=I [v]->(∀f,I7 τ (aI D) [v] f=vs)->∃v G,∀(f:Y) (j m),f.a=h.a->F9 τ call fr f (.call ⟨.builtin .len,args,D⟩) j m=j v (je f G):=by
    intro v vs O P;have L:∀(f:Y) (j m),F9 τ call fr f (.call ⟨.builtin .len,args,D⟩) j m=(match vs with|I u=>j u f|Z=>Z):=by
     intro f j m;simp[F9,Ju,O,Bx,P f];cases vs<;>rfl
    rw[L] at y;cases vs with
    |none=>cases y
    |some u=>exact⟨u,Z,λf j m _=>L f j m⟩
   split at g
   .rename_i a b c w
    refine S _ (I7 τ (aI D) [.slice a b c] h) w λf=>?_;unfold I7;split
    .rename_i t Q x xs E F
     cases F;split
     .rfl
     .rename_i H _
      cases H<;>rfl
    .rfl
   .rename_i s w
    refine S _ (I7 τ (aI D) [.string s] h) w λf=>?_;unfold I7;split
    .rename_i t Q x xs E F
     cases F;split
     .rfl
     .rename_i H _
      cases H<;>rfl
    .rfl
   .exact(B2.2.2 g).elim
  .exact(B2.2.2 g).elim
def uY {a:Nat} (b:CF τ fr o h0 lo=.rd a) {k:Aa->Y->RR} (j:F9 τ call fr h o k kp=I outs):
 ∃v,∀(d:Y) (e g:Aa->Y->RR),d.t.get a=h.t.get a->F9 τ call fr d o e g=e v d:=by
 have n:(∀c,o≠.call c)->(∀B s,o≠.next B s)->(∀x,o≠.panic x)->(∃X:Y->Option Aa,(∀d,Ch τ fr d o=CN d (X d))/\∀d,d.t.get a=h.t.get a->X d=X h)->
  ∃v,∀(d:Y) (e g),d.t.get a=h.t.get a->F9 τ call fr d o e g=e v d:=by
  rintro p d q ⟨X,u,z⟩;rw[Gk p d q,u] at j;cases w:X h with
  |none=>rw[w] at j;cases j
  |some v=>
   refine⟨v,λJ e g f=>?_⟩;rw[Gk p d q,u,z J f,w];rfl
 unfold CF at b;cases y:Dj o with
 |true=>rw[y] at b;cases b
 |false=>
  rw[y] at b;simp[I0] at b;split at b
  .cases b
  .cases b
  .cases b
  .cases b
  .cases b
  .cases b
  .rename_i t x
   split at b
   .rename_i id off l
    cases b;refine n Jq Jq Jq ⟨λd=>Bw τ t d a off,λd=>?_,λd f=>?_⟩
    .simp[Ch,iH,l]
    .simp[Bw,f]
   .exact(B2.1 _ b).elim
  .rename_i t m x A
   split at b
   .rename_i r l
    cases A with
    |false=>cases b
    |true=>
    cases b;refine n Jq Jq Jq ⟨λd=>(match ev τ fr x with|I i=>BW τ t (.map (I a)) i Ag d|Z=>Z),λd=>?_,λd f=>?_⟩
    .simp[Ch,iH,l]
     cases ev τ fr x<;>rfl
    .simp[]
     split
     .simp[BW,f]
     .rfl
   .exact(B2.1 _ b).elim
  .split at b
   .exact(L4.1 _ b).elim
   .exact(B2.1 _ b).elim
  .split at b
   .cases b
   .cases b
   .exact(B2.1 _ b).elim
  .split at b
   .cases b
   .cases b
   .exact(B2.1 _ b).elim
  .exact(B2.1 _ b).elim
def I3 (τ:Bb) (t:Ai) (a:Nat) (c b:Option HB):Prop:=∀(x:Aa) (h J),h.t.get a=c->J.t.get a=b->BW τ t (.map (I a)) x Ah h=BW τ t (.map (I a)) x Ah J
def I3.refl (t:Ai) (a:Nat) (c:Option HB):I3 τ t a c c:=λx h J e b=>by simp[BW,e,b]
def I3.symm {a:Nat} {c b:Option HB} (h:I3 τ t a c b):I3 τ t a b c:=λx d f e g=>(h x f d g e).symm
def I3.trans {a:Nat} {c d f:Option HB} (h:I3 τ t a c d) (J:I3 τ t a d f):I3 τ t a c f:=λx g i e j=>by
 cases d with
 |none=>exact(h x g ⟨.nil,0,.no⟩ e B).trans (J x ⟨.nil,0,.no⟩ i B j)
 |some b=>exact(h x g ⟨T.nil.ins a b,0,.no⟩ e (T.ao b T.nil a)).trans (J x ⟨T.nil.ins a b,0,.no⟩ i (T.ao b T.nil a) j)
def vJ {a t:Nat} (b:CF τ fr o h0 lo=.lk a t) {k:Aa->Y->RR} (d:F9 τ call fr h o k kp=I outs):
 ∃v,∀(c:Y) (e f:Aa->Y->RR),I3 τ t a (c.t.get a) (h.t.get a)->F9 τ call fr c o e f=e v c:=by
 unfold CF at b;cases g:Dj o with
 |true=>rw[g] at b;cases b
 |false=>
  rw[g] at b;simp[I0] at b;split at b
  .cases b
  .cases b
  .cases b
  .cases b
  .cases b
  .cases b
  .split at b
   .cases b
   .exact(B2.2.1 _ _ b).elim
  .rename_i t m x n
   split at b
   .rename_i r p
    cases n with
    |true=>cases b
    |false=>
    cases b;have j:∀(c:Y) (e f),F9 τ call fr c (.lookup t m x Ah) e f=(match ev τ fr x with|I i=>(match BW τ t (.map (I a)) i Ah c with|I v=>e v c|Z=>Z)|Z=>Z):=by
     intro c e f;rw[Gk Jq Jq Jq];simp[Ch,iH,p];cases ev τ fr x with
     |none=>rfl
     |some i=>
      simp[];cases BW τ t (.map (I a)) i Ah c<;>rfl
    rw[j] at d;cases U:ev τ fr x with
    |none=>rw[U] at d;cases d
    |some i=>
     rw[U] at d;simp[] at d;cases l:BW τ t (.map (I a)) i Ah h with
     |none=>rw[l] at d;cases d
     |some v=>
      refine⟨v,λc e f q=>?_⟩;rw[j,U];simp[];rw[q i c h B B,l]
   .exact(B2.2.1 _ _ b).elim
  .split at b
   .exact(L4.2.1 _ _ b).elim
   .exact(B2.2.1 _ _ b).elim
  .split at b
   .cases b
   .cases b
   .exact(B2.2.1 _ _ b).elim
  .split at b
   .cases b
   .cases b
   .exact(B2.2.1 _ _ b).elim
  .exact(B2.2.1 _ _ b).elim
def L9 {b:Fr}:∀{l:List BU},(∀x∈l,ev τ fr x=ev τ b x)->O8 τ fr l=O8 τ b l
 |[],_=>rfl
 |x::l,h=>by
  simp[O8];rw[h x Av,L9 λy a=>h y (Az _ a)]
def M1 {b:Fr}:∀{l:List (Nat×BU)},(∀x∈l.map (·.2),ev τ fr x=ev τ b x)->Ql τ fr l=Ql τ b l
 |[],_=>rfl
 |(i,x)::l,h=>by
  simp[Ql];rw[h x Jq,M1 λy a=>h y Jq]
def Mf {x:Option BU} (h:∀y∈x,ev τ fr y=ev τ Ec y):ZK τ fr x=ZK τ Ec x:=by
 cases x with
 |none=>rfl
 |some x=>simp[ZK];rw[h x B]
def WR (d:∀x∈o.operands,ev τ fr x=ev τ Ec x):Ch τ fr h o=Ch τ Ec h o:=by
 cases o<;>simp only[Op.operands] at d<;>simp[Ch,iH]
 case build t ps=>rw[M1 λx f=>d x Jq]
 case buildSlice t n ps=>rw[M1 λx f=>d x Jq]
 case makeFunc fn a b=>
  rw[L9 λx f=>d x Jq,L9 λx f=>d x Jq]
 case makeMap t r=>rw[Mf λy e=>d y Jq]
 case slice t x lo U g=>
  rw[d x Jq,Mf λy e=>d y Jq,Mf λy e=>d y Jq,
   Mf λy e=>d y Jq]
 case pick c a b=>
  rw[d c Jq];split
  .rename_i t _;cases t
   .rw[Bm Jq,d b Jq]
   .rw[Bi B,d a Jq]
  .rfl
 all_goals first
  |rfl
  |(rename_i x y;rw[d x Jq,d y Jq];done)
  |simp_all
def L7 {k:Aa->Y->RR} (d:∀x∈o.operands,ev τ fr x=ev τ Ec x):F9 τ call fr h o k kp=F9 τ call Ec h o k kp:=by
 by_cases e:∃c,o=.call c
 .obtain⟨c,rfl⟩:=e
  simp[Op.operands] at d;simp[F9,Ju];rw[L9 λx l=>d x (by simp at l;simp[Call.operands,l])];cases a:c.callee with
  |builtin b=>rfl
  |invoke r n=>simp[];rw[d r (by simp[Call.operands,a])]
  |value f=>simp[];rw[d f (by simp[Call.operands,a])]
 by_cases g:∃m s,o=.next m s
 .obtain⟨m,s,rfl⟩:=g
  simp[F9];rw[d m (by simp[Op.operands])]
 by_cases j:∃x,o=.panic x
 .obtain⟨x,rfl⟩:=j
  simp[F9];rw[d x (by simp[Op.operands])]
 rw[Gk (λc a=>e ⟨c,a⟩) (λi s a=>g ⟨i,s,a⟩) (λx a=>j ⟨x,a⟩),Gk (λc a=>e ⟨c,a⟩) (λi s a=>g ⟨i,s,a⟩) (λx a=>j ⟨x,a⟩),WR d]
end
section
def Ren.cut (ρ a:Ren):Ren:=λid=>if(a id).isSome then ρ id else Z
def Ren.aN {a:Ren} {pl':Pl} (h:ρ id=I pl) (J:a id=I pl'):ρ.cut a id=I pl:=by simp[Ren.cut,h,J]
def Ren.bO (ρ a:Ren):(ρ.cut a).le ρ:=λid pl h=>by
 unfold Ren.cut at h;split at h
 .exact h
 .cases h
def Ren.O {b:Ren} (h:ρ.cut b id=I pl):ρ id=I pl/\∃pl',b id=I pl':=by
 unfold Ren.cut at h;split at h
 .rename_i a;exact⟨h,fP.1 a⟩
 .cases h
section
variable{ρ σ:Ren}
def Yw.cut {f a b:Fn} (h:Yw ρ f a) (J:Yw σ f b):Yw (ρ.cut σ) f a:=by
 cases h with
 |func f=>exact .func f
 |yield e=>cases J with|yield c=>exact .yield (Ren.aN e c)
mutual
def VR.cut {v p g:Aa} (h:VR ρ v p) (J:VR σ v g):VR (ρ.cut σ) v p:=
 match v,p,g,h,J with
 |_,_,_,.bool b,_=>.bool b
 |_,_,_,.int k n,_=>.int k n
 |_,_,_,.float k n,_=>.float k n
 |_,_,_,.complex k n m,_=>.complex k n m
 |_,_,_,.string s,_=>.string s
 |_,_,_,.bn,_=>.bn
 |_,_,_,.ptr e,.ptr d=>.ptr (Ren.aN e d)
 |_,_,_,.az l c,_=>.az l c
 |_,_,_,.slice e f,.slice d _=>.slice (Ren.aN e d) f
 |_,_,_,.bw,_=>.bw
 |_,_,_,.map e,.map d=>.map (Ren.aN e d)
 |_,_,_,.bj,_=>.bj
 |_,_,_,.func f a c,.func i a' j=>.func (f.cut i) (LR.cut a a') (LR.cut c j)
 |_,_,_,.nilFunc,_=>.nilFunc
 |_,_,_,.iface r,.iface o=>.iface (VR.cut r o)
 |_,_,_,.nilIface,_=>.nilIface
 |_,_,_,.agg l,.agg l'=>.agg (LR.cut l l')
 |_,_,_,.tuple l,.tuple l'=>.tuple (LR.cut l l')
def LR.cut {l l' c:AH} (h:LR ρ l l') (J:LR σ l c):LR (ρ.cut σ) l l':=
 match l,l',c,h,J with
 |_,_,_,.nil,_=>.nil
 |_,_,_,.cons a b,.cons a' d=>.cons (VR.cut a a') (LR.cut b d)
end
def ER.cut:∀{l l' d:List Ap},ER ρ l l'->ER σ l d->ER (ρ.cut σ) l l'
 |_,_,_,.nil,_=>.nil
 |_,_,_,.cons a b c r,.cons a' e _ f=>.cons (a.cut a') (b.cut e) c (r.cut f)
def BR.cut {pl':Pl} (h:BR P ρ pl w hb) (J:BR P σ pl' w' hb):BR P (ρ.cut σ) pl w hb:=by
 cases hb with
 |
  cells c n e lo U x=>
  obtain⟨C,u,f,g,j,k,l,o⟩:=h;obtain⟨O,Q,p,q,R,y,S,k6⟩:=J;exact⟨C,u,f,g,j,λi v e=>let⟨a,v',b,c⟩:=k i v e;let⟨_,_,_,z⟩:=y i v e;⟨a,v',b,c.cut z⟩,l,o⟩
 |
  map es T=>
  obtain⟨C3,f,g⟩:=h;obtain⟨_,_,q⟩:=J;exact⟨C3,f,g.cut q⟩
 |str s V=>exact h
 |
  ay m W seen X=>
  cases m with
  |none=>exact h
  |
   some m=>
   obtain⟨A,f,g,j⟩:=h;obtain⟨_,p,_,_⟩:=J;exact⟨A,Ren.aN f p,g,j⟩
 |
  loop st aa tm sz ps ab ad d=>
  obtain⟨L,f,g,j,k,l,o,r,D,E,F,H,K⟩:=h;obtain⟨_,_,_,_,_,_,_,M,_,_,_,k8,_⟩:=J;exact⟨L,f,g,j,k,l,o,⟨r.1,λi v e=>let⟨v',a,b⟩:=r.2 i v e;let⟨_,_,N⟩:=M.2 i v e;⟨v',a,b.cut N⟩⟩,D,E,F,Ren.aN H k8,K⟩
 |aq t=>exact h
 |dead=>trivial
end
section
variable{τ:Bb}
def Aab:∀(d n:Nat) (t:Ai) (x y:Aa),d<=n->Do τ d t x=Ag->Do τ d t y=Ag->∃b,IZ τ n t x y=I b:=by
 intro d
 induction d with
 |zero=>intro n t x y _ h;cases h
 |succ d z=>
  intro n t x y F j g;obtain⟨n,rfl⟩:∃m,n=m+1:=⟨n-1,G⟩;simp only[Do] at j;split at j
  .rename_i k k' a i
   simp only[Do,i] at g;split at g
   .rename_i H K b e
    cases e;have o:=Ly j;have s:=Ly g;subst o;subst s;exact⟨_,by simp[IZ,i];rfl⟩
   .rename_i e;cases e
   .rename_i e;cases e
   .rename_i e;cases e
   .cases g
  .rename_i a i
   simp only[Do,i] at g;split at g
   .rename_i e;cases e
   .exact⟨_,by simp[IZ,i];rfl⟩
   .rename_i e;cases e
   .rename_i e;cases e
   .cases g
  .rename_i a i
   simp only[Do,i] at g;split at g
   .rename_i e;cases e
   .rename_i e;cases e
   .exact⟨_,by simp[IZ,i];rfl⟩
   .rename_i e;cases e
   .cases g
  .rename_i M cs i
   simp only[Do,i] at g;split at g
   .rename_i e;cases e
   .rename_i e;cases e
   .rename_i e;cases e
   .rename_i L v e
    cases e;cases u:τ.f t with
    |false=>rw[u] at j;cases j
    |true=>
    rw[u] at j g;simp only[D1] at j g;simp only[IZ,i,u,D1];have J:∀l:List Field,(l.all (λf=>match Le τ f.type (aI cs) f.offset with|I p=>Do τ d f.type p|Z=>Ah))=Ag->
     (l.all (λf=>match Le τ f.type (aI v) f.offset with|I p=>Do τ d f.type p|Z=>Ah))=Ag->
     ∃b,l.foldr (λf r=>if f.name= "_" then r else match Le τ f.type (aI cs) f.offset,Le τ f.type (aI v) f.offset with
      |I a,I b=>(match IZ τ n f.type a b with|I Ag=>r|I Ah=>I Ah|Z=>Z)
      |_,_=>Z) (I Ag)=I b:=by
     intro l
     induction l with
     |nil=>intro _ _;exact⟨Ag,B⟩
     |cons f l A=>
      intro o s;simp only[Jh,An] at o s;let⟨b,hb⟩:=A o.2 s.2;rw[tJ,hb];by_cases w:f.name= "_"
      .rw[Bi w];exact⟨b,B⟩
      .rw[Bm w]
       have o:=o.1;have s:=s.1;split at o
       case h_2=>cases o
       rename_i p C;split at s
       case h_2=>cases s
       rename_i q D;let⟨c,E⟩:=z n f.type p q G o s;simp only[C,D,E];cases c
       .exact⟨Ah,B⟩
       .exact⟨b,B⟩
    exact J _ j g
   .cases g
  .cases j
def VO {kt:Ai} {k:Aa}:∀{es:List Ap} {j i:Nat} {e:Ap},CE τ kt k es j=I (I (i,e))->∃n,i=j+n/\es[n]?=I e
 |[],j,i,e,h=>by cases h
 |b::es,j,i,e,h=>by
  simp only[CE] at h;split at h
  .cases h;exact⟨0,B,B⟩
  .let⟨n,c,a⟩:=VO h
   exact⟨n+1,G,Jq⟩
  .cases h
def Rs {f:Ap->Ap}:∀{es:List Ap} {i:Nat} {e:Ap},es[i]?=I e->f e=e->Cu es i f=es
 |[],_,_,_,_=>rfl
 |b::es,0,e,h,a=>by cases h;simp[Cu,a]
 |b::es,i+1,e,h,a=>by simp at h;simp[Cu,Rs h a]
end
end
end
end
end Go.Ev
