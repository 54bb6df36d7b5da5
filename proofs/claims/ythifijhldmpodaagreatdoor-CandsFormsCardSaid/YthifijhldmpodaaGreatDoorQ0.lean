/-
  A part of the proof.
-/
import GoSem.Step
import Derived.KernelRfl
import Derived.Laws.Cells
import Derived.Laws.World
import Derived.OrdersIn
set_option linter.all false
open Bool renaming false->Ah,true->Ag,rec->B1,and_eq_true->An,or_eq_true->Dm
open Go renaming BinOp->CT,Code->DC,Deferred->Hh,Func->BC,FuncId->Au,IntKind->Cq,MapEntry->Ap,Oper->C0,Operand->BU,Program->AN,TypeDesc->Apj,TypeId->Ai,TypeInfo->KR,Value->Aa,World->AM
open Option renaming none->Z,some->I,rec->Jc
open Nat renaming rec->UE,div->Qe,beq->Am,mod->Zy,succ->A3,eq_of_beq_eq_true->Af,lt_succ_self->HL,ble->Ar,blt->AD,lt_trichotomy->FD,le_refl->Ae,lt_of_lt_of_le->AC,le_trans->Ao,lt_or_ge->A8,le_of_ble_eq_true->Ac,ble_eq_true_of_le->Aq,le_of_eq->A2,le_succ->Yr
open List renaming rec->Hg,length_cons->AO,getElem?_cons_succ->B5,all_cons->Jh
open Int renaming ofNat->AQ
open Go.Region renaming before->Df
namespace Go.Ev
noncomputable section
abbrev Bd:=ByteArray
abbrev Bl:=List UInt8
abbrev BZ:=List ByteArray
abbrev Bo:=List Nat
abbrev GX:=List ((Int×Int)×Int)
abbrev AH:=List Go.Value
def G {p:Prop} (h:p:=by omega):p:=h
def Jq {p:Prop} (h:p:=by first|omega|trivial|assumption|decide|grind):p:=h
def Gq {p:Prop} (h:p:=by grind):p:=h
def Kq {p:Prop} (h:p:=by kernel_rfl):p:=h
def B {α:Sort _} {a:α}:a=a:=rfl
def Bi {c:Prop} {_:Decidable c} (a:c) {α:Sort _} {t e:α}:ite c t e=t:=if_pos a
def Bm {c:Prop} {_:Decidable c} (a:¬c) {α:Sort _} {t e:α}:ite c t e=e:=if_neg a
def Cs {α:Sort _} {c:Sort _} {a b:α} (f:α->c) (h:a=b):f a=f b:=congrArg f h
def Cf {a b:Prop} (h:a) (k:¬a):b:=(k h).elim
def Fp {p:Prop} [Decidable p]:decide p=Ag->p:=of_decide_eq_true
def KK {p:Prop} [Decidable p]:decide p=Ah->¬p:=of_decide_eq_false
def D1 {α:Sort _} {a b:α}:cond Ag a b=a:=rfl
def I0 {α:Sort _} {a b:α}:cond Ah a b=b:=rfl
inductive T (α:Type) where
 |nil
 |node (l:T α) (v:Option α) (r:T α)
def T.get {α:Type} (t:T α):Nat->Option α:=
 T.rec (motive:=λ_=>Nat->Option α) (λ_=>Z) (λ_ v _ a b i=>
  UE (motive:=λ_=>Option α) v (λj _=>B1 (motive:=λ_=>Option α) (b (Qe j 2)) (a (Qe j 2)) (Am (Zy j 2) 0)) i) t
def T.single {α a:Type} (x:α) (f:Nat):Nat->(T α->a)->a:=
 UE (motive:=λ_=>Nat->(T α->a)->a) (λ_ k=>k .nil) (λ_ b i k=>
  UE (motive:=λ_=>a) (k (.node .nil (I x) .nil)) (λj _=>B1 (motive:=λ_=>a)
   (b (Qe j 2) (λr=>k (.node .nil Z r))) (b (Qe j 2) (λl=>k (.node l Z .nil))) (Am (Zy j 2) 0)) i) f
def T.set {α a:Type} (t:T α) (x:α):Nat->(T α->a)->a:=
 T.rec (motive:=λ_=>Nat->(T α->a)->a) (λi k=>T.single x (A3 i) i k) (λl v r b c i k=>
  UE (motive:=λ_=>a) (k (.node l (I x) r)) (λj _=>B1 (motive:=λ_=>a)
   (c (Qe j 2) (λd=>k (.node l v d))) (b (Qe j 2) (λl'=>k (.node l' v r))) (Am (Zy j 2) 0)) i) t
def T.ins {α:Type} (t:T α) (i:Nat) (x:α):T α:=t.set x i λt=>t
section
variable{α:Type}
def T.get_nil (i:Nat):(T.nil:T α).get i=none:=rfl
def T.aB (l r:T α) (v:Option α):(T.node l v r).get 0=v:=rfl
def T.au (l r:T α) (v:Option α) (j:Nat):(T.node l v r).get (j+1)=if j%2=0 then l.get (j/2) else r.get (j/2):=by
 show B1 (motive:=λ_=>Option α) (r.get (j/2)) (l.get (j/2)) (Am (j%2) 0)=_;by_cases h:j%2=0
 .rw[if_pos h,h];rfl
 .rw[if_neg h]
  have:Am (j%2) 0=false:=Bool.eq_false_iff.2 λe=>h (Af e);rw[this]
def T.bp (x:α):∀(f i:Nat) {a:Type} (k:T α->a),T.single x f i k=k (T.single x f i λt=>t):=by
 intro f
 induction f with
 |zero=>intro i a k;rfl
 |
  succ f b=>
  intro i a k;cases i with
  |zero=>rfl
  |
   succ j=>
   show B1 (motive:=λ_=>a) (T.single x f (j/2) _) (T.single x f (j/2) _) (Am (j%2) 0)=
    k (B1 (motive:=λ_=>T α) (T.single x f (j/2) _) (T.single x f (j/2) _) (Am (j%2) 0))
   cases Am (j%2) 0
   .show T.single x f (j/2) (λr=>k (.node .nil Z r))=k (T.single x f (j/2) λr=>.node .nil Z r)
    rw[b (j/2) (λr=>k (T.node .nil Z r)),b (j/2) (λr=>T.node .nil Z r)]
   .show T.single x f (j/2) (λr=>k (.node r Z .nil))=k (T.single x f (j/2) λr=>.node r Z .nil)
    rw[b (j/2) (λr=>k (T.node r Z .nil)),b (j/2) (λr=>T.node r Z .nil)]
def T.b9 (x:α):∀(t:T α) (i:Nat) {b:Type} (k:T α->b),t.set x i k=k (t.ins i x):=by
 intro t
 induction t with
 |nil=>intro i b k;exact T.bp x (i+1) i k
 |
  node l v r c d=>
  intro i b k;cases i with
  |zero=>rfl
  |
   succ j=>
   show B1 (motive:=λ_=>b) (r.set x (j/2) _) (l.set x (j/2) _) (Am (j%2) 0)=
    k (B1 (motive:=λ_=>T α) (r.set x (j/2) _) (l.set x (j/2) _) (Am (j%2) 0))
   cases Am (j%2) 0
   .show r.set x (j/2) (λa=>k (.node l v a))=k (r.set x (j/2) λa=>.node l v a)
    rw[d (j/2) (λa=>k (T.node l v a)),d (j/2) (λa=>T.node l v a)]
   .show l.set x (j/2) (λl'=>k (.node l' v r))=k (l.set x (j/2) λl'=>.node l' v r)
    rw[c (j/2) (λl'=>k (T.node l' v r)),c (j/2) (λl'=>T.node l' v r)]
def T.ch (l r:T α) (v:Option α) (x:α):(T.node l v r).ins 0 x=.node l (I x) r:=rfl
def T.cm (l r:T α) (v:Option α) (x:α) (j:Nat):
 (T.node l v r).ins (j+1) x=if j%2=0 then .node (l.ins (j/2) x) v r else .node l v (r.ins (j/2) x):=by
 show B1 (motive:=λ_=>T α) (r.set x (j/2) λa=>.node l v a) (l.set x (j/2) λl'=>.node l' v r) (Am (j%2) 0)=_;by_cases h:j%2=0
 .rw[if_pos h,h];exact T.b9 x l (j/2) _
 .rw[if_neg h]
  have:Am (j%2) 0=false:=Bool.eq_false_iff.2 λe=>h (Af e);rw[this];exact T.b9 x r (j/2) _
def T.bP (x:α) (f:Nat):T.single x (f+1) 0 (λt=>t)=.node .nil (I x) .nil:=rfl
def T.bS (x:α) (f j:Nat):T.single x (f+1) (j+1) (λt=>t)=
 if j%2=0 then .node (T.single x f (j/2) λt=>t) Z .nil else .node .nil Z (T.single x f (j/2) λt=>t):=by
 show B1 (motive:=λ_=>T α) (T.single x f (j/2) λr=>.node .nil Z r) (T.single x f (j/2) λl=>.node l Z .nil) (Am (j%2) 0)=_;by_cases h:j%2=0
 .rw[if_pos h,h];exact T.bp x f (j/2) _
 .rw[if_neg h]
  have:Am (j%2) 0=false:=Bool.eq_false_iff.2 λe=>h (Af e);rw[this];exact T.bp x f (j/2) _
def T.b5 (x:α):∀(f i j:Nat),i<f->(T.single x f i λt=>t).get j=if j=i then I x else none:=by
 intro f
 induction f with
 |zero=>intro i j h;omega
 |
  succ f b=>
  intro i j h;cases i with
  |
   zero=>
   rw[T.bP];cases j with
   |zero=>rfl
   |succ j=>rw[T.au,T.get_nil,ite_self,if_neg (by omega)]
  |
   succ i=>
   rw[T.bS];by_cases U:i%2=0
   .rw[if_pos U]
    cases j with
    |zero=>rw[T.aB,if_neg (by omega)]
    |
     succ j=>
     rw[T.au];by_cases a:j%2=0
     .rw[if_pos a,b (i/2) (j/2) (by omega)]
      by_cases e:j=i
      .rw[if_pos (by omega),if_pos (by omega)]
      .rw[if_neg (by omega),if_neg (by omega)]
     .rw[if_neg a,T.get_nil,if_neg (by omega)]
   .rw[if_neg U]
    cases j with
    |zero=>rw[T.aB,if_neg (by omega)]
    |
     succ j=>
     rw[T.au];by_cases a:j%2=0
     .rw[if_pos a,T.get_nil,if_neg (by omega)]
     .rw[if_neg a,b (i/2) (j/2) (by omega)]
      by_cases e:j=i
      .rw[if_pos (by omega),if_pos (by omega)]
      .rw[if_neg (by omega),if_neg (by omega)]
def T.dA (x:α):∀(t:T α) (i j:Nat),(t.ins i x).get j=if j=i then I x else t.get j:=by
 intro t
 induction t with
 |nil=>intro i j;exact T.b5 x (i+1) i j (HL i)
 |
  node l v r b d=>
  intro i j;cases i with
  |
   zero=>
   rw[T.ch];cases j with
   |zero=>rfl
   |succ j=>rw[T.au,T.au,if_neg (c:=j+1=0) (by omega)]
  |
   succ i=>
   rw[T.cm];by_cases U:i%2=0
   .rw[if_pos U]
    cases j with
    |zero=>rw[T.aB,T.aB,if_neg (by omega)]
    |
     succ j=>
     rw[T.au,T.au];by_cases a:j%2=0
     .rw[if_pos a,if_pos a,b]
      by_cases e:j=i
      .rw[if_pos (by omega),if_pos (by omega)]
      .rw[if_neg (by omega),if_neg (by omega)]
     .rw[if_neg a,if_neg a,if_neg (by omega)]
   .rw[if_neg U]
    cases j with
    |zero=>rw[T.aB,T.aB,if_neg (by omega)]
    |
     succ j=>
     rw[T.au,T.au];by_cases a:j%2=0
     .rw[if_pos a,if_pos a,if_neg (by omega)]
     .rw[if_neg a,if_neg a,d]
      by_cases e:j=i
      .rw[if_pos (by omega),if_pos (by omega)]
      .rw[if_neg (by omega),if_neg (by omega)]
def T.ao (x:α) (t:T α) (i:Nat):(t.ins i x).get i=I x:=by rw[T.dA,if_pos rfl]
def T.aP (x:α) (t:T α) {i j:Nat} (h:j≠i):(t.ins i x).get j=t.get j:=by rw[T.dA,if_neg h]
def T.laid (l:List α):Nat->T α->T α:=
 Hg (motive:=λ_=>Nat->T α->T α) (λ_ t=>t) (λx _ a i t=>t.set x i λb=>a (A3 i) b) l
def T.cn (i:Nat) (t:T α):T.laid [] i t=t:=rfl
def T.bC (x:α) (l:List α) (i:Nat) (t:T α):T.laid (x::l) i t=T.laid l (i+1) (t.ins i x):=by
 show t.set x i (λa=>T.laid l (i+1) a)=_;rw[T.b9]
def T.an:∀(l:List α) (i:Nat) (t:T α) (j:Nat),(T.laid l i t).get j=if i<=j/\j<i+l.length then l[j-i]? else t.get j:=by
 intro l
 induction l with
 |nil=>intro i t j;rw[T.cn,if_neg (by simp)]
 |
  cons x l a=>
  intro i t j;rw[T.bC,a];by_cases h:i<=j/\j<i+(x::l).length
  .rw[if_pos h]
   simp only[AO] at h;by_cases e:j=i
   .subst e;rw[if_neg (by omega),T.ao];simp
   .rw[if_pos (by omega)]
    obtain⟨d,rfl⟩:∃d,j=i+1+d:=⟨j-i-1,by omega⟩;rw[show i+1+d-(i+1)=d by omega,show i+1+d-i=d+1 by omega];rfl
  .rw[if_neg h]
   simp only[AO] at h;rw[if_neg (by omega),T.aP _ _ (by omega)]
end
def Mt {α:Type} (l:List α):List α×List α:=
 Hg (motive:=λ_=>List α×List α) ([],[]) (λx _ a=>(x::a.2,a.1)) l
def T.table {α:Type} (f:Nat):List α->T α:=
 UE (motive:=λ_=>List α->T α) (λ_=>.nil) (λ_ a l=>
  Hg (motive:=λ_=>T α) .nil (λx l _=>.node (a (Mt l).1) (I x) (a (Mt l).2)) l) f
def Tj {α:Type}:∀(l:List α) (i:Nat),(Mt l).1[i]?=l[2*i]?/\(Mt l).2[i]?=l[2*i+1]?:=by
 intro l
 induction l with
 |nil=>intro i;exact⟨by simp[Mt],by simp[Mt]⟩
 |
  cons x l a=>
  intro i;refine⟨?_,?_⟩
  .show(x::(Mt l).2)[i]?=_
   cases i with
   |zero=>rfl
   |
    succ i=>
    rw[B5,(a i).2,show 2*(i+1)=(2*i+1)+1 by omega,B5]
  .show(Mt l).1[i]?=_
   rw[(a i).1,B5]
def T.a2 {α:Type}:∀(f:Nat) (l:List α) (i:Nat) (x:α),(T.table f l).get i=I x->l[i]?=I x:=by
 intro f
 induction f with
 |zero=>intro l i x h;cases h
 |
  succ f a=>
  intro l i x h;cases l with
  |nil=>cases h
  |
   cons y l=>
   change (T.node (T.table f (Mt l).1) (I y) (T.table f (Mt l).2)).get i=I x at h;cases i with
   |zero=>rw[T.aB] at h;simpa using h
   |
    succ j=>
    rw[T.au] at h;rw[B5];by_cases b:j%2=0
    .rw[if_pos b] at h
     have:=a _ _ _ h;rw[(Tj l (j/2)).1] at this;rw[←this];congr 1;omega
    .rw[if_neg b] at h
     have:=a _ _ _ h;rw[(Tj l (j/2)).2] at this;rw[←this];congr 1;omega
inductive HB where
 |cells (c:T Aa) (n:Nat) (e:Ai) (lo U:Nat) (x:Bool)
 |map (es:List Ap) (ck:Nat)
 |str (s:Bd) (pos:Nat)
 |ay (m:Option Nat) (since:Nat) (seen:Bo) (last:Nat)
 |loop (st:LoopState) (pending:Option DC) (tm:T Aa) (sz:Nat) (params:List Tmp) (assign body:DC) (aq:Nat)
 |aq (taken:Bool)
 |dead
def HB.live:HB->Bool
 |.dead=>Ah
 |_=>Ag
inductive WS where
 |no
 |one (id:Nat)
 |rest (lo:Nat)
 |pair (b lo:Nat)
def WS.has:WS->Nat->Prop
 |.no,_=>False
 |.one b,i=>i=b
 |.rest lo,i=>lo<=i
 |.pair b lo,i=>i=b\/lo<=i
def WS.hasB:WS->Nat->Bool
 |.no,_=>Ah
 |.one b,i=>Am i b
 |.rest lo,i=>Ar lo i
 |.pair b lo,i=>Am i b||Ar lo i
instance:LE WS:=⟨λa b=>∀i,b.has i->a.has i⟩
def WS.ag (nx:Nat):WS->Bool
 |.no=>Ag
 |.one b=>Ar nx b
 |.rest lo=>Ar nx lo
 |.pair b lo=>Ar nx b&&Ar nx lo
structure Y where
 t:T HB
 nx:Nat
 lo:WS
inductive KS where
 |aU|indexByte|count|index|makeNoZero (e:Ai)
structure Bb where
 fn:T BC
 ds:T Apj
 aj:T KR
 ex:T KS
 bv:Ai->Bool
 ng:Nat
structure Fr where
 tm:T Aa
 sz:Nat
 ds:List Hh
def Gg (i j:Nat):Nat:=bif Ar i j then i else j
def Gf (s:WS) (i:Nat):WS:=match s with
 |.no=>.one i
 |.one b=>bif Am b i then .one b else bif Ar b i then .pair b i else .pair i b
 |.rest lo=>bif Ar lo i then .rest lo else .pair i lo
 |.pair b lo=>bif Am b i||Ar lo i then .pair b lo else bif Ar b i then .pair b i else .pair i (Gg b lo)
def Lr (s:WS) (j:Nat):WS:=match s with
 |.no=>.rest j
 |.one i=>bif Ar j i then .rest j else .pair i j
 |.rest i=>.rest (Gg i j)
 |.pair b lo=>.pair b (Gg lo j)
def Pf (s a:WS):WS:=match a with
 |.no=>s
 |.one i=>Gf s i
 |.rest j=>Lr s j
 |.pair b j=>Gf (Lr s j) b
def Y.low (h:Y) (i:Nat):WS:=Gf h.lo i
def Y.put (h:Y) (i:Nat) (b:HB):Y:=match h with|⟨t,nx,lo⟩=>⟨t.ins i b,nx,Gf lo i⟩
def Y.new (h:Y) (b:HB):Y:=match h with|⟨t,nx,lo⟩=>⟨t.ins nx b,A3 nx,lo⟩
def Y.ad (h:Y):Y:=match h with|⟨t,nx,_⟩=>⟨t,nx,.no⟩
def Y.aa (h J:Y):Y:=match h with|⟨_,_,lo⟩=>match J with|⟨t,nx,a⟩=>⟨t,nx,Pf lo a⟩
abbrev Jl:=Option (Aa×Y)
def AG (id off:Nat):Value:=.pointer (I ⟨id,off,Z⟩)
def AJ:Aa->AH
 |.agg cs=>cs.toList
 |v=>[v]
def one:Aa->Bool
 |.agg _|.tuple _=>Ah
 |_=>Ag
def plainCell:Aa->Bool
 |.bool _|.int _ _|.float _ _|.complex _ _ _|.string _|.pointer Z|.slice Z _ _|.map Z|.chan Z|.nilFunc|.nilIface=>Ag
 |_=>Ah
def DG:Aa->Bool
 |.agg cs=>cs.toList.all plainCell
 |.tuple cs=>cs.toList.all plainCell
 |.iface _ v=>plainCell v
 |v=>plainCell v
def ev (τ:Bb) (fr:Fr):BU->Option Aa
 |.tmp t=>fr.tm.get t
 |.const v=>bif DG v then I v else Z
 |.global g=>bif AD g τ.ng then I (AG g 0) else Z
 |.func f=>I (.func (.func f) #[] #[])
def O8 (τ:Bb) (fr:Fr):List BU->Option AH
 |[]=>I []
 |
  o::l=>match ev τ fr o,O8 τ fr l with
  |some v,I vs=>I (v::vs)
  |_,_=>Z
def DV (c:T Aa) (n:Nat):Nat->Option AH:=
 UE (motive:=λ_=>Nat->Option AH) (λ_=>I [])
  (λ_ a off=>match c.get off with
   |some v=>(match a (A3 off) with|some l=>I (v::l)|none=>Z)
   |none=>Z) n
def J5:Apj->Bool
 |.struct _|.array _ _=>Ag
 |_=>Ah
def Bw (τ:Bb) (t:Ai) (h:Y) (id off:Nat):Option Value:=
 match h.t.get id,τ.ds.get t with
 |some (.cells c _ _ _ _ _),I d=>bif J5 d then(match τ.aj.get t with
  |some i=>(match DV c i.size off with|some l=>I (.agg ⟨l⟩)|none=>Z)
  |none=>Z)
  else c.get off
 |_,_=>Z
def RP (n lo U off k:Nat):Bool:=Ar (off+k) n&&(Ar U lo||Ar (off+k) lo||Ar U off)
def Gi (h:Y) (id off:Nat) (vs:AH):Option Y:=
 match h.t.get id with
 |some (.cells c n e lo U x)=>bif RP n lo U off vs.length&&vs.all one then I (h.put id (.cells (T.laid vs off c) n e lo U x)) else Z
 |_=>Z
def BA (τ:Bb) (t:Ai) (h:Y) (id off:Nat) (v:Aa):Option Y:=
 match τ.aj.get t with
 |some i=>bif Am (AJ v).length i.size then Gi h id off (AJ v) else Z
 |none=>Z
def BN (h:Y) (e:Ai) (vs:AH):Y:=h.new (.cells (T.laid vs 0 .nil) vs.length e 0 0 Ag)
def HY (h:Y) (e:Ai) (vs:AH):Y:=h.new (.cells (T.laid vs 0 .nil) vs.length e 0 0 Ah)
def Le (τ:Bb) (t:Ai) (cs:AH) (off:Nat):Option Value:=
 match τ.ds.get t with
 |some d=>bif J5 d then(match τ.aj.get t with|some i=>I (.agg ⟨(cs.drop off).take i.size⟩)|none=>Z) else cs[off]?
 |none=>Z
def My:AH->Nat->AH->AH
 |cs,_,[]=>cs
 |cs,off,v::vs=>My (cs.set off v) (off+1) vs
def Jw (a:Nat->Option (Nat×Nat)):List (Nat×Aa)->AH->Option AH
 |[],cs=>I cs
 |
  (i,v)::rest,cs=>match a i with
  |none=>Z
  |some (off,b)=>bif Am (AJ v).length b&&Ar (off+b) cs.length&&(AJ v).all one then Jw a rest (My cs off (AJ v)) else Z
def Dy (z:AH):Nat->AH
 |0=>[]
 |n+1=>z++Dy z n
def Fs (v:Aa):Option Nat:=
 match v with
 |.int _ (.ofNat n)=>I n
 |_=>Z
def EY (l:Bl):Bd:=⟨⟨l⟩⟩
def Gp:Bl->Bl->Bool
 |[],[]=>Ag
 |a::l,b::m=>bif Am a.toNat b.toNat then Gp l m else Ah
 |_,_=>Ah
def KJ:Bl->Bl->Bool
 |_,[]=>Ah
 |[],_::_=>Ag
 |a::l,b::m=>bif AD a.toNat b.toNat then Ag else bif Am a.toNat b.toNat then KJ l m else Ah
def b1:Bl->Nat
 |[]=>0
 |b::_=>b.toNat
def ZN (a b c d:Nat):Nat×Nat:=
 bif AD a 128 then(a,1)
 else bif Am (a/32) 6&&Am (b/64) 2 then(bif Ar 128 ((a%32)*64+b%64) then((a%32)*64+b%64,2) else(65533,1))
 else bif Am (a/16) 14&&Am (b/64) 2&&Am (c/64) 2 then
  (bif Ar 2048 ((a%16)*4096+(b%64)*64+c%64)&&(AD ((a%16)*4096+(b%64)*64+c%64) 55296||Ar 57344 ((a%16)*4096+(b%64)*64+c%64)) then
   ((a%16)*4096+(b%64)*64+c%64,3) else(65533,1))
 else bif Am (a/8) 30&&Am (b/64) 2&&Am (c/64) 2&&Am (d/64) 2 then
  (bif Ar 65536 ((a%8)*262144+(b%64)*4096+(c%64)*64+d%64)&&Ar ((a%8)*262144+(b%64)*4096+(c%64)*64+d%64) 1114111 then
   ((a%8)*262144+(b%64)*4096+(c%64)*64+d%64,4) else(65533,1))
 else(65533,1)
def FF (l:Bl):Nat×Nat:=ZN (b1 l) (b1 (l.drop 1)) (b1 (l.drop 2)) (b1 (l.drop 3))
def CA:Nat->Bl->AH
 |0,_=>[]
 |_+1,[]=>[]
 |n+1,b::l=>.int .i32 (AQ (FF (b::l)).1)::CA n ((b::l).drop (FF (b::l)).2)
def IZ (τ:Bb):Nat->Ai->Aa->Aa->Option Bool
 |0,_,_,_=>Z
 |
  d+1,t,x,y=>
  match τ.ds.get t with
  |none=>Z
  |
   some c=>match c,x,y with
   |.bool,.bool a,.bool b=>I (a==b)
   |.int _,.int k a,.int k' b=>if k=k' then I (a==b) else Z
   |.string,.string a,.string b=>I (Gp a.data.toList b.data.toList)
   |.pointer _,.pointer Z,.pointer b=>I b.isNone
   |.pointer _,.pointer (I _),.pointer Z=>I Ah
   |.interface _,.nilIface,.iface _ _|.interface _,.iface _ _,.nilIface=>I Ah
   |.slice _,.slice Z _ _,.slice b _ _=>I b.isNone
   |.slice _,.slice (I _) _ _,.slice Z _ _=>I Ah
   |.map _ _,.map Z,.map b=>I b.isNone
   |.map _ _,.map (I _),.map Z=>I Ah
   |.func _ _ _,.nilFunc,.nilFunc=>I Ag
   |.func _ _ _,.nilFunc,.func _ _ _|.func _ _ _,.func _ _ _,.nilFunc=>I Ah
   |.struct DU,.agg xs,.agg ys=>bif τ.bv t then DU.toList.foldr (λf r=>
    if f.name= "_" then r else
    match Le τ f.type xs.toList f.offset,Le τ f.type ys.toList f.offset with
    |some a,I b=>(match IZ τ d f.type a b with|some Ag=>r|some Ah=>I Ah|none=>Z)
    |_,_=>Z) (I Ag) else Z
   |_,_,_=>Z
def CP (τ:Bb) (t:Ai):Option Value:=
 match τ.aj.get t with
 |some i=>(match i.zero with|some z=>bif DG z then I z else Z|none=>Z)
 |none=>Z
def Hn:Sem Aa->Option Aa
 |.pure v=>I v
 |_=>Z
def unB (op:UnOp):Aa->Option Aa
 |.int k n=>Hn (Op.unary op (.int k n))
 |.bool b=>Hn (Op.unary op (.bool b))
 |_=>Z
def If:BU->Bool
 |.const _=>Ag
 |_=>Ah
def I1 (k:Cq):Nat:=IntKind.rec 127 32767 2147483647 9223372036854775807 255 65535 4294967295 18446744073709551615 k
def Yz (k:Cq):Nat:=IntKind.rec 8 16 32 64 8 16 32 64 k
def Ld (k:Cq):Nat:=IntKind.rec 0 1 2 3 4 5 6 7 k
def O9 (k k':Cq):Bool:=Am (Ld k) (Ld k')
def ZO (k:Cq) (n:Nat):Option Value:=B1 Z (I (.int k (AQ n))) (Ar n (I1 k))
abbrev FI:=Cq->Nat->Nat->Option Aa
def Axe:FI:=λk x y=>ZO k (Nat.add x y)
def Ayz:FI:=λk x y=>B1 Z (ZO k (Nat.sub x y)) (Ar y x)
def Axb:FI:=λk x y=>ZO k (Nat.mul x y)
def Axv:FI:=λk x y=>B1 Z (ZO k (Qe x y)) (Ar 1 y)
def Ayc:FI:=λk x y=>B1 Z (I (.int k (AQ (Zy x y)))) (Ar 1 y)
def Ayw:FI:=λk x y=>B1 Z (B1 Z (I (.int k (AQ (Nat.land x y)))) (Ar y (I1 k))) (Ar x (I1 k))
def AEe:FI:=λk x y=>B1 Z (B1 Z (I (.int k (AQ (Nat.lor x y)))) (Ar y (I1 k))) (Ar x (I1 k))
def Azc:FI:=λk x y=>B1 Z (B1 Z (I (.int k (AQ (Nat.xor x y)))) (Ar y (I1 k))) (Ar x (I1 k))
def Eo:FI:=λ_ _ _=>Z
def Anh:FI:=λ_ x y=>I (.bool (Am x y))
def Aos:FI:=λ_ x y=>I (.bool (!(Am x y)))
def Anb:FI:=λ_ x y=>I (.bool (AD x y))
def Anm:FI:=λ_ x y=>I (.bool (Ar x y))
def Aof:FI:=λ_ x y=>I (.bool (AD y x))
def Aot:FI:=λ_ x y=>I (.bool (Ar y x))
def Vl (op:CT):FI:=BinOp.rec Axe Ayz Axb Axv Ayc Ayw AEe Azc Eo Eo Eo Anh Aos Anb Anm Aof Aot op
def shN (op:CT):FI:=BinOp.rec Eo Eo Eo Eo Eo Eo Eo Eo
 (λk x y=>B1 Z (I (.int k (AQ (Zy (Nat.shiftLeft x y) (A3 (I1 k)))))) (AD y (Yz k)&&Ar 4 (Ld k)))
 (λk x y=>B1 Z (I (.int k (AQ (Nat.shiftRight x y)))) (Ar y (Yz k))) Eo Eo Eo Eo Eo Eo Eo op
def IG {c:Type} (a b:Option c):Option c:=Jc b (λv=>I v) a
def Ajn (op:CT) (t:Ai) (k:Cq) (a:Int) (k':Cq) (b:Int):Option Value:=
 Int.rec (λx=>Int.rec
  (λy=>IG (IG (shN op k x y) (B1 Z (Vl op k x y) (O9 k k'))) (Hn (binOp op t (.int k (AQ x)) (.int k' (AQ y)))))
  (λy=>Hn (binOp op t (.int k (AQ x)) (.int k' (Int.negSucc y)))) b)
  (λx=>Hn (binOp op t (.int k (Int.negSucc x)) (.int k' b))) a
def Aqu (op:CT) (a b:Bl):Option Value:=
 match op with
 |.add=>bif Ar (a.length+b.length) 1099511627776 then I (.string (EY (a++b))) else Z
 |.eql=>I (.bool (Gp a b))
 |.neq=>I (.bool (!Gp a b))
 |.lss=>I (.bool (KJ a b))
 |.leq=>I (.bool (KJ a b||Gp a b))
 |.gtr=>I (.bool !(KJ a b||Gp a b))
 |.geq=>I (.bool !KJ a b)
 |_=>Z
def Jo (τ:Bb) (op:CT) (t:Ai) (ox oy:BU) (x y:Aa):Option Value:=
 match x,y with
 |.int k a,.int k' b=>Ajn op t k a k' b
 |.string a,.string b=>Aqu op a.data.toList b.data.toList
 |.nilIface,.nilIface=>bif If ox||If oy then(match τ.ds.get t,op with
  |some (.interface _),.eql=>I (.bool Ag)
  |some (.interface _),.neq=>I (.bool Ah)
  |_,_=>Z) else Z
 |.pointer (I a),.pointer (I b)=>(match τ.ds.get t,τ.aj.get t,op with
  |some (.pointer e),_,.eql=>(match τ.aj.get e with
   |some i=>bif Am a.block b.block&&!(Am i.size 0) then I (.bool (Am a.off b.off)) else Z
   |none=>Z)
  |some (.pointer e),_,.neq=>(match τ.aj.get e with
   |some i=>bif Am a.block b.block&&!(Am i.size 0) then I (.bool (!(Am a.off b.off))) else Z
   |none=>Z)
  |_,_,_=>Z)
 |
  x,y=>match op with
  |.eql=>(match IZ τ Op.maxDepth t x y with|some b=>I (.bool b)|none=>Z)
  |.neq=>(match IZ τ Op.maxDepth t x y with|some b=>I (.bool (!b))|none=>Z)
  |_=>Z
def G7:AH->Option Bl
 |[]=>I []
 |.int .u8 n::l=>(match G7 l with|some bs=>I (UInt8.ofNat n.toNat::bs)|none=>Z)
 |_::_=>Z
def FU:AH->Option Bl
 |[]=>I []
 |.int .i32 n::l=>(match FU l with|some bs=>I ((Utf8.encode n).data.toList++bs)|none=>Z)
 |_::_=>Z
def Gv (τ:Bb) (e:Ai):Bool:=
 match τ.aj.get e with
 |some i=>Am i.size 1
 |none=>Ah
def Ea (τ:Bb) (src d:Ai) (x:Aa) (h:Y):Jl:=
 match τ.ds.get src,τ.ds.get d with
 |
  some f,I g=>match f,g,x with
  |_,.int k,.int _ n=>I (.int k (k.wrap n),h)
  |_,.string,.int _ n=>I (.string (Utf8.encode n),h)
  |_,.string,.string s=>I (.string s,h)
  |_,.slice e,.string s=>bif Gv τ e then(match τ.ds.get e with
   |some (.int .u8)=>I (.slice (I ⟨h.nx,0,Z⟩) s.size s.size,h.new (.cells (T.laid (s.data.toList.map λb=>.int .u8 b.toNat) 0 .nil) s.size e 1 0 Ah))
   |
    some (.int .i32)=>
    let l:=CA s.size s.data.toList
    I (.slice (I ⟨h.nx,0,Z⟩) l.length l.length,h.new (.cells (T.laid l 0 .nil) l.length e 0 0 Ah))
   |_=>Z) else Z
  |.slice e,.string,.slice Z _ _=>(match τ.ds.get e with
   |some (.int .u8)=>I (.string .empty,h)
   |some (.int .i32)=>I (.string .empty,h)
   |_=>Z)
  |.slice e,.string,.slice (I a) len _=>(match τ.ds.get e,h.t.get a.block with
   |some (.int .u8),I (.cells c _ _ _ _ _)=>(match DV c len a.off with
    |some l=>(match G7 l with|some bs=>I (.string ⟨⟨bs⟩⟩,h)|none=>Z)
    |none=>Z)
   |some (.int .i32),I (.cells c _ _ _ _ _)=>(match DV c len a.off with
    |some l=>(match FU l with|some bs=>I (.string ⟨⟨bs⟩⟩,h)|none=>Z)
    |none=>Z)
   |_,_=>Z)
  |.slice _,.slice e,.slice (I a) len cap=>bif Am src d then(match τ.ds.get e,h.t.get a.block with
   |some (.int .u8),I (.cells c n el 0 0 x)=>I (.slice (I a) len cap,h.put a.block (.cells c n el 1 0 x))
   |_,_=>Z) else Z
  |.pointer t,.unsafePointer,.pointer (I ⟨id,off,Z⟩)=>(match τ.aj.get t,h.t.get id with
   |some i,I (.cells _ n _ _ _ _)=>bif !(Am i.size 0)&&AD off n then I (AG id off,h) else Z
   |_,_=>Z)
  |.unsafePointer,.pointer u,.pointer (I ⟨id,off,Z⟩)=>(match τ.aj.get u,h.t.get id with
   |some i,I (.cells _ n e _ _ Ag)=>bif Am u e&&!(Am i.size 0)&&Am (off%i.size) 0&&Ar (off+i.size) n then I (AG id off,h) else Z
   |_,_=>Z)
  |_,_,_=>Z
 |_,_=>Z
def EE (τ:Bb) (t:Ai) (x c:Aa):Option Value:=
 match τ.ds.get t,x,Fs c with
 |some (.slice e),.slice (I a) len _,I i=>(match τ.aj.get e with
  |some b=>bif AD i len then I (AG a.block (a.off+i*b.size)) else Z
  |none=>Z)
 |some (.array len e),.pointer (I ⟨id,off,Z⟩),I i=>(match τ.aj.get e with
  |some b=>bif AD i len then I (AG id (off+i*b.size)) else Z
  |none=>Z)
 |_,_,_=>Z
def I8 (τ:Bb) (t:Ai) (x a:Aa):Option Value:=
 match τ.ds.get t,x,Fs a with
 |some (.array len e),.agg cs,I i=>(match τ.aj.get e with
  |some c=>bif AD i len then Le τ e cs.toList (i*c.size) else Z
  |none=>Z)
 |some .string,.string s,I i=>(match s.data.toList[i]? with|some b=>I (.int .u8 b.toNat)|none=>Z)
 |_,_,_=>Z
def Qd (τ:Bb) (t:Ai) (x:Aa):Option Value:=
 match τ.ds.get t,x with
 |some (.array n _),.slice (I a) len _=>bif Ar n len&&AD 0 n then I (AG a.block a.off) else Z
 |_,_=>Z
def GM (τ:Bb) (s:Ai) (x:Aa) (f:Nat):Option Value:=
 match τ.ds.get s,x with
 |some (.struct DU),.pointer (I ⟨id,off,Z⟩)=>(match DU.toList[f]? with
  |some a=>(match τ.aj.get a.type with
   |some i=>bif Am i.size 0 then Z else I (AG id (off+a.offset))
   |none=>Z)
  |none=>Z)
 |_,_=>Z
def TM (τ:Bb) (t:Ai) (x:Aa) (f:Nat):Option Value:=
 match τ.ds.get t,x with
 |some (.struct DU),.agg cs=>(match DU.toList[f]? with
  |some a=>Le τ a.type cs.toList a.offset
  |none=>Z)
 |_,_=>Z
def RO (d:Nat):Option Aa->Option Nat
 |none=>I d
 |some v=>Fs v
def C7 (τ:Bb) (t:Ai) (x:Aa) (lo U c:Option Aa):Option Value:=
 match τ.ds.get t with
 |none=>Z
 |
  some d=>match d,x,c with
  |.string,.string s,Z=>(match RO 0 lo,RO s.size U with
   |some l,I h=>bif Ar l h&&Ar h s.size then I (.string (EY ((s.data.toList.drop l).take (h-l)))) else Z
   |_,_=>Z)
  |.slice e,.slice (I a) len cap,Z=>(match RO 0 lo,RO len U,τ.aj.get e with
   |some l,I h,I i=>bif Ar l h&&Ar h cap then I (.slice (I ⟨a.block,a.off+l*i.size,a.spot⟩) (h-l) (cap-l)) else Z
   |_,_,_=>Z)
  |.slice e,.slice (I a) _ cap,I m'=>(match RO 0 lo,U,Fs m',τ.aj.get e with
   |some l,I b,I m,I i=>(match Fs b with
    |some h=>bif Ar l h&&Ar h m&&Ar m cap then I (.slice (I ⟨a.block,a.off+l*i.size,I 0⟩) (h-l) (m-l)) else Z
    |none=>Z)
   |_,_,_,_=>Z)
  |.slice e,.slice Z 0 0,Z=>(match RO 0 lo,RO 0 U,τ.aj.get e with
   |some 0,I 0,I _=>I (.slice Z 0 0)
   |_,_,_=>Z)
  |.slice e,.slice Z 0 0,I m'=>(match RO 0 lo,U,Fs m',τ.aj.get e with
   |
    some 0,I b,I 0,I _=>(match Fs b with
    |some 0=>I (.slice Z 0 0)
    |_=>Z)
   |_,_,_,_=>Z)
  |.array n e,.pointer (I ⟨id,off,Z⟩),Z=>(match RO 0 lo,RO n U,τ.aj.get e with
   |some l,I h,I i=>bif Ar l h&&Ar h n then I (.slice (I ⟨id,off+l*i.size,I 0⟩) (h-l) (n-l)) else Z
   |_,_,_=>Z)
  |_,_,_=>Z
def E3 (n:Nat):Bool:=Ar n 1099511627776
def Tx (n b:Nat):Bool:=Ar ((n+n/4+192)*b) 281474976710656&&Ar n 70368744177664
def Dk (τ:Bb) (t:Ai) (l c:Aa) (h:Y):Jl:=
 match τ.ds.get t,Fs l,Fs c with
 |some (.slice e),I l,I c=>(match τ.aj.get e,CP τ e with
  |some i,I z=>bif Ar l c&&E3 (c*i.bytes)&&E3 c&&AD 0 i.size&&Am (AJ z).length i.size then
   I (.slice (I ⟨h.nx,0,Z⟩) l c,BN h e (Dy (AJ z) c)) else Z
  |_,_=>Z)
 |_,_,_=>Z
def MN (d:Nat) (h:Y):Aa->Nat->Option AH
 |.slice Z _ _,0=>I []
 |.slice (I a) _ _,n=>(match h.t.get a.block with
  |some (.cells c _ _ _ _ _)=>DV c (n*d) a.off
  |_=>Z)
 |.string s,n=>bif Am d 1 then I ((s.data.toList.take n).map λb=>.int .u8 b.toNat) else Z
 |_,_=>Z
def MM:Aa->Option Nat
 |.slice Z 0 0=>I 0
 |.slice (I _) n _=>I n
 |.string s=>I s.size
 |_=>Z
def MU (τ:Bb) (t:Option Ai):Bool:=
 match t with
 |none=>Ah
 |some t=>(match τ.ds.get t with|some (.int _)=>Ag|some _=>Ah|none=>Ag)
def Gj (τ:Bb) (d:List Ai) (vs:AH) (h:Y):Jl:=
 match d,vs with
 |
  st::d,[s,x]=>bif MU τ d.head? then Z else(match τ.ds.get st with
  |
   some (.slice e)=>(match τ.aj.get e,MM x,CP τ e with
   |
    some i,I n,I z=>(match MN i.size h x n with
    |
     some b=>bif AD 0 i.size&&b.all one&&Am (AJ z).length i.size&&(AJ z).all one then(match s with
     |.slice Z 0 0=>bif Am n 0 then I (.slice Z 0 0,h) else
      bif E3 (n*i.bytes)&&E3 n then I (.slice (I ⟨h.nx,0,Z⟩) n n,HY h e b) else Z
     |.slice (I a) len cap=>bif Ar (len+n) cap then
      (match Gi h a.block (a.off+len*i.size) b with
       |some J=>bif Am n 0 then I (.slice (I a) len cap,h) else I (.slice (I a) (len+n) cap,J)
       |none=>Z)
      else bif Tx (len+n) i.bytes then(match h.t.get a.block with
       |
        some (.cells c m f lo U _)=>bif Am e f then(match DV c (len*i.size) a.off with
        |
         some old=>(match a.spot with
         |some _=>I (.slice (I ⟨h.nx,0,Z⟩) (len+n) (len+n),HY h e (old++b))
         |none=>bif Am (a.off+cap*i.size) m&&(Ar U lo||(Ar a.off lo&&Ar U (a.off+len*i.size))) then
          I (.slice (I ⟨h.nx,0,Z⟩) (len+n) (len+n),
           (h.put a.block .dead).new (.cells (T.laid (old++b) 0 .nil) (old++b).length e (bif Ar U lo then lo else lo-a.off) (bif Ar U lo then U else U-a.off) Ah))
          else Z)
        |none=>Z) else Z
       |_=>Z) else Z
     |_=>Z) else Z
    |none=>Z)
   |_,_,_=>Z)
  |_=>Z)
 |_,_=>Z
def U8 (τ:Bb) (f:List Ai) (vs:AH) (h:Y):Jl:=
 match f,vs with
 |
  g::_,[d,s]=>(match τ.ds.get g with
  |
   some (.slice e)=>(match τ.aj.get e,MM d,MM s with
   |
    some i,I b,I c=>(match MN i.size h s (min c b) with
    |
     some cs=>(match d with
     |.slice Z _ _=>I (.int .i64 0,h)
     |
      .slice (I a) _ _=>bif cs.isEmpty then I (.int .i64 (AQ (min c b)),h) else(match Gi h a.block a.off cs with
      |some J=>I (.int .i64 (AQ (min c b)),J)
      |none=>Z)
     |_=>Z)
    |none=>Z)
   |_,_,_=>Z)
  |_=>Z)
 |_,_=>Z
def I7 (τ:Bb) (a:List Ai) (vs:AH) (h:Y):Option Value:=
 match a,vs with
 |
  t::_,x::_=>(match τ.ds.get t with
  |none=>Z
  |
   some b=>(match b,x with
   |.string,.string s=>I (.int .i64 (AQ s.size))
   |.array n _,_=>I (.int .i64 (AQ n))
   |.slice _,.slice _ n _=>I (.int .i64 (AQ n))
   |.map _ _,.map Z=>I (.int .i64 0)
   |
    .map _ _,.map (I r)=>(match h.t.get r with
    |some (.map es _)=>I (.int .i64 (AQ es.length))
    |_=>Z)
   |_,_=>Z))
 |_,_=>Z
def Oy (f:Aa->Aa->Option Aa):AH->Aa->Option Aa
 |[],x=>I x
 |y::l,x=>match f x y with|some z=>Oy f l z|none=>Z
def YP:Aa->Aa->Option Aa
 |.int k x,.int _ y=>I (.int k (if y<x then y else x))
 |_,_=>Z
def YL:Aa->Aa->Option Aa
 |.int k x,.int _ y=>I (.int k (if y>x then y else x))
 |_,_=>Z
def Do (τ:Bb):Nat->Ai->Aa->Bool
 |0,_,_=>Ah
 |
  d+1,t,v=>match τ.ds.get t,v with
  |some (.int k),.int k' _=>O9 k k'
  |some .string,.string _|some .bool,.bool _=>Ag
  |
   some (.struct DU),.agg cs=>bif τ.bv t then DU.toList.all (λf=>match Le τ f.type cs.toList f.offset with
   |some p=>Do τ d f.type p
   |none=>Ah) else Ah
  |_,_=>Ah
def HS:Aa->Aa->Bool
 |.bool a,.bool b=>a==b
 |.int j a,.int k b=>O9 j k&&decide (a=b)
 |.string a,.string b=>Gp a.data.toList b.data.toList
 |.pointer Z,.pointer Z=>Ag
 |_,_=>Ah
def Dv:AH->AH->Bool
 |[],[]=>Ag
 |a::l,b::m=>HS a b&&Dv l m
 |_,_=>Ah
def Cy:Aa->Aa->Bool
 |.agg a,.agg b=>Dv a.toList b.toList
 |a,b=>HS a b
def CE (τ:Bb) (kt:Ai) (k:Aa):List Ap->Nat->Option (Option (Nat×Ap))
 |[],_=>I Z
 |
  e::es,i=>match IZ τ Op.maxDepth kt k e.key with
  |some Ag=>I (I (i,e))
  |some Ah=>CE τ kt k es (i+1)
  |none=>Z
def Cu (l:List Ap) (i:Nat) (f:Ap->Ap):List MapEntry:=
 match l,i with
 |[],_=>[]
 |e::es,0=>f e::es
 |e::es,i+1=>e::Cu es i f
def BW (τ:Bb) (t:Ai) (x a:Aa) (c:Bool) (h:Y):Option Value:=
 match τ.ds.get t with
 |some (.map kt et)=>bif Do τ 5 kt a then
  (
   let Da (v:Aa) (b:Bool):Value:=if c then .tuple #[v,.bool b] else v
   match x with
   |.map Z=>(match CP τ et with|some z=>I (Da z Ah)|none=>Z)
   |.map (I r)=>(match h.t.get r with
    |
     some (.map es _)=>(match CE τ kt a es 0 with
     |some (I (_,e))=>I (Da e.val Ag)
     |some Z=>(match CP τ et with|some z=>I (Da z Ah)|none=>Z)
     |none=>Z)
    |_=>Z)
   |_=>Z) else Z
 |_=>Z
def BH (τ:Bb) (t:Ai) (m k v:Aa) (h:Y):Option Y:=
 match τ.ds.get t,m with
 |some (.map kt _),.map (I r)=>bif Do τ 5 kt k then(match h.t.get r with
  |
   some (.map es a)=>(match CE τ kt k es 0 with
   |some (I (i,e))=>bif Cy e.key k then I (h.put r (.map (Cu es i λe=>{e with key:=k,val:=v}) a)) else Z
   |some Z=>I (h.put r (.map (es++[{key:=k,val:=v,born:=a}]) (a+1)))
   |none=>Z)
  |_=>Z) else Z
 |_,_=>Z
def D6 (τ:Bb) (t:Ai) (m k:Aa) (h:Y):Jl:=
 match τ.ds.get t,m with
 |some (.map kt et),.map (I r)=>bif Do τ 5 kt k then(match h.t.get r with
  |
   some (.map es a)=>(match CE τ kt k es 0 with
   |some (I (i,e))=>bif Cy e.key k then
    I (.tuple #[e.val,.int .i64 (AQ e.born)],h.put r (.map (Cu es i λe=>{e with key:=k}) a)) else Z
   |
    some Z=>(match CP τ et with
    |some z=>I (.tuple #[z,.int .i64 (AQ a)],h.put r (.map (es++[{key:=k,val:=z,born:=a}]) (a+1)))
    |none=>Z)
   |none=>Z)
  |_=>Z) else Z
 |_,_=>Z
def Fx (n:Nat):List Ap->Nat->Option Nat
 |[],_=>Z
 |e::es,i=>bif Am e.born n then I i else Fx n es (i+1)
def DM (m a v:Aa) (h:Y):Option Y:=
 match m,Fs a with
 |.map (I r),I n=>(match h.t.get r with
  |
   some (.map es b)=>(match Fx n es 0 with
   |some i=>I (h.put r (.map (Cu es i λe=>{e with val:=v}) b))
   |none=>Z)
  |_=>Z)
 |_,_=>Z
def II (τ:Bb) (b:List Ai) (vs:AH) (h:Y):Option Y:=
 match b,vs with
 |
  t::_,[m,k]=>(match τ.ds.get t,m with
  |some (.map kt _),.map Z=>bif Do τ 5 kt k then I h else Z
  |
   some (.map kt _),.map (I r)=>bif Do τ 5 kt k then(match h.t.get r with
   |
    some (.map es a)=>(match CE τ kt k es 0 with
    |some (I (i,_))=>I (h.put r (.map (es.eraseIdx i) a))
    |some Z=>I (h.put r (.map es a))
    |none=>Z)
   |_=>Z) else Z
  |_,_=>Z)
 |_,_=>Z
def Gh (τ:Bb) (t:Ai) (x:Aa) (h:Y):Jl:=
 match τ.ds.get t with
 |none=>Z
 |
  some b=>match b,x with
  |.string,.string s=>I (AG h.nx 0,h.new (.str s 0))
  |.map _ _,.map Z=>I (AG h.nx 0,h.new (.ay Z 0 [] 0))
  |
   .map _ _,.map (I m)=>(match h.t.get m with
   |some (.map _ a)=>I (AG h.nx 0,h.new (.ay (I m) a [] a))
   |_=>Z)
  |_,_=>Z
def FT (c:Aa) (Fh:Bool) (h:Y):Option (List (Aa×Y)):=
 match c with
 |
  .pointer (I ⟨r,0,Z⟩)=>(match h.t.get r,Fh with
  |some (.str s a),Ag=>bif AD a s.size then
   I [(.tuple #[.bool Ag,.int .i64 (AQ a),.int .i32 (AQ (FF (s.data.toList.drop a)).1)],h.put r (.str s (a+(FF (s.data.toList.drop a)).2)))]
   else I [(.tuple #[.bool Ah],h)]
  |some (.ay Z _ _ _),Ah=>I [(.tuple #[.bool Ah],h)]
  |
   some (.ay (I m) b seen d),Ah=>(match h.t.get m with
   |
    some (.map es f)=>bif !seen.isEmpty&&!es.isEmpty&&es.all (λe=>Ar d e.born) then Z else
    bif es.all (λe=>AD e.born b) then(match es.filter (λe=>!seen.contains e.born) with
     |[]=>I [(.tuple #[.bool Ah],h)]
     |l=>I (l.map λe=>(.tuple #[.bool Ag,e.key,e.val],h.put r (.ay (I m) b (seen++[e.born]) f)))) else Z
   |_=>Z)
  |_,_=>Z)
 |_=>Z
def Ou (a:Aa) (h:Y):Option Value:=
 match a with
 |
  .pointer (I ⟨r,0,Z⟩)=>(match h.t.get r with
  |
   some (.ay (I m) _ seen b)=>(match seen.getLast?,h.t.get m with
   |
    some st,I (.map es c)=>bif Am c b then(match es.find? (λe=>e.born==st) with
    |some e=>I (.tuple #[e.key,e.val])
    |none=>Z) else Z
   |_,_=>Z)
  |_=>Z)
 |_=>Z
def P8 (τ:Bb) (x:Aa) (b:Ai) (c:Bool):Option Value:=
 let a:Option Value:=bif c then(match CP τ b with|some z=>I (.tuple #[z,.bool Ah])|none=>Z) else Z
 let d (v:Aa):Option Value:=I (if c then .tuple #[v,.bool Ag] else v)
 match τ.ds.get b with
 |none=>Z
 |
  some e=>match e,x with
  |.interface _,.nilIface=>a
  |
   .interface f,.iface t v=>(match τ.aj.get t with
   |
    some i=>(match Instr.missingMethod f i.methods with
    |none=>d (.iface t v)
    |some _=>a)
   |none=>Z)
  |_,.nilIface=>a
  |_,.iface t v=>if t=b then d v else a
  |_,_=>Z
def No (τ:Bb) (h:Y) (t:Ai) (v:Aa) (a:String):Option (Au×Aa):=
 match τ.aj.get t,τ.ds.get t with
 |
  some i,I b=>(match i.methods.find? (·.name==a) with
  |
   some m=>bif m.path.isEmpty then(match m.func,b with
   |some (f,Ag),.pointer _=>I (f,v)
   |
    some (f,Ah),.pointer e=>(match v with
    |.pointer (I ⟨id,off,Z⟩)=>(match Bw τ e h id off with|some r=>I (f,r)|none=>Z)
    |_=>Z)
   |some (f,Ah),_=>I (f,v)
   |_,_=>Z) else Z
  |none=>Z)
 |_,_=>Z
def R6 (τ:Bb) (e:KS) (vs:AH) (h:Y):Jl:=
 match e,vs with
 |.aU,[x]=>I (x,h)
 |.indexByte,[.string s,.int .u8 c]=>
  (match s.data.toList.findIdx? (·==UInt8.ofNat c.toNat) with
   |some i=>I (.int .i64 (AQ i),h)
   |none=>I (.int .i64 (-1),h))
 |.count,[.string s,.int .u8 c]=>I (.int .i64 (AQ (s.data.toList.foldl (λn x=>if x==UInt8.ofNat c.toNat then n+1 else n) 0)),h)
 |.makeNoZero e,[.int .i64 (.ofNat n)]=>bif E3 n then I (.slice (I ⟨h.nx,0,Z⟩) n n,h.new (.cells .nil n e 0 0 Ah)) else Z
 |_,_=>Z
def LA (τ:Bb) (a:List Ai) (vs:AH) (h:Y):Jl:=
 match a,vs with
 |
  st::t2::_,[.slice Z 0 0,.int .i64 (.ofNat n)]=>(match τ.ds.get t2,τ.ds.get st with
  |
   some (.int _),I (.slice e)=>(match τ.aj.get e,CP τ e with
   |some i,I z=>bif AD 0 n&&E3 (n*i.bytes)&&E3 n&&AD 0 i.size&&Am (AJ z).length i.size then I (.slice (I ⟨h.nx,0,Z⟩) n n,HY h e (Dy (AJ z) n)) else Z
   |_,_=>Z)
  |_,_=>Z)
 |_,_=>Z
def ZM (τ:Bb) (a:List Ai) (vs:AH):Option Value:=
 match a,vs with
 |
  t::_,x::_=>(match τ.ds.get t,x with
  |some (.slice _),.slice Z _ n=>I (.int .i64 (AQ n))
  |some (.slice _),.slice (I ⟨_,_,I _⟩) _ n=>I (.int .i64 (AQ n))
  |some (.array n _),_=>I (.int .i64 (AQ n))
  |_,_=>Z)
 |_,_=>Z
def EP (τ:Bb) (b:List Ai) (vs:AH) (h:Y):Jl:=
 match b,vs with
 |a::_,[.pointer Z,.int _ 0]=>I (.string .empty,h)
 |
  a::_,[.pointer (I ⟨id,off,Z⟩),.int _ (.ofNat n)]=>
  bif Am n 0 then I (.string .empty,h) else bif E3 n then
  (match τ.ds.get a,h.t.get id with
   |
    some (.pointer u),I (.cells c m e lo U x)=>bif Am u e&&!(Am lo 1&&Am U 0)&&Ar (off+n) m then
    (match τ.ds.get e,τ.aj.get e,DV c n off with
     |
      some (.int .u8),I i,I l=>(match G7 l with
      |some bs=>bif Am i.size 1 then I (.string ⟨⟨bs⟩⟩,h.put id (.cells c m e (bif Ar U lo then off else min lo off) (bif Ar U lo then off+n else max U (off+n)) x)) else Z
      |none=>Z)
     |_,_,_=>Z) else Z
   |_,_=>Z) else Z
 |_,_=>Z
def Fg:AH->Option Aa
 |[.slice Z _ _]=>I (.pointer Z)
 |[.slice (I ⟨id,off,_⟩) _ c]=>bif Am c 0 then Z else I (.pointer (I ⟨id,off,Z⟩))
 |_=>Z
def QQ (τ:Bb) (b:List Ai) (vs:AH) (h:Y):Option Y:=
 match b,vs with
 |
  t::_,[x]=>(match τ.ds.get t,x with
  |some (.slice _),.slice Z _ _=>I h
  |some (.slice _),.slice (I _) 0 _=>I h
  |
   some (.slice e),.slice (I a) (n+1) _=>(match τ.aj.get e,CP τ e with
   |some i,I z=>bif Am (AJ z).length i.size&&AD 0 i.size then Gi h a.block a.off (Dy (AJ z) (n+1)) else Z
   |_,_=>Z)
  |some (.map _ _),.map Z=>I h
  |
   some (.map _ _),.map (I r)=>(match h.t.get r with
   |some (.map _ c)=>I (h.put r (.map [] c))
   |_=>Z)
  |_,_=>Z)
 |_,_=>Z
def Bx (τ:Bb) (b:Builtin) (a:List Ai) (vs:AH) (h:Y):Jl:=
 match b with
 |.append=>(match Gj τ a vs h with|some r=>I r|none=>LA τ a vs h)
 |.cap=>(match ZM τ a vs with|some v=>I (v,h)|none=>Z)
 |.unsafeString=>EP τ a vs h
 |.unsafeSliceData=>(match Fg vs with|some v=>I (v,h)|none=>Z)
 |.len=>(match I7 τ a vs h with|some v=>I (v,h)|none=>Z)
 |.copy=>U8 τ a vs h
 |.min=>(match vs with|x::l=>(match Oy YP l x with|some v=>I (v,h)|none=>Z)|[]=>Z)
 |.max=>(match vs with|x::l=>(match Oy YL l x with|some v=>I (v,h)|none=>Z)|[]=>Z)
 |.clear=>(match QQ τ a vs h with|some J=>I (.tuple #[],J)|none=>Z)
 |.delete=>(match II τ a vs h with|some J=>I (.tuple #[],J)|none=>Z)
 |_=>Z
inductive EO where
 |val (v:Aa) (h:Y)
 |aE (fr:Fr) (h:Y)
 |flat (n:Nat) (l:AH)
abbrev RR:=Option (List EO)
def Ns:RR->RR->RR
 |some a,I b=>I (a++b)
 |_,_=>Z
def ZK (τ:Bb) (fr:Fr):Option BU->Option (Option Aa)
 |none=>I Z
 |some o=>(match ev τ fr o with|some v=>I (I v)|none=>Z)
def Ql (τ:Bb) (fr:Fr):List (Nat×BU)->Option (List (Nat×Aa))
 |[]=>I []
 |
  (i,o)::l=>match ev τ fr o,Ql τ fr l with
  |some v,I vs=>I ((i,v)::vs)
  |_,_=>Z
def CN (h:Y):Option Aa->Jl
 |some v=>I (v,h)
 |none=>Z
def Nb:Option Y->Jl
 |some h=>I (.tuple #[],h)
 |none=>Z
def TO (τ:Bb) (t:Ai) (ps:List (Nat×Aa)):Option Value:=
 match τ.ds.get t,CP τ t with
 |some (.struct DU),I z=>bif DU.toList.all (λf=>(τ.aj.get f.type).isSome) then(match Jw (λi=>match DU.toList[i]? with
  |some f=>(match τ.aj.get f.type with|some a=>I (f.offset,a.size)|none=>Z)
  |none=>Z) ps (AJ z) with
  |some cs=>I (.agg ⟨cs⟩)
  |none=>Z) else Z
 |
  some (.array _ e),I z=>(match τ.aj.get e with
  |
   some a=>(match Jw (λi=>I (i*a.size,a.size)) ps (AJ z) with
   |some cs=>I (.agg ⟨cs⟩)
   |none=>Z)
  |none=>Z)
 |_,_=>Z
def Bs (τ:Bb) (t:Ai) (len:Nat) (ps:List (Nat×Aa)) (h:Y):Jl:=
 match τ.ds.get t with
 |
  some (.slice e)=>(match τ.aj.get e,CP τ e with
  |some i,I z=>bif AD 0 i.size&&Am (AJ z).length i.size&&Ar (len*i.size) 16777216 then
   (match Jw (λk=>I (k*i.size,i.size)) ps (Dy (AJ z) len) with
    |some cs=>I (.slice (I ⟨h.nx,0,Z⟩) len len,BN h e cs)
    |none=>Z) else Z
  |_,_=>Z)
 |_=>Z
def K7 (τ:Bb) (t:Ai) (v:Aa) (h:Y):Jl:=I (AG h.nx 0,BN h t (AJ v))
def Ch (τ:Bb) (fr:Fr) (h:Y) (o:Op):Jl:=
 match o with
 |.move x|.assign x=>CN h (ev τ fr x)
 |
  .pick c a b=>(match ev τ fr c with
  |some (.bool t)=>CN h (ev τ fr (if t then a else b))
  |_=>Z)
 |.alloc t=>(match CP τ t with|some z=>K7 τ t z h|none=>Z)
 |.box t x=>(match ev τ fr x with|some v=>K7 τ t v h|none=>Z)
 |.build t ps=>(match Ql τ fr ps.toList with|some vs=>CN h (TO τ t vs)|none=>Z)
 |.buildSlice t n ps=>(match Ql τ fr ps.toList with|some vs=>Bs τ t n vs h|none=>Z)
 |.load t a=>(match ev τ fr a with|some (.pointer (I ⟨id,off,Z⟩))=>CN h (Bw τ t h id off)|_=>Z)
 |
  .store t a x=>(match ev τ fr a,ev τ fr x with
  |some (.pointer (I ⟨id,off,Z⟩)),I v=>Nb (BA τ t h id off v)
  |_,_=>Z)
 |
  .nilCheck x=>(match ev τ fr x with
  |some (.pointer (I a))=>I (.pointer (I a),h)
  |some (.func (.func f) a b)=>I (.func (.func f) a b,h)
  |some (.iface t v)=>I (.iface t v,h)
  |_=>Z)
 |.binOp op t x y _=>(match ev τ fr x,ev τ fr y with|some a,I b=>CN h (Jo τ op t x y a b)|_,_=>Z)
 |.unOp op _ x=>(match ev τ fr x with|some v=>CN h (unB op v)|none=>Z)
 |.convert s d x=>(match ev τ fr x with|some v=>Ea τ s d v h|none=>Z)
 |
  .makeInterface t x=>(match ev τ fr x,τ.ds.get t with
  |some _,I (.interface _)=>Z
  |some v,I _=>I (.iface t v,h)
  |_,_=>Z)
 |
  .makeFunc fn first cap=>(match O8 τ fr first.toList,O8 τ fr cap.toList with
  |
   some a,I b=>(match fn with
   |.func f=>I (.func (.func f) ⟨a⟩ ⟨b⟩,h)
   |_=>Z)
  |_,_=>Z)
 |
  .makeMap t r=>(match ZK τ fr r with
  |some Z=>I (.map (I h.nx),h.new (.map [] 0))
  |some (I (.int _ _))=>(match τ.ds.get t with|some (.map _ _)=>I (.map (I h.nx),h.new (.map [] 0))|_=>Z)
  |_=>Z)
 |.makeSlice t l c=>(match ev τ fr l,ev τ fr c with|some a,I b=>Dk τ t a b h|_,_=>Z)
 |
  .slice t x lo U g=>(match ev τ fr x,ZK τ fr lo,ZK τ fr U,ZK τ fr g with
  |some v,I a,I b,I c=>CN h (C7 τ t v a b c)
  |_,_,_,_=>Z)
 |.fieldAddr s x f=>(match ev τ fr x with|some v=>CN h (GM τ s v f)|none=>Z)
 |.field t x f=>(match ev τ fr x with|some v=>CN h (TM τ t v f)|none=>Z)
 |.indexAddr t x i=>(match ev τ fr x,ev τ fr i with|some a,I b=>CN h (EE τ t a b)|_,_=>Z)
 |.index t x i=>(match ev τ fr x,ev τ fr i with|some a,I b=>CN h (I8 τ t a b)|_,_=>Z)
 |.lookup t x i e=>(match ev τ fr x,ev τ fr i with|some a,I b=>CN h (BW τ t a b e h)|_,_=>Z)
 |
  .mapUpdate t m k x|.insert t m k x=>(match ev τ fr m,ev τ fr k,ev τ fr x with
  |some a,I b,I c=>Nb (BH τ t a b c h)
  |_,_,_=>Z)
 |.mapEntry t m k=>(match ev τ fr m,ev τ fr k with|some a,I b=>D6 τ t a b h|_,_=>Z)
 |.entryStore _ m s x=>(match ev τ fr m,ev τ fr s,ev τ fr x with|some a,I b,I c=>Nb (DM a b c h)|_,_,_=>Z)
 |.range t x=>(match ev τ fr x with|some v=>Gh τ t v h|none=>Z)
 |.entry j=>(match ev τ fr j with|some v=>CN h (Ou v h)|none=>Z)
 |.typeAssert x _ t e=>(match ev τ fr x with|some v=>CN h (P8 τ v t e)|none=>Z)
 |.extract t i=>(match ev τ fr t with|some (.tuple vs)=>CN h vs.toList[i]?|_=>Z)
 |.sliceToArrayPointer t x=>(match ev τ fr x with|some v=>CN h (Qd τ t v)|none=>Z)
 |_=>Z
abbrev Be:=Fn->AH->Y->(Aa->Y->RR)->(Aa->Y->RR)->RR
section
variable(τ:Bb) (call:Be)
def Hd (a:Aa) (b:String) (c:AH) (h:Y) (k kp:Aa->Y->RR):RR:=
 match a with
 |
  .iface t v=>(match No τ h t v b with
  |some (f,r)=>call (.func f) (r::c) h k kp
  |none=>Z)
 |_=>Z
def Vn (b:Aa) (a:AH) (h:Y) (k kp:Aa->Y->RR):RR:=
 match b with
 |.func (.func f) first cap=>call (.func f) (first.toList++a++cap.toList) h k kp
 |.func (.yield l) first _=>call (.yield l) (first.toList++a) h k kp
 |_=>Z
def Ju (fr:Fr) (h:Y) (c:Call) (k kp:Aa->Y->RR):RR:=
 match O8 τ fr c.args.toList with
 |none=>Z
 |
  some vs=>match c.callee with
  |.builtin b=>(match Bx τ b c.argTypes.toList vs h with|some (v,J)=>k v J|none=>Z)
  |.invoke r a=>(match ev τ fr r with|some d=>Hd τ call d a vs h k kp|none=>Z)
  |.value f=>(match ev τ fr f with|some e=>Vn call e vs h k kp|none=>Z)
def R2 (k:Aa->Y->RR):List (Aa×Y)->RR
 |[]=>I []
 |(v,h)::l=>Ns (k v h) (R2 k l)
def F9 (fr:Fr) (h:Y) (o:Op) (k kp:Aa->Y->RR):RR:=
 match o with
 |.call c=>Ju τ call fr h c k kp
 |
  .next it s=>(match ev τ fr it with
  |
   some v=>(match FT v s h with
   |some [(a,J)]=>k a J
   |some l=>R2 k l
   |none=>Z)
  |none=>Z)
 |
  .panic x=>(match ev τ fr x with
  |some (.iface t v)=>kp (.iface t v) h
  |_=>Z)
 |o=>(match Ch τ fr h o with|some (v,J)=>k v J|none=>Z)
def Fr.set (fr:Fr) (d:Option Tmp) (v:Aa):Option Fr:=
 match d with
 |none=>I fr
 |some t=>bif AD t fr.sz then I (match fr with|⟨a,sz,ds⟩=>⟨a.ins t v,sz,ds⟩) else Z
def E5 (fr:Fr) (AU:List C0):Option (Nat×Bool)->Option Bool
 |none=>I Ag
 |
  some (j,a)=>match AU[j]? with
  |
   some o=>(match o.dst with
   |some t=>(match fr.tm.get t with|some (.bool b)=>I (b==a)|some _=>I Ah|none=>Z)
   |none=>Z)
  |none=>Z
def Xv (fr:Fr) (c:Call):Option Deferred:=
 match c.callee,O8 τ fr c.args.toList with
 |
  .value f,I vs=>(match ev τ fr f with
  |some (.func (.func g) first cap)=>I {target:=.fn (.func g) cap,args:=⟨first.toList++vs⟩}
  |_=>Z)
 |_,_=>Z
def IB (ro:Option Nat) (fr:Fr) (h:Y) (o:C0) (k:Fr->Y->RR) (kp:Aa->Y->RR):RR:=
 match o.op with
 |
  .defer c=>(match Xv τ fr c,ro,o.dst with
  |some d,Z,Z=>k (match fr with|⟨a,sz,ds⟩=>⟨a,sz,d::ds⟩) h
  |_,_,_=>Z)
 |op=>F9 τ call fr h op (λv J=>match fr.set o.dst v with|some b=>k b J|none=>Z) kp
def EX (ro:Option Nat) (AU:List C0) (kp:Aa->Fr->Y->RR) (k:Fr->Y->RR):List C0->Fr->Y->RR
 |[],fr,h=>k fr h
 |
  o::l,fr,h=>match E5 fr AU o.guard with
  |some Ag=>IB τ call ro fr h o (λa J=>EX ro AU kp k l a J) (λv J=>kp v fr J)
  |some Ah=>(match fr.set o.dst (.tuple #[]) with|some a=>EX ro AU kp k l a h|none=>Z)
  |none=>Z
def Dj:Op->Bool
 |.move _|.assign _|.pick ..|.binOp ..|.unOp ..|.fieldAddr ..|.field ..|.indexAddr ..|.index ..|.extract ..|.makeInterface ..|.nilCheck _|.slice ..|.makeFunc ..|.sliceToArrayPointer ..=>Ag
 |_=>Ah
def Hy (b:Bo) (i j:Nat):Bool:=bif Ar j i then(b.getD i 0).testBit j else(b.getD j 0).testBit i
inductive Hi where
 |aK
 |rd (id:Nat)
 |lk (id:Nat) (t:Ai)
 |aD
 |wr (s:WS) (me:Option Ai)
 |bad
def Hi.ok:Hi->Bool
 |.bad=>Ah
 |_=>Ag
def WS.meets (s:WS) (nx nx':Nat):Bool:=match s with
 |.no=>Ah
 |.one b=>Ar nx b&&AD b nx'
 |.rest lo=>AD nx nx'&&AD lo nx'
 |.pair b lo=>(Ar nx b&&AD b nx')||(AD nx nx'&&AD lo nx')
def ZU (t:Ai):Option Ai->Bool
 |none=>Ah
 |some a=>Am t a
def MF:Hi->Hi->Nat->Nat->Bool
 |.rd a,.wr s _,_,_=>s.hasB a
 |.lk a t,.wr s b,_,_=>s.hasB a&&!ZU t b
 |.aD,.wr _ _,_,_=>Ag
 |.wr s _,.aK,nx,nx'=>s.meets nx nx'
 |.wr s _,.rd a,_,_=>s.hasB a
 |.wr s b,.lk a t,_,_=>s.hasB a&&!ZU t b
 |.wr _ _,.aD,_,_=>Ag
 |.wr _ _,.wr _ _,_,_=>Ag
 |_,_,_,_=>Ah
def WS.top:WS->Option Nat
 |.one b=>I b
 |.pair b _=>I b
 |_=>Z
def Fe (h:Y) (s:WS):Hi:=bif s.ag h.nx then .aD else match s with
 |.one b=>(match h.t.get b with|some hb=>bif hb.live then .wr s Z else .bad|none=>.bad)
 |.pair b _=>(match h.t.get b with|some hb=>bif hb.live then .wr s Z else .bad|none=>.bad)
 |s=>.wr s Z
def Xb (t:Ai) (r:Nat):Hi->Hi
 |.wr (.one b) _=>bif Am b r then .wr (.one b) (I t) else .wr (.one b) Z
 |e=>e
def CF (τ:Bb) (fr:Fr) (o:Op) (h:Y) (lo:WS):Hi:=
 bif Dj o then .aK else match o with
 |.alloc _|.box ..|.build ..|.buildSlice ..|.makeSlice ..|.makeMap ..=>.aK
 |
  .load _ a=>(match ev τ fr a with
  |some (.pointer (I ⟨id,_,Z⟩))=>.rd id
  |_=>Fe h lo)
 |
  .lookup t m _ b=>(match ev τ fr m with
  |some (.map (I r))=>bif b then .rd r else .lk r t
  |_=>Fe h lo)
 |
  .mapEntry t m _=>(match ev τ fr m with
  |some (.map (I r))=>Xb t r (Fe h lo)
  |_=>Fe h lo)
 |
  .convert _ _ x=>(match ev τ fr x with
  |some (.int _ _)|some (.string _)=>.aK
  |_=>Fe h lo)
 |
  .call {callee:=.builtin .len,args,..}=>(match O8 τ fr args.toList with
  |some [.slice _ _ _]|some [.string _]=>.aK
  |_=>Fe h lo)
 |_=>Fe h lo
def Hi.force {b:Type} (e:Hi) (k:Hi->b):b:=Hi.rec (k .aK) (λa=>k (.rd a)) (λa t=>k (.lk a t)) (k .aD) (λs c=>k (.wr s c)) (k .bad) e
abbrev Log:=List (Nat×Hi×Nat×Nat)
def Lz (b:Bo) (i:Nat) (e:Hi) (a:Log):Bool:=e.ok&&a.all λ(j,c,nx,nx')=>!(MF e c nx nx')||Hy b i j
def QC (i:Nat) (e:Hi) (nx nx':Nat) (a:Log):Log:=
 match e with
 |.aK=>bif AD nx nx' then(i,.aK,nx,nx')::a else a
 |e=>(i,e,nx,nx')::a
def NG (t j:Nat):Nat->List C0->Bool
 |_,[]=>Ag
 |i,o::l=>(Am i j||(match o.dst with|some d=>!(Am d t)|none=>Ag))&&NG t j (A3 i) l
def QI (AU:List C0):Option (Nat×Bool)->Bool
 |none=>Ag
 |
  some (j,_)=>match AU[j]? with
  |some o=>(match o.dst with|some t=>NG t j 0 AU|none=>Ah)
  |none=>Ah
def MC (AU:List C0) (b:Bo) (k:Fr->Y->RR):List C0->Nat->Log->Fr->Y->RR
 |[],_,_,fr,h=>k fr h
 |
  o::l,i,c,fr,h=>bif QI AU o.guard then(match E5 fr AU o.guard with
  |some Ag=>(match F9 τ call fr h.ad o.op (λv J=>match fr.set o.dst v with|some a=>I [.aE a J]|none=>Z) (λ_ _=>Z) with
   |
    some [.aE a J]=>(CF τ fr o.op h J.lo).force λe=>
    bif Lz b i e c then MC AU b k l (A3 i) (QC i e h.nx J.nx c) a (h.aa J) else Z
   |_=>Z)
  |some Ah=>(match fr.set o.dst (.tuple #[]) with|some a=>MC AU b k l (A3 i) c a h|none=>Z)
  |none=>Z) else Z
structure Kt where
 n:Fr->Y->RR
 x:Nat->Fr->Y->RR
 r:Fr->Y->RR
 p:Aa->Fr->Y->RR
def Nq (a:Kt->Fr->Y->RR):Nat->Kt->Fr->Y->RR
 |0,_,_,_=>Z
 |n+1,K,fr,h=>a {n:=λfr h=>Nq a n K fr h,x:=K.x,r:=K.r,p:=K.p} fr h
def T4 (ro:Option Nat) (AU:Array C0) (a:Bool) (K:Kt) (fr:Fr) (h:Y):RR:=
 match a with
 |false=>EX τ call ro AU.toList K.p K.n AU.toList fr h
 |true=>MC τ call AU.toList (Df AU).toList K.n AU.toList 0 [] fr h
def Vg (a b:Kt->Fr->Y->RR) (K:Kt) (fr:Fr) (h:Y):Option Aa->RR
 |some (.bool t)=>(match t with|true=>a K fr h|false=>b K fr h)
 |_=>Z
def HP (l:Nat) (K:Kt) (fr:Fr) (h:Y):RR:=
 match h.t.get l with
 |
  some (.loop st a b sz ps c e d)=>(match st with
  |.busy=>Z
  |
   _=>(match a with
   |none=>K.n fr (h.put l (.loop .exhausted a b sz ps c e d))
   |some .ret=>K.r fr (h.put l (.loop .exhausted a b sz ps c e d))
   |some (.exit id)=>K.x id fr (h.put l (.loop .exhausted a b sz ps c e d))
   |_=>Z))
 |_=>Z
def U5 (a:Aa) (l:Nat) (h:Y) (k kp:Aa->Y->RR):RR:=
 match a with
 |
  .func (.func f) first cap=>(match τ.fn.get f with
  |some fn=>bif fn.body.isSome then call (.func f) (first.toList++[.func (.yield l) #[] #[]]++cap.toList) h k kp else Z
  |none=>Z)
 |_=>Z
def Oo (ro:Option Nat) (ps:Array Tmp) (b c:DC) (K:Kt) (fr:Fr) (h:Y):Option Aa->RR
 |
  some e=>(match ro with
  |
   none=>
   let l:=A3 h.nx
   let J:=(h.new (.aq Ah)).new (.loop .ready Z fr.tm fr.sz ps.toList b c h.nx)
   let f:Fr:=match fr with|⟨g,sz,ds⟩=>⟨g,sz,{target:=.collected h.nx,args:=#[]}::ds⟩
   U5 τ call e l J (λ_ a=>HP l K f a) (λ_ _=>Z)
  |
   some i=>(match h.t.get i with
   |
    some (.loop _ _ _ _ _ _ _ d)=>
    U5 τ call e h.nx (h.new (.loop .ready Z fr.tm fr.sz ps.toList b c d)) (λ_ a=>HP h.nx K fr a) (λ_ _=>Z)
   |_=>Z))
 |none=>Z
def B7 (L:Nat) (ro:Option Nat):DC->Kt->Fr->Y->RR
 |.skip,K,fr,h=>K.n fr h
 |.label _,K,fr,h=>K.n fr h
 |.region _ AU e,K,fr,h=>T4 τ call ro AU e K fr h
 |.seq a b,K,fr,h=>B7 L ro a {n:=λfr h=>B7 L ro b K fr h,x:=K.x,r:=K.r,p:=K.p} fr h
 |.cond c a b,K,fr,h=>Vg (B7 L ro a) (B7 L ro b) K fr h (ev τ fr c)
 |.block id c,K,fr,h=>B7 L ro c {n:=K.n,x:=λd fr h=>bif Am d id then K.n fr h else K.x d fr h,r:=K.r,p:=K.p} fr h
 |.loop c,K,fr,h=>Nq (B7 L ro c) L K fr h
 |.scope c,K,fr,h=>B7 L ro c K fr h
 |.rangeFunc f ps g i,K,fr,h=>Oo τ call ro ps g i K fr h (ev τ fr f)
 |.exit id,K,fr,h=>K.x id fr h
 |.ret,K,fr,h=>K.r fr h
 |_,_,_,_=>Z
def Ng (fr:Fr) (h:Y):List ResultVar->Option AH
 |[]=>I []
 |.tmp t::l=>(match fr.tm.get t,Ng fr h l with|some v,I vs=>I (v::vs)|_,_=>Z)
 |
  .cell a t::l=>(match fr.tm.get a with
  |some (.pointer (I ⟨id,off,Z⟩))=>(match Bw τ t h id off,Ng fr h l with|some v,I vs=>I (v::vs)|_,_=>Z)
  |_=>Z)
def Ff:AH->Aa
 |[v]=>v
 |vs=>.tuple ⟨vs⟩
def GA (a:AH) (n:Nat):Option Fr:=bif Ar a.length n then I ⟨T.laid a 0 .nil,n,[]⟩ else Z
def Iw (dv:Au->Option (AH->Y->Option Y)) (a:List ResultVar) (fr:Fr) (k:Aa->Y->RR):List Hh->Y->RR
 |[],h=>(match Ng τ fr h a with|some vs=>k (Ff vs) h|none=>Z)
 |
  {target:=.fn (.func f) cap,args}::ds,h=>(match dv f with
  |
   some g=>(match g (args.toList++cap.toList) h with
   |some J=>Iw dv a fr k ds J
   |none=>Z)
  |none=>Z)
 |
  {target:=.collected b,..}::ds,h=>(match h.t.get b with
  |some (.aq Ah)=>Iw dv a fr k ds (h.put b (.aq Ag))
  |_=>Z)
 |_::_,_=>Z
end
def MB (h:Y) (nx:Nat) (e:Ai) (b:Nat):Aa->Option (Nat×AH)
 |.slice Z 0 0=>I (0,[.pointer Z])
 |
  .slice (I a) len cap=>(match h.t.get a.block with
  |
   some (.cells c n el 0 0 _)=>bif Ar nx a.block&&Am el e&&Ar (a.off+cap*b) n&&Ar len cap then(match DV c (len*b) a.off with
   |some l=>bif l.all plainCell then I (len,l) else Z
   |none=>Z) else Z
  |_=>Z)
 |_=>Z
abbrev Lc:=Fr->Y->Option (Fr×Y)
def IC:DC->List DC
 |.seq a b=>IC a++IC b
 |c=>[c]
def Qq (τ:Bb) (call:Be) (L:Nat) (ro:Option Nat) (g:Nat->Option Lc):List DC->Nat->Kt->Fr->Y->RR
 |[],_,K,fr,h=>K.n fr h
 |
  c::l,i,K,fr,h=>match g i with
  |some x=>(match x fr h with|some (a,J)=>Qq τ call L ro g l (A3 i) K a J|none=>Z)
  |none=>B7 τ call L ro c {n:=λfr h=>Qq τ call L ro g l (A3 i) K fr h,x:=K.x,r:=K.r,p:=K.p} fr h
structure A9 where
 ov:Au->Option (Be->AH->Y->Jl)
 nd:Au->Option Ai
 dv:Au->Option (AH->Y->Option Y)
 hk:Au->Option (Nat->Option Lc)
 rc:Au->Option (AH->Aa->Y->Option Y)
def J3 (h:Y) (e:Ai):RR->Jl
 |some (.flat n l::rest)=>bif rest.all (λx=>match x with|.flat n' l'=>Am n' n&&Dv l l'|_=>Ah) then
  bif Am n 0 then(match l with|[.pointer Z]=>I (.slice Z 0 0,h)|_=>Z)
   else I (.slice (I ⟨h.nx,0,Z⟩) n n,HY h e l) else Z
 |_=>Z
def Ss (τ:Bb) (S:A9) (call:Be) (L:Nat) (f:Au) (c:DC) (K:Kt) (fr:Fr) (h:Y):RR:=
 match S.hk f with
 |none=>B7 τ call L Z c K fr h
 |some g=>Qq τ call L Z g (IC c) 0 K fr h
def TC (τ:Bb) (a:Au->Option (AH->Aa->Y->Option Y)) (b:List ResultVar) (k kp:Aa->Y->RR) (v:Aa) (fr:Fr) (h:Y):RR:=
 match fr.ds with
 |[]=>kp v h
 |
  [{target:=.fn (.func f) cap,args}]=>(match a f with
  |
   some g=>(match g (args.toList++cap.toList) v h with
   |some J=>(match Ng τ fr J b with|some vs=>k (Ff vs) J|none=>Z)
   |none=>Z)
  |none=>Z)
 |_=>Z
def DY (τ:Bb) (S:A9) (call:Be) (L:Nat) (f:Au) (a:AH) (h:Y) (k kp:Aa->Y->RR):RR:=
 match τ.fn.get f with
 |none=>Z
 |
  some fn=>match fn.body with
  |
   none=>(match τ.ex.get f with
   |some e=>(match R6 τ e a h with|some (v,J)=>k v J|none=>Z)
   |none=>Z)
  |
   some c=>match GA a fn.ntmps with
   |
    some b=>Ss τ S call L f c (.mk (λfr h=>Iw τ S.dv fn.results.toList fr k fr.ds h) (λ_ _ _=>Z)
    (λfr h=>Iw τ S.dv fn.results.toList fr k fr.ds h) (TC τ S.rc fn.results.toList k kp)) b h
   |none=>Z
def JY (sz:Nat):List Tmp->AH->T Aa->Option (T Aa)
 |[],[],t=>I t
 |p::ps,v::vs,t=>bif AD p sz then JY sz ps vs (t.ins p v) else Z
 |_,_,_=>Z
def IJ (h:Y) (l:Nat) (st:LoopState) (a:Option DC):Option Y:=
 match h.t.get l with
 |some (.loop _ _ b sz ps c e d)=>I (h.put l (.loop st a b sz ps c e d))
 |_=>Z
def Fy (l:Nat) (a:Option DC) (k:Aa->Y->RR) (fr:Fr) (h:Y):RR:=
 match fr.ds,IJ h l (match a with|none=>.ready|some _=>.done) a with
 |[],I J=>k (.bool a.isNone) J
 |_,_=>Z
def Ll (τ:Bb) (call:Be) (L:Nat) (l:Nat) (b:AH) (h:Y) (k:Aa->Y->RR):RR:=
 match h.t.get l with
 |
  some (.loop _ _ tm sz ps c d _)=>(match JY sz ps b tm with
  |some e=>B7 τ call L (I l) c (.mk (λfr a=>
   (match fr.ds,a.t.get l with
    |
     [],I (.loop .ready Z _ _ _ _ _ _)=>(match IJ a l .busy Z with
     |some f=>B7 τ call L (I l) d (.mk (Fy l Z k) (λid=>Fy l (I (.exit id)) k) (Fy l (I .ret) k) (λ_ _ _=>Z)) fr f
     |none=>Z)
    |_,_=>Z))
   (λ_ _ _=>Z) (λ_ _=>Z) (λ_ _ _=>Z)) {tm:=e,sz:=sz,ds:=[]} h
  |none=>Z)
 |_=>Z
def ndK (τ:Bb) (S:A9) (a:(Aa->Y->RR)->RR) (f:Au) (h:Y):Jl:=
 match S.nd f with
 |
  some e=>(match τ.aj.get e with
  |some i=>J3 h e (a λv J=>bif J.lo.ag h.nx then(match MB J h.nx e i.size v with|some (n,l)=>I [.flat n l]|none=>Z) else Z)
  |none=>Z)
 |none=>Z
def B8 (τ:Bb) (S:A9) (L:Nat):Nat->Be
 |0=>λ_ _ _ _ _=>Z
 |
  n+1=>λfn a h k kp=>match fn with
  |
   .func f=>(match(match S.ov f with|some g=>g (B8 τ S L n) a h|none=>Z) with
   |some (v,J)=>k v J
   |
    none=>match ndK τ S (λk=>DY τ S (B8 τ S L n) L f a h.ad k (λ_ _=>Z)) f h with
    |some (v,J)=>k v J
    |none=>DY τ S (B8 τ S L n) L f a h k kp)
  |.yield l=>Ll τ (B8 τ S L n) L l a h k
  |_=>Z
structure Pl where
 b:Nat
 o:Nat
 s:Nat
abbrev Ren:=Nat->Option Pl
inductive Yw (ρ:Ren):Fn->Fn->Prop
 |func (f):Yw ρ (.func f) (.func f)
 |yield {l pl}:ρ l=I pl->Yw ρ (.yield l) (.yield pl.b)
def Hl (sp:Option Nat) (pl:Pl):Nat:=if sp.isSome then 0 else pl.s
mutual
inductive VR (ρ:Ren):Aa->Aa->Prop
 |bool (b):VR ρ (.bool b) (.bool b)
 |int (k n):VR ρ (.int k n) (.int k n)
 |float (k n):VR ρ (.float k n) (.float k n)
 |complex (k n m):VR ρ (.complex k n m) (.complex k n m)
 |string (s):VR ρ (.string s) (.string s)
 |bn:VR ρ (.pointer Z) (.pointer Z)
 |ptr {id off pl}:ρ id=I pl->VR ρ (.pointer (I ⟨id,off,Z⟩)) (.pointer (I ⟨pl.b,pl.o+off,Z⟩))
 |az (l c):VR ρ (.slice Z l c) (.slice Z l c)
 |slice {id off sp len cap pl o'}:ρ id=I pl->(len+cap+Hl sp pl≠0->o'=pl.o+off)->
  VR ρ (.slice (I ⟨id,off,sp⟩) len cap) (.slice (I ⟨pl.b,o',Z⟩) len (cap+Hl sp pl))
 |bw:VR ρ (.map Z) (.map Z)
 |map {id pl}:ρ id=I pl->VR ρ (.map (I id)) (.map (I pl.b))
 |bj:VR ρ (.chan Z) (.chan Z)
 |func {fn fn' a a' c c'}:Yw ρ fn fn'->LR ρ a a'->LR ρ c c'->VR ρ (.func fn ⟨a⟩ ⟨c⟩) (.func fn' ⟨a'⟩ ⟨c'⟩)
 |nilFunc:VR ρ .nilFunc .nilFunc
 |iface {t v v'}:VR ρ v v'->VR ρ (.iface t v) (.iface t v')
 |nilIface:VR ρ .nilIface .nilIface
 |agg {l l'}:LR ρ l l'->VR ρ (.agg ⟨l⟩) (.agg ⟨l'⟩)
 |tuple {l l'}:LR ρ l l'->VR ρ (.tuple ⟨l⟩) (.tuple ⟨l'⟩)
inductive LR (ρ:Ren):AH->AH->Prop
 |nil:LR ρ [] []
 |cons {v v' l l'}:VR ρ v v'->LR ρ l l'->LR ρ (v::l) (v'::l')
end
def Ren.le (ρ a:Ren):Prop:=∀id pl,ρ id=I pl->a id=I pl
def Ren.le_refl (ρ:Ren):ρ.le ρ:=λ_ _ h=>h
def Ren.le_trans {ρ a b:Ren} (h:ρ.le a) (J:a.le b):ρ.le b:=λ_ _ e=>J _ _ (h _ _ e)
def Yw.mono {ρ a:Ren} (h:ρ.le a) {f b} (r:Yw ρ f b):Yw a f b:=by
 cases r with
 |func f=>exact .func f
 |yield e=>exact .yield (h _ _ e)
mutual
def VR.mono {ρ d:Ren} (h:ρ.le d) {v g:Aa} (r:VR ρ v g):VR d v g:=
 match r with
 |.bool b=>.bool b
 |.int k n=>.int k n
 |.float k n=>.float k n
 |.complex k n m=>.complex k n m
 |.string s=>.string s
 |.bn=>.bn
 |.ptr e=>.ptr (h _ _ e)
 |.az l c=>.az l c
 |.slice e f=>.slice (h _ _ e) f
 |.bw=>.bw
 |.map e=>.map (h _ _ e)
 |.bj=>.bj
 |.func f a c=>.func (f.mono h) (LR.mono h a) (LR.mono h c)
 |.nilFunc=>.nilFunc
 |.iface r=>.iface (VR.mono h r)
 |.nilIface=>.nilIface
 |.agg l=>.agg (LR.mono h l)
 |.tuple l=>.tuple (LR.mono h l)
def LR.mono {ρ c:Ren} (h:ρ.le c) {l l':AH} (r:LR ρ l l'):LR c l l':=
 match r with
 |.nil=>.nil
 |.cons a b=>.cons (VR.mono h a) (LR.mono h b)
end
section
variable{ρ:Ren}
def LR.length:∀{l l':AH},LR ρ l l'->l.length=l'.length
 |_,_,.nil=>rfl
 |_,_,.cons _ h=>by simp[h.length]
def LR.get:∀{l l':AH},LR ρ l l'->∀{i:Nat} {v:Aa},l[i]?=I v->∃b,l'[i]?=I b/\VR ρ v b
 |_,_,.nil,i,v,h=>by simp at h
 |
  _,_,.cons a r,i,v,h=>by
  cases i with
  |zero=>simp at h;subst h;exact⟨_,B,a⟩
  |succ i=>simp at h;obtain⟨b,c,d⟩:=r.get h;exact⟨b,by simpa using c,d⟩
def LR.append:∀{l l' m m':AH},LR ρ l l'->LR ρ m m'->LR ρ (l++m) (l'++m')
 |_,_,_,_,.nil,h=>h
 |_,_,_,_,.cons a r,h=>.cons a (r.append h)
def LR.take:∀{l l':AH} (n:Nat),LR ρ l l'->LR ρ (l.take n) (l'.take n)
 |_,_,0,_=>by simp;exact .nil
 |_,_,_+1,.nil=>by simp;exact .nil
 |_,_,n+1,.cons a r=>by simp;exact .cons a (r.take n)
def LR.drop:∀{l l':AH} (n:Nat),LR ρ l l'->LR ρ (l.drop n) (l'.drop n)
 |_,_,0,h=>by simpa using h
 |_,_,_+1,.nil=>by simp;exact .nil
 |_,_,n+1,.cons a r=>by simp;exact r.drop n
def LR.set:∀{l l':AH} (i:Nat) {v b:Aa},LR ρ l l'->VR ρ v b->LR ρ (l.set i v) (l'.set i b)
 |_,_,_,_,_,.nil,_=>by simp;exact .nil
 |_,_,0,_,_,.cons _ r,h=>by simp;exact .cons h r
 |_,_,i+1,_,_,.cons a r,h=>by simp;exact .cons a (r.set i h)
def VR.cellsOf {v a:Aa} (h:VR ρ v a):LR ρ (AJ v) a.cells.toList:=by
 have b:=h;cases h<;>first
  |exact LR.cons b LR.nil
  |assumption
def VR.cP {v a:Aa} (h:VR ρ v a):a.oneCell'=one v:=by cases h<;>rfl
def LR.bE:∀{l l':AH},LR ρ l l'->l.all one=Ag->∀u∈l',u.oneCell'=Ag
 |_,_,.nil,_,u,b=>by simp at b
 |
  _,_,.cons a r,h,u,b=>by
  simp only[Jh,An] at h;rcases List.mem_cons.1 b with rfl|b
  .rw[a.cP];exact h.1
  .exact r.bE h.2 u b
def VR.av {v:Aa} (h:plainCell v=Ag):VR ρ v v:=by
 unfold plainCell at h;split at h<;>first
  |constructor
  |(simp at h;done)
def LR.ak:∀{l:AH},l.all plainCell=Ag->LR ρ l l
 |[],_=>.nil
 |
  v::l,h=>by
  simp only[Jh,An] at h;exact .cons (VR.av h.1) (LR.ak h.2)
def VR.ak {v:Aa} (h:DG v=Ag):VR ρ v v:=by
 unfold DG at h;split at h
 .rename_i cs;obtain⟨l⟩:=cs;exact .agg (LR.ak h)
 .rename_i cs;obtain⟨l⟩:=cs;exact .tuple (LR.ak h)
 .exact .iface (VR.av h)
 .exact VR.av h
def VR.aO {v a:Aa} (h:VR ρ v a) (b:plainCell v=Ag):a=v:=by
 cases h<;>simp_all [plainCell]
def LR.aL:∀{l l':AH},LR ρ l l'->l.all plainCell=Ag->l'=l
 |_,_,.nil,_=>rfl
 |
  _,_,.cons a r,h=>by
  simp only[Jh,An] at h;rw[a.aO h.1,r.aL h.2]
end
inductive ER (ρ:Ren):List Ap->List Ap->Prop
 |nil:ER ρ [] []
 |cons {e e' l l'}:VR ρ e.key e'.key->VR ρ e.val e'.val->e.born=e'.born->ER ρ l l'->ER ρ (e::l) (e'::l')
def ER.mono {ρ d:Ren} (h:ρ.le d):∀{l l':List Ap},ER ρ l l'->ER d l l'
 |_,_,.nil=>.nil
 |_,_,.cons a b c r=>.cons (a.mono h) (b.mono h) c (r.mono h)
def TR (ρ:Ren) (t:T Aa) (sz:Nat) (a:Array Aa):Prop:=sz=a.size/\∀i v,t.get i=I v->∃b,a[i]?=I b/\VR ρ v b
def TR.mono {ρ b:Ren} (h:ρ.le b) {t sz a} (r:TR ρ t sz a):TR b t sz a:=
 ⟨r.1,λi v e=>let⟨c,d,f⟩:=r.2 i v e;⟨c,d,f.mono h⟩⟩
def CR (P:AN):DC->Prop
 |.region _ AU d=>d=Ag->Region.ok P.types AU Ag=Ag
 |.seq a b=>CR P a/\CR P b
 |.cond _ a b=>CR P a/\CR P b
 |.rangeFunc _ _ a b=>CR P a/\CR P b
 |.block _ c=>CR P c
 |.loop c=>CR P c
 |.scope c=>CR P c
 |_=>True
def BR (P:AN) (ρ:Ren) (pl:Pl) (w:AM):HB->Prop
 |.cells c n e lo U x=>∃(C:Array Aa) (a:Nat×Nat),w.heap[pl.b]?=I (.cells C e a)/\pl.o+n<=C.size/\
  (∀i,P.info? e=I i->pl.o+n+pl.s*i.size<=C.size)/\
  (∀i v,c.get i=I v->i<n/\∃h,C[pl.o+i]?=I h/\VR ρ v h)/\
  (a.1=a.2\/(lo=1/\U=0/\C.size<=a.1)\/(pl.o+lo<=a.1/\(a.1<=a.2\/lo<U)/\a.2<=pl.o+U))/\(x=Ag->pl.o=0/\C.size=n)
 |.map es q=>∃j,w.heap[pl.b]?=I (.map j q)/\ER ρ es j.toList
 |.str s r=>w.heap[pl.b]?=I (.stringIter s r)/\pl.o=0
 |.ay Z f seen g=>w.heap[pl.b]?=I (.mapIter Z f ⟨seen⟩ g)/\pl.o=0
 |.ay (I m) f seen g=>∃k,ρ m=I k/\w.heap[pl.b]?=I (.mapIter (I k.b) f ⟨seen⟩ g)/\pl.o=0
 |.loop st t u sz ps l o d=>∃L:Loop,w.heap[pl.b]?=I (.loop L)/\L.state=st/\L.pending=t/\L.params.toList=ps/\L.assign=l/\L.body=o/\
  TR ρ u sz L.tmps/\CR P l/\CR P o/\∃p,ρ d=I p/\L.defers=p.b
 |.aq y=>w.heap[pl.b]?=I (.deferred (if y then Z else I []))
 |.dead=>True
def BR.mono {P:AN} {ρ q:Ren} (h:ρ.le q) {pl:Pl} {w w':AM} (f:w'.heap[pl.b]?=w.heap[pl.b]?) {hb:HB} (r:BR P ρ pl w hb):BR P q pl w' hb:=by
 cases hb with
 |
  cells c n e lo U x=>
  obtain⟨C,u,g,j,k,l,o,p⟩:=r;exact⟨C,u,f.trans g,j,k,λi v e=>let⟨a,y,b,c⟩:=l i v e;⟨a,y,b,c.mono h⟩,o,p⟩
 |map es N=>obtain⟨z,g,j⟩:=r;exact⟨z,f.trans g,j.mono h⟩
 |str s O=>exact⟨f.trans r.1,r.2⟩
 |
  ay m Q seen R=>
  cases m with
  |none=>exact⟨f.trans r.1,r.2⟩
  |some m=>obtain⟨A,g,j,k⟩:=r;exact⟨A,h _ _ g,f.trans j,k⟩
 |
  loop st S T sz ps V W d=>
  obtain⟨L,g,j,k,l,o,p,D,E,F,H,K,M⟩:=r;exact⟨L,f.trans g,j,k,l,o,p,D.mono h,E,F,H,h _ _ K,M⟩
 |aq t=>exact f.trans r
 |dead=>trivial
structure Sl (P:AN) (τ:Bb) (ρ:Ren) (H:Nat->Option HB) (nx:Nat) (w:AM):Prop where
 fresh:∀id,nx<=id->ρ id=Z
 hr:∀id pl hb,ρ id=I pl->H id=I hb->BR P ρ pl w hb
 aC:∀id pl,ρ id=I pl->pl.b<w.heap.size
 ord:∀i j pi pj U,ρ i=I pi->ρ j=I pj->H i=I U->i<j->pi.b=pj.b->U.live=Ah
 aS:∀g,g<τ.ng->ρ g=I ⟨g,0,0⟩
def Sl.inj {P:AN} {τ:Bb} {ρ:Ren} {H:Nat->Option HB} {nx:Nat} {w:AM} (h:Sl P τ ρ H nx w):∀i j a c U e,ρ i=I a->ρ j=I c->H i=I U->H j=I e->U.live=Ag->e.live=Ag->a.b=c.b->i=j:=by
 intro i j a c U e f g m n k l hb;rcases FD i j with d|d|d
 .rw[h.ord i j a c U f g m d hb] at k;cases k
 .exact d
 .rw[h.ord j i c a e g f n d hb.symm] at l;cases l
structure Mj (ρ:Ren) (w:AM) (nx:Nat) (C2:Ren) (w':AM) (nx':Nat) (lo:WS):Prop where
 ext:∀id,id<nx->C2 id=ρ id
 size:w.heap.size<=w'.heap.size
 ae:∀b,b<w.heap.size->(∀id pl,lo.has id->ρ id=I pl->pl.b≠b)->w'.heap[b]?=w.heap[b]?
 new:∀id pl,nx<=id->C2 id=I pl->w.heap.size<=pl.b\/∃j pj,lo.has j/\ρ j=I pj/\pj.b=pl.b
 nx:nx<=nx'
 os:w'.os=w.os
 out:w'.output=w.output
 tape:w'.tape=w.tape
 drawn:w.drawn<=w'.drawn
def Mj.refl (ρ:Ren) (w:AM) (nx:Nat) (lo:WS) (a:∀id,nx<=id->ρ id=Z):Mj ρ w nx ρ w nx lo:=
 ⟨λ_ _=>rfl,Ae _,λ_ _ _=>rfl,λid pl h e=>(by rw[a id h] at e;cases e),Ae _,B,B,B,Ae _⟩
def Mj.trans {ρ r s:Ren} {w k t:AM} {nx l u:Nat} {v m:WS} (a:Mj ρ w nx r k l v) (c:Mj r k l s t u m)
 (g:m<=v) (z:∀id,nx<=id->ρ id=Z):Mj ρ w nx s t u m:={
 ext id h:=(c.ext id (AC h a.nx)).trans (a.ext id h)
 size:=Ao a.size c.size
 ae b hb n:=by
  have x:k.heap[b]?=w.heap[b]?:=a.ae b hb λid pl o e=>n id pl (g _ o) e;rw[←x];refine c.ae b (AC hb a.size) λid pl o e=>?_;rcases A8 id nx with f|f
  .rw[a.ext id f] at e;exact n id pl o e
  .rcases a.new id pl f e with h|⟨j,pj,hj,ej,d⟩
   .omega
   .rw[←d];exact n j pj (g _ hj) ej
 new id pl f e:=by
  rcases A8 id l with p|p
  .rw[c.ext id p] at e
   rcases a.new id pl f e with h|⟨j,pj,hj,ej,d⟩
   .exact .inl h
   .exact .inr ⟨j,pj,g _ hj,ej,d⟩
  .rcases c.new id pl p e with h|⟨j,pj,hj,ej,d⟩
   .exact .inl (Ao a.size h)
   .rcases A8 j nx with q|q
    .rw[a.ext j q] at ej;exact .inr ⟨j,pj,hj,ej,d⟩
    .rcases a.new j pj q ej with h|⟨i,pi,U,ei,y⟩
     .exact .inl (by rw[←d];exact h)
     .exact .inr ⟨i,pi,g _ U,ei,y.trans d⟩
 nx:=Ao a.nx c.nx
 os:=c.os.trans a.os
 out:=c.out.trans a.out
 tape:=c.tape.trans a.tape
 drawn:=Ao a.drawn c.drawn}
def Mj.lower {ρ d:Ren} {w w':AM} {nx nx':Nat} {lo f:WS} (h:Mj ρ w nx d w' nx' lo) (g:f<=lo):Mj ρ w nx d w' nx' f:=
 {h with
  ae:=λb hb i=>h.ae b hb λid pl U e=>i id pl (g _ U) e
  new:=λid pl U e=>(h.new id pl U e).imp (λx=>x) λ⟨j,pj,a,b,c⟩=>⟨j,pj,g _ a,b,c⟩}
def Mj.le {ρ b:Ren} {w w':AM} {nx nx':Nat} {lo:WS} (h:Mj ρ w nx b w' nx' lo) (c:∀id,nx<=id->ρ id=Z):ρ.le b:=λid pl e=>by
 rcases A8 id nx with a|a
 .rw[h.ext id a];exact e
 .rw[c id a] at e;cases e
def AF (h J:Y):Prop:=h.nx<=J.nx/\J.lo<=h.lo/\∀id,id<h.nx->¬J.lo.has id->J.t.get id=h.t.get id
def WS.le_refl (s:WS):s<=s:=λ_ h=>h
def WS.le_trans {a b c:WS} (h:a<=b) (J:b<=c):a<=c:=λi U=>h i (J i U)
def AF.refl (h:Y):AF h h:=⟨Ae _,WS.le_refl _,λ_ _ _=>rfl⟩
def AF.trans {h c d:Y} (a:AF h c) (b:AF c d):AF h d:=
 ⟨Ao a.1 b.1,WS.le_trans b.2.1 a.2.1,λid U e=>(b.2.2 id (AC U a.1) e).trans (a.2.2 id U λf=>e (b.2.1 _ f))⟩
def Lv (i j:Nat):Gg i j<=i/\Gg i j<=j:=by
 unfold Gg;cases e:Ar i j with
 |true=>have:=Ac e;simp;omega
 |false=>
  have:¬i<=j:=λa=>by rw[Aq a] at e;cases e
  simp;omega
def HT (b i:Nat):Gf (.one b) i=bif Am b i then .one b else bif Ar b i then .pair b i else .pair i b:=rfl
def Kr (lo i:Nat):Gf (.rest lo) i=bif Ar lo i then .rest lo else .pair i lo:=rfl
def FL (b lo i:Nat):Gf (.pair b lo) i=bif Am b i||Ar lo i then .pair b lo else bif Ar b i then .pair b i else .pair i (Gg b lo):=rfl
def Ke (i j:Nat):Lr (.one i) j=bif Ar j i then .rest j else .pair i j:=rfl
def G4 (s:WS) (i:Nat):Gf s i<=s/\(Gf s i).has i:=by
 cases s with
 |no=>exact⟨λ_ h=>h.elim,B⟩
 |
  one b=>
  rw[HT];cases e:Am b i with
  |true=>have:=Af e;subst this;exact⟨λ_ h=>h,B⟩
  |
   false=>
   cases a:Ar b i with
   |true=>exact⟨λ_ (h:_=b)=>Or.inl h,Or.inr (Ae i)⟩
   |false=>exact⟨λx (h:x=b)=>(show x=i\/b<=x from Or.inr (A2 h.symm)),Or.inl B⟩
 |
  rest lo=>
  rw[Kr];cases a:Ar lo i with
  |true=>exact⟨λ_ h=>h,Ac a⟩
  |false=>exact⟨λ_ (h:lo<=_)=>Or.inr h,Or.inl B⟩
 |
  pair b lo=>
  rw[FL];cases e:(Am b i||Ar lo i) with
  |
   true=>
   refine⟨λ_ h=>h,?_⟩;rw[Dm] at e;rcases e with e|e
   .exact Or.inl (Af e).symm
   .exact Or.inr (Ac e)
  |
   false=>
   have c:Ar lo i=false:=by cases h:Ar lo i with
    |true=>rw[h,Bool.or_true] at e;cases e
    |false=>rfl
   have f:¬lo<=i:=λd=>by rw[Aq d] at c;cases c
   cases a:Ar b i with
   |true=>exact⟨λx (h:x=b\/lo<=x)=>h.imp id λh=>by omega,Or.inr (Ae i)⟩
   |false=>exact⟨λx (h:x=b\/lo<=x)=>Or.inr (by have:=Lv b lo;rcases h with h|h<;>omega),Or.inl B⟩
def Mb (s:WS) (j:Nat):Lr s j<=s/\∀x,j<=x->(Lr s j).has x:=by
 cases s with
 |no=>exact⟨λ_ h=>h.elim,λ_ h=>h⟩
 |
  one i=>
  rw[Ke];cases e:Ar j i with
  |true=>exact⟨λx (h:x=i)=>(by subst h;exact Ac e),λ_ h=>h⟩
  |false=>exact⟨λ_ (h:_=i)=>Or.inl h,λ_ h=>Or.inr h⟩
 |rest i=>exact⟨λx (h:i<=x)=>Ao (Lv i j).1 h,λx (h:j<=x)=>Ao (Lv i j).2 h⟩
 |pair b lo=>exact⟨λx (h:x=b\/lo<=x)=>h.imp id λh=>Ao (Lv lo j).1 h,λx (h:j<=x)=>Or.inr (Ao (Lv lo j).2 h)⟩
def Ahj (s a:WS):Pf s a<=s/\Pf s a<=a:=by
 cases a with
 |no=>exact⟨λ_ h=>h,λ_ h=>h.elim⟩
 |one i=>exact⟨(G4 s i).1,λx (h:x=i)=>h▸(G4 s i).2⟩
 |rest j=>exact⟨(Mb s j).1,(Mb s j).2⟩
 |pair b j=>exact⟨λx h=>(G4 _ b).1 x ((Mb s j).1 x h),λx (h:x=b\/j<=x)=>h.elim (λh=>h▸(G4 _ b).2) λh=>(G4 _ b).1 x ((Mb s j).2 x h)⟩
def GO {s:WS} {nx:Nat} (h:s.ag nx=Ag) {id:Nat} (c:id<nx):¬s.has id:=by
 cases s with
 |no=>exact λh=>h
 |one b=>intro a;have a:id=b:=a;have:=Ac h;omega
 |rest lo=>intro a;have a:lo<=id:=a;have:=Ac h;omega
 |
  pair b lo=>
  intro a;have a:id=b\/lo<=id:=a;have h:(Ar nx b&&Ar nx lo)=true:=h;rw[An] at h;have d:=Ac h.1;have e:=Ac h.2;omega
def AF.put (h:Y) (i:Nat) (b:HB):AF h (h.put i b):=
 ⟨Ae _,(G4 _ _).1,λid _ a=>T.aP _ _ λe=>a (e▸(G4 h.lo i).2)⟩
def AF.new (h:Y) (b:HB):AF h (h.new b):=
 ⟨Yr _,WS.le_refl _,λid U _=>T.aP _ _ (Nat.ne_of_lt U)⟩
def AF.bQ (h:Y) (i:Nat) (b a:HB):AF h ((h.put i b).new a):=(AF.put h i b).trans (AF.new _ _)
def Lo (h:Y) (b:HB):(h.new b).lo=h.lo:=by cases h;rfl
def Of (h:Y) (i:Nat) (b:HB):(h.put i b).lo=Gf h.lo i:=by cases h;rfl
def Wr1 (h J:Y):Prop:=J.lo=h.lo\/∃b hb,h.t.get b=I hb/\hb.live=Ag/\J.lo=Gf h.lo b
def AW (h J:Y):Prop:=AF h J/\Wr1 h J
def AW.refl (h:Y):AW h h:=⟨AF.refl h,.inl B⟩
def AW.new (h:Y) (b:HB):AW h (h.new b):=⟨AF.new h b,.inl (Lo h b)⟩
def AW.put {h:Y} {i:Nat} {b hb:HB} (a:h.t.get i=I hb) (c:hb.live=Ag):AW h (h.put i b):=⟨AF.put h i b,.inr ⟨i,hb,a,c,Of h i b⟩⟩
def AW.bQ {h:Y} {i:Nat} {b a hb:HB} (c:h.t.get i=I hb) (d:hb.live=Ag):AW h ((h.put i b).new a):=⟨AF.bQ h i b a,.inr ⟨i,hb,c,d,by rw[Lo,Of]⟩⟩
def I6 {x:Aa×Y} {v:Aa} {h J:Y} (eu:I x=I (v,J)) (H:AW h x.2):AW h J:=by
 cases eu;exact H
def Adn {x:Y} {h J:Y} (eu:I x=I J) (H:AW h x):AW h J:=by
 cases eu;exact H
def V6 {a:Type} {c:Bool} {x:Option a} {u:a} (h:(bif c then x else Z)=I u):x=I u:=by
 cases c with|true=>exact h|false=>cases h
def Ahk {a:Type} {c:Bool} {x:Option a} {u:a} (h:(bif c then Z else x)=I u):x=I u:=by
 cases c with|false=>exact h|true=>cases h
def XD {a:Type} {c:Bool} {x y:Option a} {u:a} (h:(bif c then x else y)=I u):x=I u\/y=I u:=by
 cases c with|false=>exact .inr h|true=>exact .inl h
def Aru {o:Option Aa} {v:Aa} {h J:Y} (eu:CN h o=I (v,J)):AW h J:=by
 cases o with
 |none=>cases eu
 |some x=>exact I6 eu (AW.refl _)
def Xy {o:Option Y} {v:Aa} {h J:Y} (eu:Nb o=I (v,J)) (H:∀J,o=I J->AW h J):AW h J:=by
 cases o with
 |none=>cases eu
 |some x=>exact I6 eu (H _ B)
def Tb {h J:Y} {id off:Nat} {vs:AH} (eu:Gi h id off vs=I J):AW h J:=by
 unfold Gi at eu;split at eu
 .exact Adn (V6 eu) (AW.put (by assumption) B)
 .cases eu
def a0 {P:Prop} (h:P:=by first|(cases eu;done)|exact I6 eu (AW.refl _)|exact I6 eu (AW.new _ _)|exact I6 eu (AW.put (by assumption) rfl)|exact I6 eu (AW.bQ (by assumption) rfl)|exact Adn eu (AW.refl _)|exact Adn eu (AW.put (by assumption) rfl)|exact I6 eu (Tb (by assumption))|exact Tb eu):P:=h
def ax {P:Prop} (h:P:=by repeat' first|exact a0|(rcases XD eu with eu|eu)|split at eu):P:=h
def Wt {τ:Bb} {t:Ai} {h J:Y} {id off:Nat} {v:Aa} (eu:BA τ t h id off v=I J):AW h J:=by
 unfold BA at eu;exact ax
section
variable{τ:Bb} {t:Ai} {ts:List Ai} {vs:AH} {v x y m k:Aa} {h J:Y}
def Ahp {s d:Ai} (eu:Ea τ s d x h=I (v,J)):AW h J:=by
 unfold Ea at eu;exact ax
def R9 (eu:Dk τ t x y h=I (v,J)):AW h J:=by
 unfold Dk at eu;exact ax
def XT (eu:Gj τ ts vs h=I (v,J)):AW h J:=by
 unfold Gj at eu;exact ax
def Ahn (eu:U8 τ ts vs h=I (v,J)):AW h J:=by
 unfold U8 at eu;exact ax
def Z2 (eu:QQ τ ts vs h=I J):AW h J:=by
 unfold QQ at eu;exact ax
def XL (eu:II τ ts vs h=I J):AW h J:=by
 unfold II at eu;exact ax
def O1 (eu:EP τ ts vs h=I (v,J)):AW h J:=by
 unfold EP at eu;exact ax
def Sd (eu:BH τ t m k x h=I J):AW h J:=by
 unfold BH at eu;exact ax
def UD (eu:D6 τ t m k h=I (v,J)):AW h J:=by
 unfold D6 at eu;exact ax
def RI (eu:DM m k x h=I J):AW h J:=by
 unfold DM at eu;exact ax
def Aak (eu:Gh τ t x h=I (v,J)):AW h J:=by
 unfold Gh at eu;exact ax
def RH {n:Nat} {ps:List (Nat×Aa)} (eu:Bs τ t n ps h=I (v,J)):AW h J:=by
 unfold Bs at eu;exact ax
def Ako {e:KS} (eu:R6 τ e vs h=I (v,J)):AW h J:=by
 unfold R6 at eu;exact ax
def Wm (eu:LA τ ts vs h=I (v,J)):AW h J:=by
 unfold LA at eu;exact ax
def V4 {b:Aa} {s:Bool} {l:List (Aa×Y)} (eu:FT b s h=I l):∀v J,(v,J)∈l->AW h J:=by
 intro v J a;unfold FT at eu;split at eu
 case h_2=>cases eu
 split at eu
 .rcases XD eu with eu|eu
  .cases eu;cases List.mem_singleton.1 a;exact AW.put (by assumption) B
  .cases eu;cases List.mem_singleton.1 a;exact AW.refl _
 .cases eu;cases List.mem_singleton.1 a;exact AW.refl _
 .split at eu
  case h_2=>cases eu
  replace eu:=Ahk eu;replace eu:=V6 eu;split at eu
  .cases eu;cases List.mem_singleton.1 a;exact AW.refl _
  .cases eu
   obtain⟨e,_,c⟩:=List.mem_map.1 a;cases c;exact AW.put (by assumption) B
 .cases eu
def Pj {b:Builtin} (eu:Bx τ b ts vs h=I (v,J)):AW h J:=by
 cases b<;>simp only[Bx] at eu<;>repeat' first|exact Wm eu|exact O1 eu|exact Ahn eu|exact a0|exact I6 eu (XT (by assumption))|exact I6 eu (Z2 (by assumption))|exact I6 eu (XL (by assumption))|split at eu
def Zr {fr:Fr} {o:Op} (eu:Ch τ fr h o=I (v,J)):AW h J:=by
 unfold Ch at eu
 repeat' first|exact Aru eu|exact a0|exact RH eu|exact Xy eu λ_=>Wt|exact Ahp eu|exact R9 eu|exact Xy eu λ_=>Sd|exact UD eu|exact Xy eu λ_=>RI|exact Aak eu|split at eu
end
end
end Go.Ev
