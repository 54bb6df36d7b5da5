/-
  A part of the proof.
-/
import Derived.Test.YthifijhldmpodaaGreatDoorQ0
import Derived.Test.YthifijhldmpodaaGreatDoorQ1
import Derived.Test.YthifijhldmpodaaGreatDoorProg
import Derived.KernelRfl
import Derived.Test.YthifijhldmpodaaGreatDoorQ2
import Derived.Test.YthifijhldmpodaaGreatDoorQ3
import Derived.Test.YthifijhldmpodaaGreatDoorChecked
set_option maxRecDepth 100000
set_option maxHeartbeats 40000000
set_option linter.all false
open Bool renaming false->Ah,true->Ag,rec->B1,or_eq_true->Dm,and_eq_true->An,true_and->Abz,or_eq_false_iff->Iy,and_true->Mh
open Go renaming Addr->BD,BinOp->CT,Code->DC,Deferred->Hh,Func->BC,FuncId->Au,IntKind->Cq,MapEntry->Ap,Oper->C0,Operand->BU,TypeDesc->Apj,TypeId->Ai,TypeInfo->KR,Value->Aa
open Option renaming none->Z,some->I,getD_some->EN
open List renaming rec->Hg,getElem?_eq_getElem->Ab,all_eq_true->Jf,mem_cons_of_mem->Az,getElem?_append_left->AB,mem_cons_self->Av,cons_append->KB,length_cons->AO,getElem?_set_self->O4,getElem?_set_ne->Amv,length_singleton->Br,drop_eq_getElem_cons->Di,length_append->Aj,length_drop->AV,drop_zero->Ajb,append_nil->Fb,replicate->AE,length_take->Cg,getElem?_take->LS,getElem?_drop->Eg,range->BG,sum_cons->Amw,count_le_length->HM,map_cons->Bp,map_map->O5,count_append->K0,ext_getElem->Amx,length_map->A4,getElem_map->EU,getElem_range->Ajg,getD_eq_getElem?_getD->Ak,take_of_length_le->Bj,getElem?_map->AX,getElem?_range->Jj,mem_of_getElem?->AZ,take_length->CS,getElem_mem->Bu,getElem?_eq_none->CD,take_succ_eq_append_getElem->A5,map_append->BS,sum_append->PC,range_succ->Acb,eq_of_mem_replicate->CH,mem_or_eq_of_mem_set->BT,length_set->B4,getElem?_set->Iu,map_set->Cp,map_replicate->KD,nil_append->IW,append_assoc->KA,eraseIdx_cons_succ->W6,take_sublist->Ajl,getElem?_cons_zero->CO,getElem?_cons_succ->B5
open Nat renaming beq->Am,blt->AD,succ->A3,blt_eq->AK,eq_of_beq_eq_true->Af,le_refl->Ae,zero_add->Ba,not_lt_zero->F5,ble->Ar,ble_eq_true_of_le->Aq,le_of_ble_eq_true->Ac,lt_of_not_le->BB,lt_or_ge->A8,le_trans->Ao,lt_of_lt_of_le->AC,mul_le_mul->Cj,le_of_eq->A2,add_mul->Dw,mul_le_mul_right->Ci,zero_mul->Qg,add_assoc->DD,add_zero->UL,add_comm->UK,mul_one->BJ,rec->UE,div->Qe,mod->Zy,testBit_and->Tt,testBit_two_pow_mul_add->IX,lt_of_le_of_lt->Ji,and_le_left->Ms,mul_add->EG,mul_assoc->Ajd,mod_lt->Je,and_two_pow_sub_one_eq_mod->EH,add_mul_mod_self_left->WY,mod_eq_of_lt->JQ,eq_zero_or_pos->KQ,zero_le->Al,or_lt_two_pow->Zz,pow_lt_pow_right->Ack,pow_le_pow_right->Na,and_le_right->Apg,mul_comm->UI
open Int renaming ofNat->AQ,toNat_of_nonneg->UQ,ofNat_eq_natCast->M9
open Go.Region renaming before->Df
open Go.Value renaming slice->PA,int->AL,bool->CU,tuple->C4
open Array renaming length_toList->EZ
namespace Go.Ev
open Go Go.Proofs Tryz
noncomputable section
section
abbrev As:=List (Nat×Aa)
def look (A:As):Nat->Option Value:=Hg (motive:=λ_=>Nat->Option Aa) (λ_=>Z) (λp _ a t=>match p with|(i,v)=>bif Am i t then I v else a t) A
def Gx (A:As) (fr:Fr):Prop:=∀t v,look A t=I v->fr.tm.get t=I v
section
variable(τ:Bb) (A:As)
def Dn:BU->Option Aa
 |.tmp t=>look A t
 |.const v=>bif DG v then I v else Z
 |.global g=>bif AD g τ.ng then I (AG g 0) else Z
 |.func f=>I (.func (.func f) #[] #[])
def RY (l:List BU):Option AH:=Hg (motive:=λ_=>Option AH) (I []) (λo _ a=>match Dn τ A o,a with
 |some v,I vs=>I (v::vs)
 |_,_=>Z) l
def RQ:Option BU->Option (Option Aa)
 |none=>I Z
 |some o=>(match Dn τ A o with|some v=>I (I v)|none=>Z)
def QF (l:List (Nat×BU)):Option (List (Nat×Aa)):=Hg (motive:=λ_=>Option (List (Nat×Aa))) (I []) (λp _ a=>match p with
 |
  (i,o)=>(match Dn τ A o,a with
  |some v,I vs=>I ((i,v)::vs)
  |_,_=>Z)) l
def D9 (h:Y) (o:Op):Jl:=
 match o with
 |.move x|.assign x=>CN h (Dn τ A x)
 |
  .pick c a b=>(match Dn τ A c with
  |some (.bool t)=>CN h (Dn τ A (if t then a else b))
  |_=>Z)
 |.alloc t=>(match CP τ t with|some z=>K7 τ t z h|none=>Z)
 |.box t x=>(match Dn τ A x with|some v=>K7 τ t v h|none=>Z)
 |.build t ps=>(match QF τ A ps.toList with|some vs=>CN h (TO τ t vs)|none=>Z)
 |.buildSlice t n ps=>(match QF τ A ps.toList with|some vs=>Bs τ t n vs h|none=>Z)
 |.load t a=>(match Dn τ A a with|some (.pointer (I ⟨id,off,Z⟩))=>CN h (Bw τ t h id off)|_=>Z)
 |
  .store t a x=>(match Dn τ A a,Dn τ A x with
  |some (.pointer (I ⟨id,off,Z⟩)),I v=>Nb (BA τ t h id off v)
  |_,_=>Z)
 |
  .nilCheck x=>(match Dn τ A x with
  |some (.pointer (I a))=>I (.pointer (I a),h)
  |some (.func (.func f) a b)=>I (.func (.func f) a b,h)
  |some (.iface t v)=>I (.iface t v,h)
  |_=>Z)
 |.binOp op t x y _=>(match Dn τ A x,Dn τ A y with|some a,I b=>CN h (Jo τ op t x y a b)|_,_=>Z)
 |.unOp op _ x=>(match Dn τ A x with|some v=>CN h (unB op v)|none=>Z)
 |.convert s d x=>(match Dn τ A x with|some v=>Ea τ s d v h|none=>Z)
 |
  .makeInterface t x=>(match Dn τ A x,τ.ds.get t with
  |some _,I (.interface _)=>Z
  |some v,I _=>I (.iface t v,h)
  |_,_=>Z)
 |
  .makeFunc fn first cap=>(match RY τ A first.toList,RY τ A cap.toList with
  |
   some a,I b=>(match fn with
   |.func f=>I (.func (.func f) ⟨a⟩ ⟨b⟩,h)
   |_=>Z)
  |_,_=>Z)
 |
  .makeMap t r=>(match RQ τ A r with
  |some Z=>I (.map (I h.nx),h.new (.map [] 0))
  |some (I (.int _ _))=>(match τ.ds.get t with|some (.map _ _)=>I (.map (I h.nx),h.new (.map [] 0))|_=>Z)
  |_=>Z)
 |.makeSlice t l c=>(match Dn τ A l,Dn τ A c with|some a,I b=>Dk τ t a b h|_,_=>Z)
 |
  .slice t x lo U g=>(match Dn τ A x,RQ τ A lo,RQ τ A U,RQ τ A g with
  |some v,I a,I b,I c=>CN h (C7 τ t v a b c)
  |_,_,_,_=>Z)
 |.fieldAddr s x f=>(match Dn τ A x with|some v=>CN h (GM τ s v f)|none=>Z)
 |.field t x f=>(match Dn τ A x with|some v=>CN h (TM τ t v f)|none=>Z)
 |.indexAddr t x i=>(match Dn τ A x,Dn τ A i with|some a,I b=>CN h (EE τ t a b)|_,_=>Z)
 |.index t x i=>(match Dn τ A x,Dn τ A i with|some a,I b=>CN h (I8 τ t a b)|_,_=>Z)
 |.lookup t x i e=>(match Dn τ A x,Dn τ A i with|some a,I b=>CN h (BW τ t a b e h)|_,_=>Z)
 |
  .mapUpdate t m k x|.insert t m k x=>(match Dn τ A m,Dn τ A k,Dn τ A x with
  |some a,I b,I c=>Nb (BH τ t a b c h)
  |_,_,_=>Z)
 |.mapEntry t m k=>(match Dn τ A m,Dn τ A k with|some a,I b=>D6 τ t a b h|_,_=>Z)
 |.entryStore _ m s x=>(match Dn τ A m,Dn τ A s,Dn τ A x with|some a,I b,I c=>Nb (DM a b c h)|_,_,_=>Z)
 |.range t x=>(match Dn τ A x with|some v=>Gh τ t v h|none=>Z)
 |.entry j=>(match Dn τ A j with|some v=>CN h (Ou v h)|none=>Z)
 |.typeAssert x _ t e=>(match Dn τ A x with|some v=>CN h (P8 τ v t e)|none=>Z)
 |.extract t i=>(match Dn τ A t with|some (.tuple vs)=>CN h vs.toList[i]?|_=>Z)
 |.sliceToArrayPointer t x=>(match Dn τ A x with|some v=>CN h (Qd τ t v)|none=>Z)
 |_=>Z
end
variable{τ:Bb} {A:As} {fr:Fr}
def Bg (r:Gx A fr) {o:BU} {v:Aa} (h:Dn τ A o=I v):ev τ fr o=I v:=by
 cases o with
 |tmp t=>exact r t v h
 |_=>exact h
def FX (r:Gx A fr):∀{l vs},RY τ A l=I vs->O8 τ fr l=I vs
 |[],_,h=>h
 |
  o::l,vs,h=>by
  change (match Dn τ A o,RY τ A l with|some v,I vs=>I (v::vs)|_,_=>Z)=I vs at h
  rw[O8];cases a:Dn τ A o with
  |none=>simp[a] at h
  |
   some v=>
   cases b:RY τ A l with
   |none=>simp[a,b] at h
   |some w=>rw[Bg r a,FX r b];simpa[a,b] using h
def M5 (r:Gx A fr):∀{l vs},QF τ A l=I vs->Ql τ fr l=I vs
 |[],_,h=>h
 |
  (i,o)::l,vs,h=>by
  change (match Dn τ A o,QF τ A l with|some v,I vs=>I ((i,v)::vs)|_,_=>Z)=I vs at h
  rw[Ql];cases a:Dn τ A o with
  |none=>simp[a] at h
  |
   some v=>
   cases b:QF τ A l with
   |none=>simp[a,b] at h
   |some w=>rw[Bg r a,M5 r b];simpa[a,b] using h
def Me (r:Gx A fr) {o:Option BU} {v:Option Aa} (h:RQ τ A o=I v):ZK τ fr o=I v:=by
 cases o with
 |none=>exact h
 |
  some o=>
  rw[RQ] at h;rw[ZK];cases a:Dn τ A o with
  |none=>simp[a] at h
  |some v=>rw[Bg r a];simpa[a] using h
def IS (r:Gx A fr) {h:Y} {o:Op} {x:Aa×Y} (e:D9 τ A h o=I x):Ch τ fr h o=I x:=by
 unfold D9 at e;unfold Ch;cases o<;>simp only[] at e⊢
 case alloc=>exact e
 case pick c a b=>
  cases g:Dn τ A c with
  |none=>simp[g] at e
  |
   some v=>
   rw[Bg r g];rw[g] at e;cases v<;>simp only[] at e⊢<;>first|(cases e;done)|skip
   rename_i t;cases j:Dn τ A (if t=Ag then a else b) with
   |none=>rw[j] at e;cases e
   |some v=>rw[Bg r j];rw[j] at e;exact e
 case build t ps=>cases g:QF τ A ps.toList<;>simp only[g] at e<;>first|(cases e;done)|(rw[M5 r g];exact e)
 case buildSlice t n ps=>cases g:QF τ A ps.toList<;>simp only[g] at e<;>first|(cases e;done)|(rw[M5 r g];exact e)
 case makeMap t a=>cases g:RQ τ A a<;>simp only[g] at e<;>first|(cases e;done)|(rw[Me r g];exact e)
 case makeFunc fn a b=>cases g:RY τ A a.toList<;>cases j:RY τ A b.toList<;>simp only[g,j] at e<;>first|(cases e;done)|(rw[FX r g,FX r j];exact e)
 case slice t x a b c=>
  cases g:Dn τ A x<;>cases j:RQ τ A a<;>cases k:RQ τ A b<;>cases l:RQ τ A c<;>simp only[g,j,k,l] at e<;>
   first|(cases e;done)|(rw[Bg r g,Me r j,Me r k,Me r l];exact e)
 case move a=>
  cases g:Dn τ A a<;>simp only[g] at e<;>first|(cases e;done)|(rw[Bg r g];exact e)
 case assign a=>
  cases g:Dn τ A a<;>simp only[g] at e<;>first|(cases e;done)|(rw[Bg r g];exact e)
 case box t a=>
  cases g:Dn τ A a<;>simp only[g] at e<;>first|(cases e;done)|(rw[Bg r g];exact e)
 case load t a=>
  cases g:Dn τ A a<;>simp only[g] at e<;>first|(cases e;done)|(rw[Bg r g];exact e)
 case nilCheck a=>
  cases g:Dn τ A a<;>simp only[g] at e<;>first|(cases e;done)|(rw[Bg r g];exact e)
 case unOp op t a=>
  cases g:Dn τ A a<;>simp only[g] at e<;>first|(cases e;done)|(rw[Bg r g];exact e)
 case convert s d a=>
  cases g:Dn τ A a<;>simp only[g] at e<;>first|(cases e;done)|(rw[Bg r g];exact e)
 case makeInterface t a=>
  cases g:Dn τ A a<;>simp only[g] at e<;>first|(cases e;done)|(rw[Bg r g];exact e)
 case fieldAddr s a f=>
  cases g:Dn τ A a<;>simp only[g] at e<;>first|(cases e;done)|(rw[Bg r g];exact e)
 case field s a f=>
  cases g:Dn τ A a<;>simp only[g] at e<;>first|(cases e;done)|(rw[Bg r g];exact e)
 case range t a=>
  cases g:Dn τ A a<;>simp only[g] at e<;>first|(cases e;done)|(rw[Bg r g];exact e)
 case entry a=>
  cases g:Dn τ A a<;>simp only[g] at e<;>first|(cases e;done)|(rw[Bg r g];exact e)
 case typeAssert a t b m=>
  cases g:Dn τ A a<;>simp only[g] at e<;>first|(cases e;done)|(rw[Bg r g];exact e)
 case extract a i=>
  cases g:Dn τ A a<;>simp only[g] at e<;>first|(cases e;done)|(rw[Bg r g];exact e)
 case sliceToArrayPointer t a=>
  cases g:Dn τ A a<;>simp only[g] at e<;>first|(cases e;done)|(rw[Bg r g];exact e)
 case store t a b=>
  cases g:Dn τ A a<;>cases j:Dn τ A b<;>simp only[g,j] at e<;>first|(cases e;done)|(rw[Bg r g,Bg r j];exact e)|(split at e<;>simp_all)
 case binOp op t a b u=>
  cases g:Dn τ A a<;>cases j:Dn τ A b<;>simp only[g,j] at e<;>first|(cases e;done)|(rw[Bg r g,Bg r j];exact e)|(split at e<;>simp_all)
 case makeSlice t a b=>
  cases g:Dn τ A a<;>cases j:Dn τ A b<;>simp only[g,j] at e<;>first|(cases e;done)|(rw[Bg r g,Bg r j];exact e)|(split at e<;>simp_all)
 case indexAddr t a b=>
  cases g:Dn τ A a<;>cases j:Dn τ A b<;>simp only[g,j] at e<;>first|(cases e;done)|(rw[Bg r g,Bg r j];exact e)|(split at e<;>simp_all)
 case index t a b=>
  cases g:Dn τ A a<;>cases j:Dn τ A b<;>simp only[g,j] at e<;>first|(cases e;done)|(rw[Bg r g,Bg r j];exact e)|(split at e<;>simp_all)
 case lookup t a b m=>
  cases g:Dn τ A a<;>cases j:Dn τ A b<;>simp only[g,j] at e<;>first|(cases e;done)|(rw[Bg r g,Bg r j];exact e)|(split at e<;>simp_all)
 case mapEntry t a b=>
  cases g:Dn τ A a<;>cases j:Dn τ A b<;>simp only[g,j] at e<;>first|(cases e;done)|(rw[Bg r g,Bg r j];exact e)|(split at e<;>simp_all)
 case mapUpdate t a b c=>
  cases g:Dn τ A a<;>cases j:Dn τ A b<;>cases k:Dn τ A c<;>simp only[g,j,k] at e<;>first|(cases e;done)|(rw[Bg r g,Bg r j,Bg r k];exact e)|(split at e<;>simp_all)
 case insert t a b c=>
  cases g:Dn τ A a<;>cases j:Dn τ A b<;>cases k:Dn τ A c<;>simp only[g,j,k] at e<;>first|(cases e;done)|(rw[Bg r g,Bg r j,Bg r k];exact e)|(split at e<;>simp_all)
 case entryStore t a b c=>
  cases g:Dn τ A a<;>cases j:Dn τ A b<;>cases k:Dn τ A c<;>simp only[g,j,k] at e<;>first|(cases e;done)|(rw[Bg r g,Bg r j,Bg r k];exact e)|(split at e<;>simp_all)
 all_goals cases e
end
def inR:Cq->Int->Prop
 |.i8,z=>-128<=z/\z<=127
 |.i16,z=>-32768<=z/\z<=32767
 |.i32,z=>-2147483648<=z/\z<=2147483647
 |.i64,z=>-9223372036854775808<=z/\z<=9223372036854775807
 |.u8,z=>0<=z/\z<=255
 |.u16,z=>0<=z/\z<=65535
 |.u32,z=>0<=z/\z<=4294967295
 |.u64,z=>0<=z/\z<=18446744073709551615
def FC {k:Cq} {z:Int} (h:inR k z):k.wrap z=z:=by
 cases k<;>simp only[inR] at h<;>simp only[IntKind.wrap,IntKind.bits,IntKind.signed]<;>simp<;>omega
def D8 (k:Cq) (a b:Int):Int:=k.wrap (BitVec.ofInt k.bits a&&&BitVec.ofInt k.bits b).toNat
def JP (k:Cq) (a b:Int):Int:=k.wrap (BitVec.ofInt k.bits a|||BitVec.ofInt k.bits b).toNat
def Oe (k:Cq) (a b:Int):Int:=k.wrap (BitVec.ofInt k.bits a^^^BitVec.ofInt k.bits b).toNat
def Es (k:Cq) (a b:Int):Int:=k.wrap (a*2^min b.toNat k.bits)
def UX (a b:Int):Int:=IntKind.wrap .u64 (a-b)
def T0 {a b:Int} (h:inR .u64 (a-b)):UX a b=a-b:=FC h
def DN (k:Cq) (a b:Int):Int:=a.fdiv (2^min b.toNat k.bits)
inductive Bv where
 |sure (v:Aa)
 |bg (p:Prop) (v:Aa)
 |other
def Adh (op:CT) (x y:Aa):Bv:=
 match x,y with
 |
  .int k a,.int k' b=>(match op with
  |.shl=>.bg (0<=b) (.int k (Es k a b))
  |.shr=>.bg (0<=b) (.int k (DN k a b))
  |
   op=>bif Am (Ld k) (Ld k') then(match op with
   |.add=>.bg (inR k (a+b)) (.int k (a+b))
   |
    .sub=>(match k with
    |.u64=>.sure (.int .u64 (UX a b))
    |k=>.bg (inR k (a-b)) (.int k (a-b)))
   |.mul=>.bg (inR k (a*b)) (.int k (a*b))
   |.quo=>.bg (0<=a/\0<b/\inR k a) (.int k (a/b))
   |.rem=>.bg (0<=a/\0<b) (.int k (a%b))
   |.and=>.sure (.int k (D8 k a b))
   |.or=>.sure (.int k (JP k a b))
   |.xor=>.sure (.int k (Oe k a b))
   |.eql=>.sure (.bool (decide (a=b)))
   |.neq=>.sure (.bool (!decide (a=b)))
   |.lss=>.sure (.bool (decide (a<b)))
   |.leq=>.sure (.bool (decide (a<=b)))
   |.gtr=>.sure (.bool (decide (b<a)))
   |.geq=>.sure (.bool (decide (b<=a)))
   |_=>.other) else .other)
 |_,_=>.other
def Aaw {k k':Cq} (h:Am (Ld k) (Ld k')=Ag):k=k':=by
 cases k<;>cases k'<;>first|rfl|(exact Cf h (by decide))
def NU {op:CT} {t:Ai} {k k':Cq} {a b:Int} {u:Aa} (h:Hn (binOp op t (.int k a) (.int k' b))=I u):Ajn op t k a k' b=I u:=by
 cases a with
 |negSucc x=>exact h
 |
  ofNat x=>
  cases b with
  |negSucc y=>exact h
  |
   ofNat y=>
   show IG (IG (shN op k x y) (B1 (motive:=λ_=>Option Aa) Z (Vl op k x y) (O9 k k'))) (Hn (binOp op t (.int k (AQ x)) (.int k' (AQ y))))=I u;have c:∀v,Ajn op t k (AQ x) k' (AQ y)=I v->v=u:=λv d=>by
    have:=Rm d;rw[h] at this;exact(Option.some.inj this).symm
   cases e:IG (IG (shN op k x y) (B1 (motive:=λ_=>Option Aa) Z (Vl op k x y) (O9 k k'))) (Hn (binOp op t (.int k (AQ x)) (.int k' (AQ y)))) with
   |some v=>rw[c v e]
   |
    none=>
    rw[h] at e;generalize IG (shN op k x y) _=z at e;cases z<;>cases e
def CX {op:CT} {t:Ai} {k:Cq} {a b:Int} (c:op≠.shl) (d:op≠.shr):binOp op t (.int k a) (.int k b)=
 match op with
 |.add|.sub|.mul=>Op.intArith op k a b
 |.quo|.rem=>Op.intDiv op k a b
 |.and|.or|.xor|.andNot=>Op.intBits op k a b
 |_=>Op.intCmp op a b:=by
 cases op<;>first|exact Cf B c|exact Cf B d|(simp[binOp])
def Bv.ok (b:Bv) (r:Option Aa):Prop:=match b with
 |.sure v=>r=I v
 |.bg p v=>p->r=I v
 |.other=>True
def MX {τ:Bb} {op:CT} {t:Ai} {ox oy:BU} {x y:Aa}:(Adh op x y).ok (Jo τ op t ox oy x y):=by
 unfold Adh;split
 case h_2=>trivial
 rename_i k a k' b;have hb:∀op u,Hn (binOp op t (.int k a) (.int k' b))=I u->Jo τ op t ox oy (.int k a) (.int k' b)=I u:=λop u h=>NU h;have d:∀(op:CT),Op.shift op k a k' b=(if b<0 then runtimePanic (.error "negative shift amount") else match op with
  |.shl=>pure (.int k (k.wrap (a*2^min b.toNat k.bits)))
  |.shr=>pure (.int k (a.fdiv (2^min b.toNat k.bits)))
  |_=>stuck "shift: << >> expected"):=λop=>rfl
 split
 .intro h
  apply hb;show Hn (Op.shift .shl k a k' b)=_;rw[d,Bm (by omega)];rfl
 .intro h
  apply hb;show Hn (Op.shift .shr k a k' b)=_;rw[d,Bm (by omega)];rfl
 .rename_i f g
  cases i:Am (Ld k) (Ld k') with
  |false=>trivial
  |
   true=>
   have:=Aaw i;subst this;cases op<;>simp only[D1]<;>try trivial
   all_goals try(exact Cf B f)
   all_goals try(exact Cf B g)
   case add=>intro h;apply hb;rw[CX (by simp) (by simp)];simp only[Op.intArith];rw[FC h];rfl
   case sub=>
    cases k<;>first|(intro h;apply hb;rw[CX (by simp) (by simp)];simp only[Op.intArith];rw[FC h];rfl)|(apply hb;rw[CX (by simp) (by simp)];rfl)
   case mul=>intro h;apply hb;rw[CX (by simp) (by simp)];simp only[Op.intArith];rw[FC h];rfl
   case quo=>
    rintro⟨c,j,l⟩;apply hb;rw[CX (by simp) (by simp)];simp only[Op.intDiv];rw[Bm (by omega)];have e:a.tdiv b=a/b:=Int.tdiv_eq_ediv_of_nonneg c;have m:inR k (a/b):=by
     have n:0<=a/b:=Int.ediv_nonneg c (by omega);have o:a/b<=a:=Int.ediv_le_self _ c;cases k<;>simp only[inR] at l⊢<;>omega
    rw[e,FC m];rfl
   case rem=>
    rintro⟨c,j⟩;apply hb;rw[CX (by simp) (by simp)];simp only[Op.intDiv];rw[Bm (by omega),Int.tmod_eq_emod_of_nonneg c];rfl
   case and=>apply hb;rw[CX (by simp) (by simp)];rfl
   case or=>apply hb;rw[CX (by simp) (by simp)];rfl
   case xor=>apply hb;rw[CX (by simp) (by simp)];rfl
   case eql=>apply hb;rw[CX (by simp) (by simp)];simp only[Op.intCmp];rw[show(a==b)=decide (a=b) from B];rfl
   case neq=>apply hb;rw[CX (by simp) (by simp)];simp only[Op.intCmp,bne];rw[show(a==b)=decide (a=b) from B];rfl
   case lss=>apply hb;rw[CX (by simp) (by simp)];rfl
   case leq=>apply hb;rw[CX (by simp) (by simp)];rfl
   case gtr=>apply hb;rw[CX (by simp) (by simp)];rfl
   case geq=>apply hb;rw[CX (by simp) (by simp)];rfl
def Anf:BU->Bool
 |.const (.int _ (.ofNat n))=>Am n 2
 |_=>Ah
def Aqm (op:CT) (y:BU) (a b:Aa):Bv:=match op with
 |.quo=>bif Anf y then .other else Adh .quo a b
 |op=>Adh op a b
def X7 {τ:Bb} {op:CT} {t:Ai} {ox oy:BU} {x y:Aa}:(Aqm op oy x y).ok (Jo τ op t ox oy x y):=by
 unfold Aqm;split
 .cases Anf oy
  .exact(MX:(Adh .quo x y).ok _)
  .trivial
 .exact MX
def Awi {τ:Bb} {t:Ai} {ox oy:BU} {a:Int} (h:0<=a/\inR .i64 a):Jo τ .quo t ox oy (.int .i64 a) (.int .i64 2)=I (.int .i64 (a/2)):=
 (MX (τ:=τ) (op:=.quo) (t:=t) (ox:=ox) (oy:=oy) (x:=.int .i64 a) (y:=.int .i64 2)) ⟨h.1,by decide,h.2⟩
def Cd (call:Be) (f:Fn) (a:AH) (h:Y) (Q:Aa->Y->Prop):Prop:=∃v J,Q v J/\∀k kp,call f a h k kp=k v J
def Cd.mono {call:Be} {f:Fn} {a:AH} {h:Y} {Q Q':Aa->Y->Prop} (c:Cd call f a h Q) (b:∀v J,Q v J->Q' v J):Cd call f a h Q':=by
 obtain⟨v,J,d,e⟩:=c;exact⟨v,J,b _ _ d,e⟩
def Sat (p:EO->Prop) (r:RR):Prop:=∃o,r=I o/\o≠[]/\∀x∈o,p x
def Sat.join {p:EO->Prop} {a b:RR} (x:Sat p a) (y:Sat p b):Sat p (Ns a b):=by
 obtain⟨o,rfl,d,e⟩:=x;obtain⟨o',rfl,g,f⟩:=y;refine⟨o++o',B,by simp[d],λx c=>?_⟩;rcases List.mem_append.1 c with c|c
 .exact e x c
 .exact f x c
def CdA (call:Be) (f:Fn) (a:AH) (h:Y) (Q:Aa->Y->Prop):Prop:=∀k kp p,(∀v J,Q v J->Sat p (k v J))->Sat p (call f a h k kp)
def Cd.any {call:Be} {f:Fn} {a:AH} {h:Y} {Q:Aa->Y->Prop} (c:Cd call f a h Q):CdA call f a h Q:=by
 obtain⟨v,J,b,d⟩:=c;exact λk kp p H=>by rw[d];exact H _ _ b
def CdA.mono {call:Be} {f:Fn} {a:AH} {h:Y} {Q Q':Aa->Y->Prop} (c:CdA call f a h Q) (b:∀v J,Q v J->Q' v J):CdA call f a h Q':=λk kp p H=>c k kp p λv J d=>H v J (b v J d)
def CdM (m:Bool) (call:Be) (f:Fn) (a:AH) (h:Y) (Q:Aa->Y->Prop):Prop:=match m with
 |false=>Cd call f a h Q
 |true=>CdA call f a h Q
def ZT (t:Bool) (p q:Prop):Prop:=match t with
 |true=>p
 |false=>q
def Ad {t:Bool} {p q:Prop} (a:t=Ag->p) (b:t=Ah->q):ZT t p q:=by
 cases t
 .exact b B
 .exact a rfl
def Cv (s:Bd) (n:Nat):UInt8:=s.data.toList.getD n 0
section
variable(m:Bool) (τ:Bb) (call:Be)
def JW (f:Fn) (a:AH) (h:Y) (k:Aa->Y->Prop):Prop:=∃Q,CdM m call f a h Q/\∀v J,Q v J->k v J
def Akh (b:Aa) (a:AH) (h:Y) (k:Aa->Y->Prop):Prop:=
 match b with
 |.func (.func f) first cap=>JW m call (.func f) (first.toList++a++cap.toList) h k
 |.func (.yield l) first _=>JW m call (.yield l) (first.toList++a) h k
 |_=>False
def Aqb (a:List Ai):Bool:=match a with
 |t::_=>(match τ.ds.get t with|some (.slice _)=>Ag|_=>Ah)
 |_=>Ah
def Aqd (a:List Ai):Bool:=match a with
 |t::_=>(match τ.ds.get t with|some .string=>Ag|_=>Ah)
 |_=>Ah
def Aff (A:As) (h:Y) (o:Op) (k:Aa->Y->Prop):Prop:=match D9 τ A h o with
 |some (v,J)=>k v J
 |none=>False
def Agj (A:As) (h:Y) (o:Op) (k:Aa->Y->Prop):Prop:=∃v J,D9 τ A h o=I (v,J)/\k v J
def PG (A:As) (h:Y) (o:Op) (k:Aa->Y->Prop):Prop:=
 match o with
 |.move x|.assign x=>(match Dn τ A x with|some v=>k v h|none=>False)
 |
  .call c=>(match RY τ A c.args.toList with
  |none=>False
  |
   some vs=>match c.callee with
   |
    .builtin b=>(match b,vs with
    |.min,[.int q a,.int _ b]=>∀z,(z<=a/\z<=b/\(z=a\/z=b))->k (.int q z) h
    |.max,[.int q a,.int _ b]=>∀z,(a<=z/\b<=z/\(z=a\/z=b))->k (.int q z) h
    |.len,[.slice _ n _]=>bif Aqb τ c.argTypes.toList then k (.int .i64 (n:Int)) h else False
    |.len,[.string s]=>bif Aqd τ c.argTypes.toList then k (.int .i64 (s.size:Int)) h else False
    |b,vs=>∃v J,Bx τ b c.argTypes.toList vs h=I (v,J)/\k v J)
   |
    .invoke r C=>(match Dn τ A r with
    |some (.iface t v)=>∃f w,No τ h t v C=I (f,w)/\JW m call (.func f) (w::vs) h k
    |_=>False)
   |.value f=>(match Dn τ A f with|some D=>Akh m call D vs h k|none=>False))
 |
  .next it s=>(match Dn τ A it with
  |
   some v=>(match m with
   |false=>∃g J,FT v s h=I [(g,J)]/\k g J
   |true=>∃x l,FT v s h=I (x::l)/\∀u J,(u,J)∈x::l->k u J)
  |none=>False)
 |.panic _|.defer _=>False
 |
  .binOp op t x y _=>(match Dn τ A x,Dn τ A y with
  |
   some a,I b=>(match Aqm op y a b with
   |.sure v=>k v h
   |.bg p v=>p/\k v h
   |.other=>∃v,Jo τ op t x y a b=I v/\k v h)
  |_,_=>False)
 |
  .pick c a b=>(match Dn τ A c with
  |some (.bool t)=>ZT t (match Dn τ A a with|some v=>k v h|none=>False) (match Dn τ A b with|some v=>k v h|none=>False)
  |_=>False)
 |
  .load t a=>(match Dn τ A a with
  |some (.pointer (I ⟨id,off,Z⟩))=>∃v,Bw τ t h id off=I v/\k v h
  |_=>False)
 |
  .store t a x=>(match Dn τ A a,Dn τ A x with
  |some (.pointer (I ⟨id,off,Z⟩)),I v=>∃J,BA τ t h id off v=I J/\k (.tuple #[]) J
  |_,_=>False)
 |
  .convert s d x=>(match Dn τ A x with
  |
   some (.int q n)=>(match τ.ds.get s,τ.ds.get d with
   |some _,I (.int k')=>∃z,(inR k' n/\z=n\/z=k'.wrap n)/\k (.int k' z) h
   |_,_=>∃g,Ea τ s d (.int q n) h=I (g,h)/\k g h)
  |some (.string b)=>∃g J,Ea τ s d (.string b) h=I (g,J)/\k g J
  |some v=>∃g,Ea τ s d v h=I (g,h)/\k g h
  |none=>False)
 |
  .indexAddr t x i=>(match Dn τ A x,Dn τ A i,τ.ds.get t with
  |
   some (.slice (I a) len _),I (.int _ z),I (.slice e)=>(match τ.aj.get e with
   |some j=>(0<=z/\z<(len:Int))/\k (AG a.block (a.off+z.toNat*j.size)) h
   |none=>False)
  |
   some (.pointer (I ⟨id,off,Z⟩)),I (.int _ z),I (.array len e)=>(match τ.aj.get e with
   |some j=>(0<=z/\z<(len:Int))/\k (AG id (off+z.toNat*j.size)) h
   |none=>False)
  |_,_,_=>False)
 |
  .index t x i=>(match Dn τ A x,Dn τ A i with
  |
   some (.string s),I (.int _ z)=>(match τ.ds.get t with
   |some .string=>(0<=z/\z<(s.size:Int))/\k (.int .u8 (Cv s z.toNat).toNat) h
   |_=>False)
  |some a,I b=>∃v,I8 τ t a b=I v/\k v h
  |_,_=>False)
 |.makeInterface ..|.makeFunc ..|.extract ..|.nilCheck ..|.fieldAddr ..|.field ..|.build ..|.makeMap ..=>Aff τ A h o k
 |o=>Agj τ A h o k
def QD (A:As) (h:Y) (o:Op) (k:Aa->Y->Prop):Prop:=
 match o with
 |
  .convert s d x=>(match Dn τ A x,τ.ds.get d with
  |some (.slice _ _ _),I (.slice _)=>Agj τ A h (.convert s d x) k
  |_,_=>PG m τ call A h (.convert s d x) k)
 |o=>PG m τ call A h o k
def MW (A:As) (AU:List C0) (a skip:As->Prop):Option (Nat×Bool)->Prop
 |none=>a A
 |
  some (j,c)=>(match AU[j]? with
  |
   some o=>(match o.dst with
   |
    some t=>(match look A t with
    |some (.bool b)=>ZT b (bif c then a ((t,.bool Ag)::A) else skip ((t,.bool Ag)::A)) (bif c then skip ((t,.bool Ah)::A) else a ((t,.bool Ah)::A))
    |some (.tuple _)=>skip A
    |_=>False)
   |none=>False)
  |none=>False)
def HA (sz:Nat) (A:As) (d:Option Tmp) (v:Aa) (k:As->Prop):Prop:=match d with
 |none=>k A
 |some t=>bif AD t sz then k ((t,v)::A) else False
def JV (sz:Nat) (AU:List C0) (k:As->Y->Prop) (l:List C0):As->Y->Prop:=
 Hg (motive:=λ_=>As->Y->Prop) (λA h=>k A h) (λo _ a A h=>MW A AU (λA=>QD m τ call A h o.op λv J=>HA sz A o.dst v λA=>a A J)
  (λA=>HA sz A o.dst (.tuple #[]) λA=>a A h) o.guard) l
inductive Cl where
 |q|a|r|w
def RS:Op->Bool
 |.call c=>(match c.callee with|.builtin _=>Ah|_=>Ag)
 |_=>Ah
def K5 (b:Bool) (o:Op):Cl:=
 bif Dj o then .q else match o with
 |.alloc _|.box ..|.build ..|.buildSlice ..|.makeSlice ..|.makeMap ..=>.a
 |.load ..|.lookup ..|.convert ..|.range ..|.entry ..|.typeAssert ..=>.r
 |
  .call c=>(match c.callee with
  |.builtin .len|.builtin .cap|.builtin .min|.builtin .max|.builtin .unsafeSliceData=>.r
  |.builtin _=>.w
  |_=>bif b then .r else .w)
 |_=>.w
def Aqo:Cl->Cl->Bool
 |.r,.w|.w,.a|.w,.r|.w,.w=>Ag
 |_,_=>Ah
inductive DX where
 |w (i:Nat)
 |x (i j:Nat)
def exI (c:List DX) (i j:Nat):Bool:=c.any λd=>match d with
 |.x a b=>Am a i&&Am b j
 |_=>Ah
def inX (c:List DX) (i:Nat):Bool:=c.any λd=>match d with
 |.x a b=>Am a i||Am b i
 |_=>Ah
def Nt (a:List DX) (b:Bo) (i:Nat) (c:Cl):Nat->List Cl->Bool
 |_,[]=>Ag
 |j,d::l=>(!(Aqo c d)||Hy b i j||exI a i j)&&Nt a b i c (A3 j) l
def frI (a:List DX) (i:Nat):Bool:=!(a.any λd=>match d with
 |.w k=>Am i k
 |_=>Ah)
def L5 (a:List DX) (b:Bo):Nat->List Cl->List C0->Bool
 |_,_,[]=>Ag
 |i,cs,o::l=>Nt a b i (K5 (frI a i) o.op) 0 cs&&L5 a b (A3 i) (cs++[K5 (frI a i) o.op]) l
def Aez (a:List DX) (AU:Array C0):Bool:=AU.toList.all (λo=>QI AU.toList o.guard)&&L5 a (Df AU).toList 0 [] AU.toList
inductive UO where
 |ld (id:Nat)
 |lk (id:Nat) (t:Ai)
 |wr (s:WS)
 |me (t:Ai) (r:Nat) (s:WS)
 |no
def ob:UO->UO->Prop
 |.wr s,.ld id|.ld id,.wr s|.me _ _ s,.ld id|.ld id,.me _ _ s=>s.hasB id=Ah
 |.me t r s,.lk _ a|.lk _ a,.me t r s=>s=.one r/\Am a t=Ag
 |.ld _,.ld _=>True
 |_,_=>False
def Qk (A:As) (o:Op) (J:Y):UO:=match o with
 |.load _ a=>(match Dn τ A a with|some (.pointer (I ⟨id,_,Z⟩))=>.ld id|_=>.no)
 |.lookup t m _ Ah=>(match Dn τ A m with|some (.map (I r))=>.lk r t|_=>.no)
 |.mapEntry t m _=>(match Dn τ A m with|some (.map (I r))=>.me t r J.lo|_=>.wr J.lo)
 |_=>.wr J.lo
def Adj (b:List DX) (i:Nat) (c:UO) (P:Prop) (d:List (Nat×UO)):Prop:=Hg (motive:=λ_=>Prop) P (λp _ a=>bif exI b i p.1 then ob c p.2/\a else a) d
def Tw (b:List DX) (i:Nat) (c:UO) (a:List (Nat×UO)):List (Nat×UO):=bif inX b i then(i,c)::a else a
def N5 (h:Y) (s:WS):Prop:=s.ag h.nx=Ag\/(match s with
 |.one b|.pair b _=>∃hb,h.t.get b=I hb/\hb.live=Ag
 |_=>True)
def Qy (o:Op):Bool:=Dj o||(match o with
 |.load ..|.lookup ..|.entry ..|.typeAssert ..=>Ag
 |.call c=>(match c.callee with|.builtin .len|.builtin .cap|.builtin .min|.builtin .max|.builtin .unsafeSliceData=>Ag|_=>Ah)
 |_=>Ah)
def Kb (a:List DX) (sz:Nat) (AU:List C0) (k:As->Y->Prop) (l:List C0):Nat->List (Nat×UO)->As->Y->Prop:=
 Hg (motive:=λ_=>Nat->List (Nat×UO)->As->Y->Prop) (λ_ _ A h=>k A h) (λo _ d i b A h=>MW A AU (λA=>PG Ah τ call A h.ad o.op λv J=>Adj a i (Qk τ A o.op J) (
  bif RS o.op then(bif frI a i then J.lo.ag h.nx=Ag else N5 h J.lo)/\HA sz A o.dst v λc=>d (A3 i) (Tw a i (Qk τ A o.op J) b) c (h.aa J)
  else bif Qy o.op then HA sz A o.dst v (λc=>d (A3 i) (Tw a i (Qk τ A o.op J) b) c h) else HA sz A o.dst v (λc=>d (A3 i) (Tw a i (Qk τ A o.op J) b) c (h.aa J))) b)
  (λA=>HA sz A o.dst (.tuple #[]) λA=>d (A3 i) b A h) o.guard) l
def JA (sz:Nat) (AU:Array C0) (b:Bool) (k:As->Y->Prop) (A:As) (h:Y):Prop:=match b with
 |false=>JV m τ call sz AU.toList k AU.toList A h
 |true=>∃a,Aez a AU=Ag/\Kb τ call a sz AU.toList k AU.toList 0 [] A h
def Sub (l A:As):Prop:=∀t v,look l t=I v->look A t=I v
end
structure KG (σ:Type) where
 n:As->σ->Y->Prop
 x:Nat->As->σ->Y->Prop
 r:As->σ->Y->Prop
 p:Aa->As->σ->Y->Prop
def KG.wn {σ:Type} (K:KG σ) (n:As->σ->Y->Prop):KG σ:=KG.rec (motive:=λ_=>KG σ) (λ_ x r p=>⟨n,x,r,p⟩) K
def KG.bk {σ:Type} (id:Nat) (K:KG σ):KG σ:=KG.rec (motive:=λ_=>KG σ) (λn x r p=>⟨n,λa A s h=>bif Am a id then n A s h else x a A s h,r,p⟩) K
structure Md (σ:Type) where
 c3:Bool
 cH:Option (Nat->σ->σ)
 lp:Nat->(KG σ->As->σ->Y->Prop)->KG σ->As->σ->Y->Prop
def Akd:List C0->Option (List C0×BU):=Hg Z λo l a=>match l with
 |
  []=>(match o with
  |⟨Z,.panic x,_,_,_,Z⟩=>I ([],x)
  |_=>Z)
 |_=>(match a with|some (l',x)=>I (o::l',x)|none=>Z)
section
variable(m:Bool) (τ:Bb) (call:Be) {σ:Type}
def Aer (L:Nat) (c:KG σ->As->σ->Y->Prop) (K:KG σ) (A:As) (s:σ) (h:Y):Prop:=
 ∃b:Nat->As->σ->Y->Prop,(∃m a,Sub a A/\m<L/\b m a s h)/\
  ∀m A s h,b m A s h->m<L->c (K.wn λd e J=>∃m' a,Sub a d/\m'<m/\b m' a e J) A s h
def Akr (L:Nat) (c:KG Unit->As->Unit->Y->Prop) (K:KG Unit) (A:As) (_:Unit) (h:Y):Prop:=
 ∃b:Nat->As->Y->Prop,(∃m a,Sub a A/\m<L/\b m a h)/\
  ∀m A h,b m A h->m<L->c (K.wn λd _ J=>∃m' a,Sub a d/\m'<m/\b m' a J) A () h
def mdU (b:Bool):Md Unit:=⟨b,Z,Akr⟩
def mdD:Md Bo:=⟨Ah,I List.cons,Aer⟩
def Anx (l:Nat) (K:KG σ) (A:As) (s:σ) (h:Y):Prop:=
 ∃st a b sz ps c e d,h.t.get l=I (.loop st a b sz ps c e d)/\st≠.busy/\(match a with
  |none=>K.n A s (h.put l (.loop .exhausted a b sz ps c e d))
  |some .ret=>K.r A s (h.put l (.loop .exhausted a b sz ps c e d))
  |some (.exit id)=>K.x id A s (h.put l (.loop .exhausted a b sz ps c e d))
  |_=>False)
def QU (g:Nat->σ->σ) (sz:Nat) (ps:Array Tmp) (b c:DC) (K:KG σ) (A:As) (s:σ) (h:Y):Option Aa->Prop
 |some (.func (.func f) first cap)=>(match τ.fn.get f with|some fn=>fn.body.isSome=Ag|none=>False)/\∀a,Gx A ⟨a,sz,[]⟩->
  JW m call (.func f) (first.toList++[.func (.yield (A3 h.nx)) #[] #[]]++cap.toList) ((h.new (.aq Ah)).new (.loop .ready Z a sz ps.toList b c h.nx)) (λ_ d=>Anx (A3 h.nx) K A (g h.nx s) d)
 |_=>False
def IH (M:Md σ) (L:Nat) (sz:Nat) (c:DC):KG σ->As->σ->Y->Prop:=
 Code.rec (motive:=λ_=>KG σ->As->σ->Y->Prop)
  (λK A s h=>K.n A s h)
  (λ_ AU d K A s h=>match M.c3 with
   |false=>JA m τ call sz AU d (λA h=>K.n A s h) A h
   |true=>match Akd AU.toList with
    |some (l,x)=>d=Ah/\JV m τ call sz AU.toList (λA h=>match Dn τ A x with|some (.iface t v)=>K.p (.iface t v) A s h|_=>False) l A h
    |none=>JA m τ call sz AU d (λA h=>K.n A s h) A h)
  (λ_ _ a b K A s h=>a (K.wn (b K)) A s h)
  (λc _ _ a b K A s h=>match Dn τ A c with
   |some (.bool t)=>ZT t (a K A s h) (b K A s h)
   |_=>False)
  (λid _ c K A s h=>c (K.bk id) A s h)
  (λ_ c K A s h=>M.lp L c K A s h)
  (λf ps e i _ _ K A s h=>match M.cH with|some g=>QU m τ call g sz ps e i K A s h (Dn τ A f)|none=>False)
  (λid K A s h=>K.x id A s h)
  (λ_ c K A s h=>c K A s h)
  (λ_ K A s h=>K.n A s h)
  (λ_ _ _ _ _=>False)
  (λK A s h=>K.r A s h)
  (λ_ _ _ _ _=>False) c
abbrev kp (n:As->Y->Prop) (x:Nat->As->Y->Prop) (r:As->Y->Prop):KG Unit:=⟨λA _ h=>n A h,λi A _ h=>x i A h,λA _ h=>r A h,λ_ _ _ _=>False⟩
abbrev J2 (L sz:Nat) (c:DC) (K:KG Unit) (A:As) (h:Y):Prop:=IH Ah τ call (mdU Ah) L sz c K A () h
def Ex (A:As) (h:Y) (l:List ResultVar):(AH->Prop)->Prop:=
 Hg (motive:=λ_=>(AH->Prop)->Prop) (λk=>k []) (λr _ b k=>match r with
  |.tmp t=>(match look A t with|some v=>b (λvs=>k (v::vs))|none=>False)
  |
   .cell a t=>(match look A a with
   |some (.pointer (I ⟨id,off,Z⟩))=>∃v,Bw τ t h id off=I v/\b (λvs=>k (v::vs))
   |_=>False)) l
def PJ (l:AH):Nat->As:=Hg (motive:=λ_=>Nat->As) (λ_=>[]) (λv _ a i=>(i,v)::a (A3 i)) l
def Adq (L:Nat) (fn:BC) (a:AH) (h:Y) (Q:Aa->Y->Prop):Prop:=
 match fn.body with
 |some c=>J2 τ call L fn.ntmps c
  (kp (λA h=>Ex τ A h fn.results.toList (λvs=>Q (Ff vs) h)) (λ_ _ _=>False) (λA h=>Ex τ A h fn.results.toList (λvs=>Q (Ff vs) h))) (PJ a 0) h
 |none=>False
abbrev YR (L:Nat) (fn:BC) (a:AH) (h:Y) (Q:Aa->Y->Prop):Prop:=a.length<=fn.ntmps/\Adq τ call L fn a h Q
def Og:Bo->(Y->Prop)->Y->Prop
 |[],k,h=>k h
 |b::D,k,h=>h.t.get b=I (.aq Ah)/\Og D k (h.put b (.aq Ag))
def MT (L:Nat) (fn:BC) (a:AH) (h:Y) (Q:Aa->Y->Prop):Prop:=
 match fn.body with
 |some c=>(a.length<=fn.ntmps)/\IH m τ call mdD L fn.ntmps c
  (KG.mk (λA D h=>Og D (λh=>Ex τ A h fn.results.toList (λvs=>Q (Ff vs) h)) h) (λ_ _ _ _=>False) (λA D h=>Og D (λh=>Ex τ A h fn.results.toList (λvs=>Q (Ff vs) h)) h) λ_ _ _ _=>False) (PJ a 0) [] h
 |none=>False
end
section
variable{τ:Bb} {call:Be} {A:As} {fr:Fr}
def TY {f:Fn} {a:AH} {h:Y} {k:Aa->Y->Prop} (c:JW Ah call f a h k):∃v J,k v J/\∀kk kp,call f a h kk kp=kk v J:=by
 obtain⟨Q,⟨v,J,b,d⟩,e⟩:=c;exact⟨v,J,e _ _ b,d⟩
def X9 {a:Aa} {b:AH} {h:Y} {k:Aa->Y->Prop} (c:Akh Ah call a b h k):∃v J,k v J/\∀kk kp,Vn call a b h kk kp=kk v J:=by
 unfold Akh at c;split at c
 .exact TY c
 .exact TY c
 .cases c
def Aie {s d:Ai} {k:Cq} {n:Int} {h:Y} {a:Apj} {k':Cq} (b:τ.ds.get s=I a) (c:τ.ds.get d=I (.int k')):Ea τ s d (.int k n) h=I (.int k' (k'.wrap n),h):=by
 unfold Ea;rw[b,c]
def Aan {t e:Ai} {a:BD} {len cap:Nat} {k:Cq} {z:Int} {b:KR} (d:τ.ds.get t=I (.slice e)) (f:τ.aj.get e=I b) (c:0<=z/\z<(len:Int)):
 EE τ t (.slice (I a) len cap) (.int k z)=I (AG a.block (a.off+z.toNat*b.size)):=by
 obtain⟨n,rfl⟩:∃n:Nat,z=AQ n:=⟨z.toNat,(UQ c.1).symm⟩;unfold EE;simp only[d,Fs,f];have:AD n len=true:=by rw[AK];have:=c.2;simp only[M9] at this;omega
 rw[this];rfl
def Abm {t e:Ai} {id off len:Nat} {k:Cq} {z:Int} {a:KR} (c:τ.ds.get t=I (.array len e)) (d:τ.aj.get e=I a) (b:0<=z/\z<(len:Int)):
 EE τ t (.pointer (I ⟨id,off,Z⟩)) (.int k z)=I (AG id (off+z.toNat*a.size)):=by
 obtain⟨n,rfl⟩:∃n:Nat,z=AQ n:=⟨z.toNat,(UQ b.1).symm⟩;unfold EE;simp only[c,Fs,d];have:AD n len=true:=by rw[AK];have:=b.2;simp only[M9] at this;omega
 rw[this];rfl
def Akl {t:Ai} {s:Bd} {k:Cq} {z:Int} (c:τ.ds.get t=I .string) (a:0<=z/\z<(s.size:Int)):
 I8 τ t (.string s) (.int k z)=I (.int .u8 (Cv s z.toNat).toNat):=by
 obtain⟨n,rfl⟩:∃n:Nat,z=AQ n:=⟨z.toNat,(UQ a.1).symm⟩;unfold I8;simp only[c,Fs];have b:n<s.data.toList.length:=by
  have:=a.2;simp only[M9] at this;have:s.data.toList.length=s.size:=by simp
  omega
 rw[Ab b];simp[Cv,List.getD,Ab b]
def Uy {s d:Ai} {b:Bd} {h J:Y} {v:Aa} (c:Ea τ s d (.string b) h=I (v,J)):J.lo=h.lo:=by
 unfold Ea at c;split at c
 case h_2=>cases c
 rename_i f g _ _;cases g with
 |string=>cases f<;>(cases c;rfl)
 |
  slice e=>
  have a:(bif Gv τ e then(match τ.ds.get e with
   |some (.int .u8)=>I (PA (I ⟨h.nx,0,Z⟩) b.size b.size,h.new (.cells (T.laid (b.data.toList.map λb=>AL .u8 b.toNat) 0 .nil) b.size e 1 0 Ah))
   |some (.int .i32)=>I (PA (I ⟨h.nx,0,Z⟩) (CA b.size b.data.toList).length (CA b.size b.data.toList).length,h.new (.cells (T.laid (CA b.size b.data.toList) 0 .nil) (CA b.size b.data.toList).length e 0 0 Ah))
   |_=>Z) else Z)=I (v,J):=by cases f<;>exact c
  cases i:Gv τ e<;>rw[i] at a<;>simp only[D1,I0] at a
  .cases a
  .split at a
   .cases a;exact Lo _ _
   .cases a;exact Lo _ _
   .cases a
 |_=>cases f<;>cases c
def Kj (r:Gx A fr) {h:Y} {o:Op} {k:Aa->Y->Prop} (c:PG Ah τ call A h o k):
 ∃v J,k v J/\(∀kk kp,F9 τ call fr h o kk kp=kk v J)/\(RS o=Ag\/(∃b vs c,o=.call c/\c.callee=.builtin b/\Bx τ b c.argTypes.toList vs h=I (v,J)/\O8 τ fr c.args.toList=I vs)\/
  (∃it s K,o=.next it s/\FT K s h=I [(v,J)])\/Ch τ fr h o=I (v,J)/\(∀s d x,o=.convert s d x->J.lo=h.lo)):=by
 have R:∀{o:Op} {v:Aa} {J:Y},Ch τ fr h o=I (v,J)->(∀c,o≠.call c)->(∀i s,o≠.next i s)->(∀x,o≠.panic x)->∀kk kp,F9 τ call fr h o kk kp=kk v J:=by
  intro o v J E g l O kk kp;cases o<;>simp only[F9]<;>first|(rw[E];done)|exact Cf B (g _)|exact Cf B (l _ _)|exact Cf B (O _)|(rw[E])
 have Da:∀{o:Op} {v:Aa} {J:Y},k v J->D9 τ A h o=I (v,J)->(∀c,o≠.call c)->(∀i s,o≠.next i s)->(∀x,o≠.panic x)->(∀s d x,o=.convert s d x->J.lo=h.lo)->
  ∃v J,k v J/\(∀kk kp,F9 τ call fr h o kk kp=kk v J)/\(RS o=Ag\/(∃b vs c,o=.call c/\c.callee=.builtin b/\Bx τ b c.argTypes.toList vs h=I (v,J)/\O8 τ fr c.args.toList=I vs)\/
  (∃it s K,o=.next it s/\FT K s h=I [(v,J)])\/Ch τ fr h o=I (v,J)/\(∀s d x,o=.convert s d x->J.lo=h.lo)):=
  λF E g l O S=>⟨_,_,F,R (IS r E) g l O,.inr (.inr (.inr ⟨IS r E,S⟩))⟩
 unfold PG at c;split at c
 .rename_i x
  split at c
  .rename_i v m;exact Da (o:=.move x) c (by simp only[D9,m,CN]) (by simp) (by simp) (by simp) (by simp)
  .cases c
 .rename_i x
  split at c
  .rename_i v m;exact Da (o:=.assign x) c (by simp only[D9,m,CN]) (by simp) (by simp) (by simp) (by simp)
  .cases c
 .rename_i cl
  split at c
  .cases c
  .rename_i vs T
   have N:=FX r T;split at c
   .rename_i b hb
    have L:∀{v J},Bx τ b cl.argTypes.toList vs h=I (v,J)->k v J->∃v J,k v J/\(∀kk kp,F9 τ call fr h (.call cl) kk kp=kk v J)/\(RS (.call cl)=Ag\/(∃b vs c,Op.call cl=.call c/\c.callee=.builtin b/\Bx τ b c.argTypes.toList vs h=I (v,J)/\O8 τ fr c.args.toList=I vs)\/
     (∃it s K,Op.call cl=.next it s/\FT K s h=I [(v,J)])\/Ch τ fr h (.call cl)=I (v,J)/\(∀s d x,Op.call cl=.convert s d x->J.lo=h.lo)):=
     λC F=>⟨_,_,F,λkk kp=>by simp only[F9,Ju,N,hb,C],.inr (.inl ⟨b,vs,cl,B,hb,C,N⟩)⟩
    split at c
    .rename_i q a V M
     refine L (v:=.int q (if M<a then M else a)) (J:=h) B (c _ ?_)
     split<;>omega
    .rename_i q a V M
     refine L (v:=.int q (if M>a then M else a)) (J:=h) B (c _ ?_)
     split<;>omega
    .rename_i a n c0
     cases j:Aqb τ cl.argTypes.toList with
     |false=>rw[j] at c;cases c
     |
      true=>
      rw[j] at c;refine L (v:=.int .i64 (n:Int)) (J:=h) ?_ c
      revert j
      unfold Aqb;cases cl.argTypes.toList with
      |nil=>intro j;cases j
      |
       cons t W=>
       intro j;simp only[] at j;split at j
       .rename_i e' D
        simp only[Bx,I7,D];rfl
       .cases j
    .rename_i s
     cases j:Aqd τ cl.argTypes.toList with
     |false=>rw[j] at c;cases c
     |
      true=>
      rw[j] at c;refine L (v:=.int .i64 (s.size:Int)) (J:=h) ?_ c
      revert j
      unfold Aqd;cases cl.argTypes.toList with
      |nil=>intro j;cases j
      |
       cons t W=>
       intro j;simp only[] at j;split at j
       .rename_i D
        simp only[Bx,I7,D];rfl
       .cases j
    .obtain⟨v,J,C,F⟩:=c
     exact L C F
   .rename_i rr ab hb
    split at c
    .rename_i t v m
     obtain⟨f,r',X,hc⟩:=c;obtain⟨H,J,g,l⟩:=TY hc;exact⟨H,J,g,λkk kp=>by simp only[F9,Ju,N,hb,Bg r m,Hd,X,l],.inl (by simp[RS,hb])⟩
    .cases c
   .rename_i f hb
    split at c
    .rename_i fv m
     obtain⟨H,J,g,l⟩:=X9 c;exact⟨H,J,g,λkk kp=>by simp only[F9,Ju,N,hb,Bg r m,l],.inl (by simp[RS,hb])⟩
    .cases c
 .rename_i it s
  split at c
  .rename_i v m
   obtain⟨H,J,g,l⟩:=c;exact⟨H,J,l,λkk kp=>by simp only[F9,Bg r m,g],.inr (.inr (.inl ⟨it,s,v,B,g⟩))⟩
  .cases c
 .cases c
 .cases c
 .rename_i op t x y u
  split at c
  .rename_i a b w hb
   have j:=X7 (τ:=τ) (op:=op) (t:=t) (ox:=x) (oy:=y) (x:=a) (y:=b);split at c
   .rename_i v m
    rw[m] at j;exact Da (o:=.binOp op t x y u) c (by simp only[D9,w,hb,show Jo τ op t x y a b=I v from j,CN]) (by simp) (by simp) (by simp) (by simp)
   .rename_i p v m
    rw[m] at j;exact Da (o:=.binOp op t x y u) c.2 (by simp only[D9,w,hb,show Jo τ op t x y a b=I v from j c.1,CN]) (by simp) (by simp) (by simp) (by simp)
   .obtain⟨v,g,l⟩:=c
    exact Da (o:=.binOp op t x y u) l (by simp only[D9,w,hb,g,CN]) (by simp) (by simp) (by simp) (by simp)
  .cases c
 .rename_i Q a b
  split at c
  .rename_i t D
   cases t with
   |
    true=>
    change (match Dn τ A a with|some v=>k v h|none=>False) at c
    split at c
    .rename_i v m;exact Da (o:=.pick Q a b) c (by simp only[D9,D,if_true,m,CN]) (by simp) (by simp) (by simp) (by simp)
    .cases c
   |
    false=>
    change (match Dn τ A b with|some v=>k v h|none=>False) at c
    split at c
    .rename_i v m;exact Da (o:=.pick Q a b) c (by simp[D9,D,m,CN]) (by simp) (by simp) (by simp) (by simp)
    .cases c
  .cases c
 .rename_i t a
  split at c
  .rename_i id off w
   obtain⟨v,g,l⟩:=c;exact Da (o:=.load t a) l (by simp only[D9,w,g,CN]) (by simp) (by simp) (by simp) (by simp)
  .cases c
 .rename_i t a x
  split at c
  .rename_i id off v w C
   obtain⟨J,g,l⟩:=c;exact Da (o:=.store t a x) l (by simp only[D9,w,C,g,Nb]) (by simp) (by simp) (by simp) (by simp)
  .cases c
 .rename_i s d x
  split at c
  .rename_i q n C
   split at c
   .rename_i sd k' j hd
    obtain⟨z,hz,F⟩:=c;have:k'.wrap n=z:=by
     rcases hz with⟨g,rfl⟩|rfl
     .exact FC g
     .rfl
    exact Da (o:=.convert s d x) F (by simp only[D9,C,Aie j hd,this]) (by simp) (by simp) (by simp) (λ_ _ _ _=>rfl)
   .obtain⟨H,g,l⟩:=c
    exact Da (o:=.convert s d x) l (by simp only[D9,C,g]) (by simp) (by simp) (by simp) (λ_ _ _ _=>rfl)
  .rename_i b C
   obtain⟨H,J,g,l⟩:=c;refine Da (o:=.convert s d x) l (by simp only[D9,C,g]) (by simp) (by simp) (by simp) (λ_ _ _ _=>Uy g)
  .rename_i v _ _ C
   obtain⟨H,g,l⟩:=c;exact Da (o:=.convert s d x) l (by simp only[D9,C,g]) (by simp) (by simp) (by simp) (λ_ _ _ _=>rfl)
  .cases c
 .rename_i t x i
  split at c
  .rename_i a len cap q z e w U D
   split at c
   .rename_i aa P
    exact Da (o:=.indexAddr t x i) c.2 (by simp only[D9,w,U,Aan D P c.1,CN]) (by simp) (by simp) (by simp) (by simp)
   .cases c
  .rename_i id off q z len e w U D
   split at c
   .rename_i aa P
    exact Da (o:=.indexAddr t x i) c.2 (by simp only[D9,w,U,Abm D P c.1,CN]) (by simp) (by simp) (by simp) (by simp)
   .cases c
  .cases c
 .rename_i t x i
  split at c
  .rename_i s q z w U
   split at c
   .rename_i D
    exact Da (o:=.index t x i) c.2 (by simp only[D9,w,U,Akl D c.1,CN]) (by simp) (by simp) (by simp) (by simp)
   .cases c
  .rename_i a b _ w U
   obtain⟨v,g,l⟩:=c;exact Da (o:=.index t x i) l (by simp only[D9,w,U,g,CN]) (by simp) (by simp) (by simp) (by simp)
  .cases c
 all_goals try(
  unfold Aff at c;split at c
  .rename_i v J E
   exact Da c E (by simp) (by simp) (by simp) (by simp)
  .cases c)
 obtain⟨v,J,E,F⟩:=c;exact Da F E (λc e=>‹∀c,o=Op.call c->False› c e) (λi s e=>‹∀i s,o=Op.next i s->False› i s e) (λx e=>‹∀x,o=Op.panic x->False› x e) (λs d x e=>(‹∀s d x,o=Op.convert s d x->False› s d x e).elim)
end
section
variable{τ:Bb} {call:Be} {A:As} {fr:Fr}
def GC (i t:Nat) (v:Aa) (A:As):look ((i,v)::A) t=if i=t then I v else look A t:=by
 show(bif Am i t then I v else look A t)=_
 by_cases h:i=t
 .subst h;simp
 .rw[Bm h,show Am i t=Ah from Bool.eq_false_iff.2 λe=>h (Af e)];rfl
def Ahw {t:Nat} {v:Aa} (r:Gx A fr) (b:look A t=I v):Gx ((t,v)::A) fr:=by
 intro s u a;rw[GC] at a;split at a
 .rename_i e;subst e;cases a;exact r _ _ b
 .exact r _ _ a
def FY {sz:Nat} {d:Option Tmp} {v:Aa} {k:As->Prop} (c:HA sz A d v k) (r:Gx A fr) (f:fr.sz=sz):
 ∃g a,fr.set d v=I a/\Gx g a/\a.sz=sz/\a.ds=fr.ds/\k g:=by
 cases d with
 |none=>exact⟨A,fr,B,r,f,B,c⟩
 |
  some t=>
  change (bif AD t sz then k ((t,v)::A) else False) at c
  cases hb:AD t sz with
  |false=>rw[hb] at c;cases c
  |
   true=>
   rw[hb] at c;cases fr with
   |
    mk i s ds=>
    simp only at f;subst f;refine⟨_,⟨i.ins t v,s,ds⟩,?_,?_,B,B,c⟩
    .show(bif AD t s then _ else Z)=_
     rw[hb];rfl
    .intro x u b
     show(i.ins t v).get x=I u;rw[GC] at b;rw[T.dA];split at b
     .rename_i e;subst e;rw[Bi rfl];exact b
     .rename_i e;rw[Bm (λh=>e h.symm)];exact r _ _ b
def Kw {AU:List C0} {e skip:As->Prop} {g:Option (Nat×Bool)} (c:MW A AU e skip g) (r:Gx A fr):
 (∃a,Gx a fr/\E5 fr AU g=I Ag/\e a)\/(∃a,Gx a fr/\E5 fr AU g=I Ah/\skip a):=by
 cases g with
 |none=>exact .inl ⟨A,r,B,c⟩
 |
  some k=>
  obtain⟨j,d⟩:=k;simp only[MW] at c;split at c
  case h_2=>cases c
  rename_i o f;split at c
  case h_2=>cases c
  rename_i t h;split at c
  case h_3=>cases c
  case h_2=>
   rename_i vs hb;exact .inr ⟨A,r,by unfold E5;simp only[f,h,r _ _ hb],c⟩
  rename_i b hb;have l:E5 fr AU (I (j,d))=I (b==d):=by
   unfold E5;simp only[f,h,r _ _ hb]
  have i:=Ahw r hb;rw[l];cases b<;>cases d<;>first
   |exact .inl ⟨_,i,rfl,c⟩
   |exact .inr ⟨_,i,rfl,c⟩
def WJ (r:Gx A fr) {h:Y} {o:Op} {k:Aa->Y->Prop} (c:QD Ah τ call A h o k):∃v J,k v J/\(∀kk kp,F9 τ call fr h o kk kp=kk v J)/\∀g,o≠.defer g:=by
 unfold QD at c;split at c
 .rename_i s d x
  split at c
  .obtain⟨v,J,e,i⟩:=c
   exact⟨v,J,i,λkk kp=>by simp only[F9,IS r e],by simp⟩
  .obtain⟨v,a,b,f,_⟩:=Kj r c
   exact⟨v,a,b,f,by simp⟩
 .obtain⟨v,a,b,f,_⟩:=Kj r c
  exact⟨v,a,b,f,λg e=>by rw[e] at c;exact c⟩
def Ku {sz:Nat} {AU:List C0} {ro:Option Nat} {k:As->Y->Prop}:∀(l:List C0) {A:As} {fr:Fr} {h:Y},JV Ah τ call sz AU k l A h->Gx A fr->fr.sz=sz->
 ∃b a J,Gx b a/\a.sz=sz/\a.ds=fr.ds/\k b J/\∀kp kk,EX τ call ro AU kp kk l fr h=kk a J
 |[],A,fr,h,c,r,d=>⟨A,fr,h,r,d,B,c,λ_ _=>rfl⟩
 |
  o::l,A,fr,h,c,r,d=>by
  change MW A AU (λA=>QD Ah τ call A h o.op λv J=>HA sz A o.dst v λA=>JV Ah τ call sz AU k l A J)
   (λA=>HA sz A o.dst (.tuple #[]) λA=>JV Ah τ call sz AU k l A h) o.guard at c
  rcases Kw c r with⟨u,f,g,c1⟩|⟨u,f,g,c1⟩
  .obtain⟨v,E,w,x,y⟩:=WJ f c1
   obtain⟨z,C,i,j,m,d2,c3⟩:=FY w f d;obtain⟨b,a,J,n,p,q,s,t⟩:=Ku l c3 j m;refine⟨b,a,J,n,p,q.trans d2,s,λkp kk=>?_⟩;rw[EX,g];simp only[];unfold IB;split
   .rename_i D e;exact Cf e (y D)
   .rw[x,i]
    exact t kp kk
  .obtain⟨z,C,i,j,m,d2,c3⟩:=FY c1 f d
   obtain⟨b,a,J,n,p,q,s,t⟩:=Ku l c3 j m;refine⟨b,a,J,n,p,q.trans d2,s,λkp kk=>?_⟩;rw[EX,g];simp only[i];exact t kp kk
def Axd (τ:Bb) (call:Be) (ro:Option Nat):Prop:=∀(sz:Nat) (AU:Array C0) (b:Bool) (k:As->Y->Prop) (A:As) (fr:Fr) (h:Y),JA Ah τ call sz AU b k A h->Gx A fr->fr.sz=sz->
 ∃c a J,Gx c a/\a.sz=sz/\a.ds=fr.ds/\k c J/\∀K,T4 τ call ro AU b K fr h=K.n a J
def Hf {A:As} {fr:Fr} (r:Gx A fr) {h:Y}:∀(f:List ResultVar) {k:AH->Prop},Ex τ A h f k->∃vs,Ng τ fr h f=I vs/\k vs
 |[],k,c=>⟨[],B,c⟩
 |
  .tmp t::l,k,c=>by
  change (match look A t with|some v=>Ex τ A h l λvs=>k (v::vs)|none=>False) at c
  split at c
  .rename_i v b
   obtain⟨vs,d,e⟩:=Hf r l c;exact⟨v::vs,by simp only[Ng,r _ _ b,d],e⟩
  .cases c
 |
  .cell a t::l,k,c=>by
  change (match look A a with
   |some (.pointer (I ⟨id,off,Z⟩))=>∃v,Bw τ t h id off=I v/\Ex τ A h l λvs=>k (v::vs)
   |_=>False) at c
  split at c
  .rename_i id off b
   obtain⟨v,g,c⟩:=c;obtain⟨vs,d,e⟩:=Hf r l c;exact⟨v::vs,by simp only[Ng,r _ _ b,g,d],e⟩
  .cases c
def Sz:∀(l:AH) (i t:Nat) (v:Aa),look (PJ l i) t=I v->i<=t/\l[t-i]?=I v
 |[],i,t,v,h=>by cases h
 |
  x::l,i,t,v,h=>by
  rw[show PJ (x::l) i=(i,x)::PJ l (i+1) from B,GC] at h;split at h
  .rename_i e;subst e;cases h;exact⟨Ae _,by simp⟩
  .rename_i e
   obtain⟨b,a⟩:=Sz l (i+1) t v h;refine⟨by omega,?_⟩;obtain⟨d,rfl⟩:∃d,t=i+1+d:=⟨t-(i+1),by omega⟩;rw[show i+1+d-(i+1)=d by omega] at a;rw[show i+1+d-i=d+1 by omega];exact a
end
def DZ (h:Y):h.ad.lo=.no:=by cases h;rfl
def Ow (h:Y):h.ad.t=h.t:=by cases h;rfl
def BF (h:Y):h.ad.nx=h.nx:=by cases h;rfl
def XG {h J:Y} (w:Wr1 h.ad J):N5 h J.lo:=by
 rcases w with e|⟨b,hb,a,c,e⟩
 .rw[e,DZ];exact .inl B
 .rw[e,DZ]
  refine .inr ?_;rw[Ow] at a;exact⟨hb,a,c⟩
def Hi.R:Hi->Prop
 |.aK|.rd _|.lk _ _|.aD=>True
 |_=>False
def R4:Cl->Hi->Prop
 |.q,e=>e=.aK
 |.a,e=>e=.aK
 |.r,e=>e.R
 |.w,_=>True
section
variable{τ:Bb} {call:Be} {A:As} {fr:Fr}
def Arb {h:Y} {s:WS} (a:s.ag h.nx=Ag):Fe h s=.aD:=by
 unfold Fe;rw[a];rfl
def Alz {o:Op} {h:Y} {s:WS} (b:s.ag h.nx=Ag):(CF τ fr o h s).R:=by
 unfold CF;rw[Arb b];cases Dj o with
 |true=>trivial
 |
  false=>
  show Hi.R (match o with
   |.alloc _|.box ..|.build ..|.buildSlice ..|.makeSlice ..|.makeMap ..=>.aK
   |.load _ a=>_
   |.lookup t m _ c=>_
   |.mapEntry t m _=>_
   |.convert _ _ x=>_
   |.call {callee:=.builtin .len,args,..}=>_
   |_=>.aD)
  split<;>first|trivial|(split<;>first|trivial|(cases‹Bool›<;>trivial))
def Alg {h:Y} {s:WS} (a:N5 h s):(Fe h s).ok=true:=by
 unfold Fe;cases e:s.ag h.nx with
 |true=>rfl
 |
  false=>
  rcases a with a|a
  .rw[e] at a;cases a
  .cases s with
   |one b=>obtain⟨hb,c,d⟩:=a;simp[c,d,Hi.ok]
   |pair b lo=>obtain⟨hb,c,d⟩:=a;simp[c,d,Hi.ok]
   |_=>rfl
def Arp {t:Ai} {r:Nat} {e:Hi} (h:e.ok=Ag):(Xb t r e).ok=true:=by
 unfold Xb;split
 .cases Am _ r<;>rfl
 .exact h
def Agp {o:Op} {h:Y} {s:WS} (c:N5 h s):(CF τ fr o h s).ok=true:=by
 have b:=Alg c;unfold CF;cases Dj o with
 |true=>rfl
 |
  false=>
  show Hi.ok (match o with
   |.alloc _|.box ..|.build ..|.buildSlice ..|.makeSlice ..|.makeMap ..=>.aK
   |.load _ a=>_
   |.lookup t m _ d=>_
   |.mapEntry t m _=>_
   |.convert _ _ x=>_
   |.call {callee:=.builtin .len,args,..}=>_
   |_=>_)=Ag
  split<;>first|rfl|exact b|(split<;>first|rfl|exact b|exact Arp b|(cases‹Bool›<;>rfl))
def XW {c b:Cl} {e d:Hi} {nx nx':Nat} (g:R4 c e) (f:R4 b d) (i:b=.q->nx=nx') (a:MF e d nx nx'=Ag):Aqo c b=true:=by
 cases c<;>simp only[R4] at g
 .subst g;cases d<;>cases a
 .subst g;cases d<;>cases a
 .cases e<;>first|exact Cf g (λh=>h)|skip
  all_goals(cases d<;>first|(cases a;done)|skip)
  all_goals(cases b<;>simp only[R4] at f<;>first|(cases f;done)|rfl|exact Cf f (λh=>h))
 .cases b with
  |
   q=>
   simp only[R4] at f;subst f;have:=i B;subst this;cases e with
   |
    wr s j=>
    change s.meets nx nx=Ag at a;cases s<;>simp[WS.meets,AK] at a<;>omega
   |_=>cases a
  |_=>rfl
end
section
variable{τ:Bb} {call:Be} {A:As} {fr:Fr}
def Hi.R.ok {e:Hi} (h:e.R):e.ok=true:=by cases e<;>first|rfl|exact Cf h (λh=>h)
def Ra {o:Option Aa} {v:Aa} {h J:Y} (a:CN h o=I (v,J)):J=h:=by
 cases o with
 |none=>cases a
 |some x=>cases a;rfl
def Ru {o:Op} {h J:Y} {v:Aa} (b:Dj o=Ag) (a:Ch τ fr h o=I (v,J)):J=h:=by
 cases o<;>first|(cases b;done)|(simp only[Ch] at a;repeat' first|(cases a;done)|exact Ra a|(cases a;rfl)|split at a)
def Vq (τ:Bb) (fr:Fr) (b:Bool) (o:Op) (h a:Y):Prop:=
 R4 (K5 b o) (CF τ fr o h a.lo)/\(CF τ fr o h a.lo).ok=Ag/\(K5 b o=.q->CF τ fr o h a.lo=.aK/\a.nx=h.nx)
def Qa {a:Bool} {o:Op} {h b:Y} (c:K5 a o=.r) (d:b.lo.ag h.nx=Ag):Vq τ fr a o h b:=by
 have:=Alz (τ:=τ) (fr:=fr) (o:=o) d;exact⟨by rw[c];exact this,this.ok,λh=>by rw[c] at h;cases h⟩
def P2 {a:Bool} {o:Op} {h b:Y} (c:K5 a o=.w) (d:N5 h b.lo):Vq τ fr a o h b:=
 ⟨by rw[c];trivial,Agp d,λh=>by rw[c] at h;cases h⟩
def MZ {h a:Y} (e:a.lo=h.ad.lo):a.lo.ag h.nx=true:=by rw[e,DZ];rfl
def Aih {f:Bool} {o:Op} {h b:Y} {v:Aa} (a:Ch τ fr h.ad o=I (v,b)) (g:∀s d x,o=.convert s d x->b.lo=h.ad.lo):Vq τ fr f o h b:=by
 have i:=XG (Zr a).2;cases c:Dj o with
 |
  true=>
  have:=Ru c a;have e:CF τ fr o h b.lo=.aK:=by unfold CF;rw[c];rfl
  have j:K5 f o=.q:=by unfold K5;rw[c];rfl
  exact⟨by rw[j,e];rfl,by rw[e];rfl,λ_=>⟨e,by rw[this,BF]⟩⟩
 |
  false=>
  cases o<;>first
   |(cases c;done)
   |exact⟨rfl,rfl,λh=>by cases h⟩
   |(refine Qa rfl (MZ ?_);first|exact g _ _ _ rfl|(simp only[Ch,Gh] at a;repeat' first|(cases a;done)|(rw[Ra a];done)|(cases a;exact Lo _ _)|split at a))
   |(cases a;done)
   |exact P2 rfl i
def WO {f:Bool} {c:Call} {b:Builtin} (hb:c.callee=.builtin b) {vs:AH} {v:Aa} {h d:Y} (a:Bx τ b c.argTypes.toList vs h.ad=I (v,d)):Vq τ fr f (.call c) h d:=by
 have g:=XG (Pj a).2;have one:∀{o:Option Aa},(match o with|some v=>I (v,h.ad)|none=>Z)=I (v,d)->d.lo=h.ad.lo:=λ{o} e=>by
  cases o<;>cases e;rfl
 cases b
 case len|cap|unsafeSliceData=>exact Qa (by simp[K5,Dj,hb]) (MZ (one a))
 case min|max=>
  refine Qa (by simp[K5,Dj,hb]) (MZ ?_);simp only[Bx] at a;split at a<;>first|exact one a|cases a
 all_goals exact P2 (by simp[K5,Dj,hb]) g
def Ux {b:Builtin} {d:List Ai} {vs:AH} {v:Aa} {h c:Y} (f:(match Callee.builtin b with|.builtin .len|.builtin .cap|.builtin .min|.builtin .max|.builtin .unsafeSliceData=>Ag|_=>Ah)=Ag) (a:Bx τ b d vs h=I (v,c)):c=h:=by
 have one:∀{o:Option Aa},(match o with|some v=>I (v,h)|none=>Z)=I (v,c)->c=h:=λ{o} e=>by
  cases o<;>cases e;rfl
 cases b<;>first|(cases f;done)|exact one a|(simp only[Bx] at a;split at a<;>first|exact one a|cases a)
def Aag {o:Op} {v:Aa} {h c:Y} (a:Qy o=Ag) (b:Ch τ fr h o=I (v,c)):c=h:=by
 unfold Qy at a;rw[Dm] at a;rcases a with d|a
 .exact Ru d b
 .split at a<;>first|(cases a;done)|(simp only[Ch] at b;repeat' first|(cases b;done)|exact Ra b|split at b)
def Vc:UO->Hi->Prop
 |.ld id,e=>e=.rd id
 |.lk id t,e=>e=.lk id t
 |.wr s,e=>∀a b,e=.wr a b->a=s
 |.me t r s,e=>∀a b,e=.wr a b->a=s/\(s=.one r->b=I t)
 |.no,_=>True
def Ais {i j:UO} {e c:Hi} {nx nx':Nat} (h:ob i j) (d:Vc i e) (f:Vc j c):MF e c nx nx'=false:=by
 cases i<;>cases j<;>first|exact Cf h (λh=>h)|skip
 case ld.ld a b=>obtain rfl:e=.rd a:=d;obtain rfl:c=.rd b:=f;rfl
 case ld.wr a s=>
  obtain rfl:e=.rd a:=d;cases c<;>first|rfl|(obtain rfl:=f _ _ B;exact h)
 case ld.me a t r s=>
  obtain rfl:e=.rd a:=d;cases c<;>first|rfl|(obtain⟨rfl,_⟩:=f _ _ B;exact h)
 case wr.ld s a=>
  obtain rfl:c=.rd a:=f;cases e<;>first|rfl|(obtain rfl:=d _ _ B;exact h)
 case me.ld t r s a=>
  obtain rfl:c=.rd a:=f;cases e<;>first|rfl|(obtain⟨rfl,_⟩:=d _ _ B;exact h)
 case lk.me a g t r s=>
  obtain rfl:e=.lk a g:=d;cases c<;>first|rfl|skip
  obtain⟨rfl,k⟩:=f _ _ B;rw[k h.1];show(_&&!(Am g t))=Ah;rw[h.2];simp
 case me.lk t r s a g=>
  obtain rfl:c=.lk a g:=f;cases e<;>first|rfl|skip
  obtain⟨rfl,k⟩:=d _ _ B;rw[k h.1];show(_&&!(Am g t))=Ah;rw[h.2];simp
def Alr {h:Y} {s a:WS} {b:Option Ai} (e:Fe h s=.wr a b):a=s:=by
 unfold Fe at e;cases c:s.ag h.nx<;>rw[c] at e<;>(try simp only[I0] at e)
 all_goals repeat' first|(cases e;done)|(cases e;rfl)|(cases d:HB.live _<;>rw[d] at e)|split at e
def Ars {t:Ai} {r:Nat} {x:Hi} {s c:WS} {a:Option Ai} (d:∀f a,x=.wr f a->f=s) (e:Xb t r x=.wr c a):c=s:=by
 unfold Xb at e;split at e
 .rename_i b m
  have:=d _ _ B;cases hb:Am b r with
  |true=>rw[hb] at e;cases e;exact this
  |false=>rw[hb] at e;cases e;exact this
 .exact d _ _ e
def Q3 {o:Op} {h:Y} {s a:WS} {b:Option Ai} (e:CF τ fr o h s=.wr a b):a=s:=by
 have c:∀{a b},Fe h s=.wr a b->a=s:=λe=>Alr e;unfold CF at e;cases d:Dj o with
 |true=>rw[d] at e;cases e
 |
  false=>
  rw[d] at e;simp only[I0] at e;split at e<;>first
   |(cases e;done)
   |exact c e
   |(split at e<;>first
    |(cases e;done)
    |exact c e
    |exact Ars (λf b h=>c h) e
    |(cases‹Bool›<;>cases e))
def Aub {t:Ai} {r:Nat} {h:Y} {s c:WS} {a:Option Ai} (e:Xb t r (Fe h s)=.wr c a) (d:c=.one r):a=I t:=by
 unfold Xb at e;split at e
 .rename_i b m _
  cases hb:Am b r with
  |true=>rw[hb] at e;cases e;rfl
  |false=>rw[hb] at e;cases e;cases d;simp at hb
 .rename_i f
  rw[d] at e;exact Cf e (f r a)
def Amh (r:Gx A fr) {o:Op} {h J:Y}:Vc (Qk τ A o J) (CF τ fr o h J.lo):=by
 unfold Qk;split
 .rename_i t a
  split
  .rename_i id off g
   show CF τ fr (.load t a) h J.lo=.rd id;unfold CF;simp only[show Dj (.load t a)=Ah from B,I0,Bg r g]
  .trivial
 .rename_i t m k
  split
  .rename_i x b
   show CF τ fr (.lookup t m k Ah) h J.lo=.lk x t;unfold CF;simp only[show Dj (.lookup t m k Ah)=Ah from B,I0,Bg r b]
  .trivial
 .rename_i t m k
  split
  .rename_i x b
   intro c d e;have f:=Q3 e;refine⟨f,λi=>?_⟩;unfold CF at e;simp only[show Dj (.mapEntry t m k)=Ah from B,I0,Bg r b] at e;exact Aub e (f.trans i)
  .exact λc d e=>Q3 e
 .exact λc d e=>Q3 e
def Q2 {b:List DX} {i:Nat} {c:UO} {P:Prop}:∀{d:List (Nat×UO)},Adj b i c P d->P/\∀p∈d,exI b i p.1=Ag->ob c p.2
 |[],h=>⟨h,λp a=>by cases a⟩
 |
  q::d,h=>by
  change (bif exI b i q.1 then ob c q.2/\Adj b i c P d else Adj b i c P d) at h
  cases f:exI b i q.1 with
  |
   true=>
   rw[f] at h;obtain⟨g,j⟩:=Q2 h.2;refine⟨g,λp a e=>?_⟩;rcases List.mem_cons.1 a with rfl|a
   .exact h.1
   .exact j p a e
  |
   false=>
   rw[f] at h;obtain⟨g,j⟩:=Q2 h;refine⟨g,λp a e=>?_⟩;rcases List.mem_cons.1 a with rfl|a
   .rw[f] at e;cases e
   .exact j p a e
def Alq {e:List DX} {i j:Nat} (h:exI e i j=Ag):inX e j=true:=by
 unfold exI at h;unfold inX;rw[List.any_eq_true] at h⊢;obtain⟨d,f,c⟩:=h;refine⟨d,f,?_⟩;cases d with
 |w k=>cases c
 |x a b=>rw[An] at c;show(Am a j||Am b j)=Ag;rw[c.2,Bool.or_true]
def Aoz (b:List DX) (c:Log) (d:List (Nat×UO)):Prop:=∀x∈c,inX b x.1=Ag->∃a,(x.1,a)∈d/\Vc a x.2.1
def Alt {f:List DX} {b:Bo} {i:Nat} {c:Cl} {e:Hi} {g:Log} {cs:List Cl} {m:List (Nat×UO)} {n:UO} (s:R4 c e) (t:e.ok=Ag) (u:∀x∈g,∃a,cs[x.1]?=I a/\R4 a x.2.1/\a≠.q) (v:Nt f b i c 0 cs=Ag)
 (w:Aoz f g m) (y:∀p∈m,exI f i p.1=Ag->ob n p.2) (z:Vc n e):Lz b i e g=true:=by
 have Cw:∀(cs:List Cl) (d:Nat),Nt f b i c d cs=Ag->∀j a,cs[j]?=I a->Aqo c a=Ag->Hy b i (d+j)=Ag\/exI f i (d+j)=true:=by
  intro cs
  induction cs with
  |nil=>intro d _ j a h;simp at h
  |
   cons x cs A=>
   intro d h j a k o;rw[Nt,An] at h;cases j with
   |
    zero=>
    simp at k;subst k;rw[o] at h;simpa using h.1
   |
    succ j=>
    have:=A (d+1) h.2 j a (by simpa using k) o;rw[show d+(j+1)=d+1+j by omega];exact this
 unfold Lz;rw[t,Abz,Jf];rintro⟨j,C,nx,nx'⟩ r;obtain⟨a,D,E,F⟩:=u _ r;simp only;cases l:MF e C nx nx' with
 |false=>rfl
 |
  true=>
  have:=XW s E (λh=>Cf h F) l;have:=Cw cs 0 v j a D this;rw[Ba] at this;rcases this with this|this
  .rw[this];rfl
  .obtain⟨L,H,K⟩:=w _ r (Alq this)
   have:=Ais (nx:=nx) (nx':=nx') (y _ H this) z K;rw[this] at l;cases l
def Aim {a:Type} (e:Hi) (k:Hi->a):e.force k=k e:=by cases e<;>rfl
def SB {i:Nat} {e:Hi} {nx nx':Nat} {b:Log} {x:Nat×Hi×Nat×Nat} (a:x∈QC i e nx nx' b):x∈b\/(x=(i,e,nx,nx')/\¬(e=.aK/\nx=nx')):=by
 unfold QC at a;split at a
 .cases hb:AD nx nx' with
  |
   true=>
   rw[hb] at a;rcases List.mem_cons.1 a with h|h
   .refine .inr ⟨h,λh=>?_⟩
    rw[AK] at hb;omega
   .exact .inl h
  |false=>rw[hb] at a;exact .inl a
 .rename_i c
  rcases List.mem_cons.1 a with h|h
  .exact .inr ⟨h,λh=>c h.1⟩
  .exact .inl h
def Ja {a:List DX} {sz:Nat} {AU:List C0} {b:Bo} {k:As->Y->Prop} (M:AU.all (λo=>QI AU o.guard)=Ag):
 ∀(l:List C0) (i:Nat) (cs:List Cl) (y:Log) (d:List (Nat×UO)) {A:As} {fr:Fr} {h:Y},(∀o∈l,o∈AU)->cs.length=i->L5 a b i cs l=Ag->(∀x∈y,∃u,cs[x.1]?=I u/\R4 u x.2.1/\u≠.q)->Aoz a y d->
  Kb τ call a sz AU k l i d A h->Gx A fr->fr.sz=sz->
  ∃f z J,Gx f z/\z.sz=sz/\z.ds=fr.ds/\k f J/\∀kk,MC τ call AU b kk l i y fr h=kk z J
 |[],i,cs,y,d,A,fr,h,_,_,_,_,_,c,r,H=>⟨A,fr,h,r,H,B,c,λ_=>rfl⟩
 |
  o::l,i,cs,y,d,A,fr,h,aa,N,E,ab,O,c,r,H=>by
  have ad:QI AU o.guard=true:=List.all_eq_true.1 M o (aa o (by simp));rw[L5,An] at E;obtain⟨C,ae⟩:∃x,frI a i=x:=⟨_,B⟩;rw[ae] at E;have af:∀o∈l,o∈AU:=λx n=>aa x (Az _ n);have ag:∀x∈y,∃u,(cs++[K5 C o.op])[x.1]?=I u/\R4 u x.2.1/\u≠.q:=λx n=>by
   obtain⟨u,g,h2⟩:=ab x n;exact⟨u,by rw[AB (List.getElem?_eq_some_iff.1 g).1];exact g,h2⟩
  change MW A AU (λA=>PG Ah τ call A h.ad o.op λv J=>Adj a i (Qk τ A o.op J) (
   bif RS o.op then(bif frI a i then J.lo.ag h.nx=Ag else N5 h J.lo)/\HA sz A o.dst v λf=>Kb τ call a sz AU k l (i+1) (Tw a i (Qk τ A o.op J) d) f (h.aa J)
   else bif Qy o.op then HA sz A o.dst v (λf=>Kb τ call a sz AU k l (i+1) (Tw a i (Qk τ A o.op J) d) f h) else HA sz A o.dst v (λf=>Kb τ call a sz AU k l (i+1) (Tw a i (Qk τ A o.op J) d) f (h.aa J))) d)
   (λA=>HA sz A o.dst (.tuple #[]) λA=>Kb τ call a sz AU k l (i+1) d A h) o.guard at c
  rw[ae] at c;rcases Kw c r with⟨P,F,Q,c1⟩|⟨P,F,Q,c1⟩
  .obtain⟨v,g,j,ho,D⟩:=Kj F c1
   obtain⟨j,ah⟩:=Q2 j;have R:=Amh (τ:=τ) F (o:=o.op) (h:=h) (J:=g);obtain⟨S,aj⟩:∃x,Qk τ P o.op g=x:=⟨_,B⟩;rw[aj] at j ah R;have he:Vq τ fr C o.op h g/\HA sz P o.dst v (λA=>Kb τ call a sz AU k l (i+1) (Tw a i S d) A (h.aa g)):=by
    have ak:RS o.op=Ah->Qy o.op=Ag->h.aa g=h:=λm p=>by
     suffices g=h.ad by rw[this];cases h;rfl
     rcases D with D|⟨bb,vs,cc,e,hb,t,_⟩|⟨it,s,vi,e,t⟩|⟨t,hc⟩
     .rw[m] at D;cases D
     .rw[e] at p
      simp only[Qy,Dj,hb,Bool.false_or] at p;exact Ux p t
     .rw[e] at p;cases p
     .exact Aag p t
    cases m:RS o.op with
    |
     true=>
     simp only[m,D1] at j;refine⟨?_,j.2⟩;have ai:K5 C o.op=bif C then .r else .w:=by
      revert m
      cases o.op<;>intro m<;>first|(cases m;done)|skip
      rename_i cc;simp only[RS] at m;simp only[K5,Dj,I0];split at m
      .cases m
      .rename_i K
       split<;>first|rfl|(rename_i e;exact Cf e (K _))
     cases C with
     |true=>exact Qa ai j.1
     |false=>exact P2 ai j.1
    |
     false=>
     simp only[m,I0] at j;refine⟨?_,by
      cases p:Qy o.op with
      |true=>simp only[p,D1] at j;rw[ak m p];exact j
      |false=>simp only[p,I0] at j;exact j⟩
     rcases D with D|⟨bb,vs,cc,e,hb,t,_⟩|⟨it,s,vi,e,t⟩|⟨t,hc⟩
     .rw[m] at D;cases D
     .rw[e];exact WO hb t
     .rw[e];exact P2 B (XG (V4 t v g (List.mem_singleton.2 rfl)).2)
     .exact Aih t hc
   obtain⟨⟨e1,e2,e3⟩,c3⟩:=he;obtain⟨al,am,T,V,W,d2,c4⟩:=FY c3 F H;have hg:=Alt e1 e2 ab E.1 O ah R;obtain⟨f,z,J,X,q2,q3,q4,q5⟩:=Ja M l (i+1) (cs++[K5 C o.op]) (QC i (CF τ fr o.op h g.lo) h.nx g.nx y) (Tw a i S d) af (by simp[N]) E.2 (λx n=>by
    rcases SB n with n|⟨rfl,K⟩
    .exact ag x n
    .refine⟨K5 C o.op,by simp[←N],e1,λhq=>?_⟩
     obtain⟨z1,z2⟩:=e3 hq;exact K ⟨z1,z2.symm⟩) (λx n L=>by
    unfold Tw;rcases SB n with n|⟨rfl,K⟩
    .obtain⟨an,m1,m2⟩:=O x n L
     refine⟨an,?_,m2⟩;cases inX a i with
     |true=>exact Az _ m1
     |false=>exact m1
    .refine⟨S,?_,R⟩
     have L:inX a i=true:=L;rw[L];exact Av) c4 V W
   refine⟨f,z,J,X,q2,q3.trans d2,q4,λkk=>?_⟩;rw[MC,ad,Q];simp only[D1];rw[ho];simp only[T,Aim,hg,D1];exact q5 kk
  .obtain⟨al,am,T,V,W,d2,c4⟩:=FY c1 F H
   obtain⟨f,z,J,X,q2,q3,q4,q5⟩:=Ja M l (i+1) (cs++[K5 C o.op]) y d af (by simp[N]) E.2 ag O c4 V W;refine⟨f,z,J,X,q2,q3.trans d2,q4,λkk=>?_⟩;rw[MC,ad,Q];simp only[D1,T];exact q5 kk
def Arn (ro:Option Nat):Axd τ call ro:=by
 intro sz AU o k A fr h c r m;cases o with
 |
  false=>
  obtain⟨a,b,J,d,e,f,g,i⟩:=Ku (ro:=ro) AU.toList c r m;exact⟨a,b,J,d,e,f,g,λK=>i K.p K.n⟩
 |
  true=>
  obtain⟨q,j,c⟩:=c;rw[Aez,An] at j;obtain⟨a,b,J,d,e,f,g,i⟩:=Ja j.1 AU.toList 0 [] [] [] (λ_ h=>h) B j.2 (λx l=>by cases l) (λx l=>by cases l) c r m;exact⟨a,b,J,d,e,f,g,λK=>i K.n⟩
end
def ofD (D:Bo):List Deferred:=D.map λb=>{target:=.collected b,args:=#[]}
structure WOk (m:Bool) (call:Be) {X:Type} (P:(X->RR)->Prop):Prop where
 c:m=Ag->∀{f:Fn} {args:AH} {h:Y} {k:Aa->Y->Prop} {kk kp:X->Aa->Y->RR},JW Ag call f args h k->(∀v J,k v J->P λy=>kk y v J)->P λy=>call f args h (kk y) (kp y)
 j:m=Ag->∀a b:X->RR,P a->P b->P λy=>Ns (a y) (b y)
structure KOk {X σ:Type} (P:(X->RR)->Prop) (sz:Nat) (dl:σ->List Hh) (K:KG σ) (Kt:X->Kt):Prop where
 n:∀fr h s A,fr.sz=sz->fr.ds=dl s->Gx A fr->K.n A s h->P λy=>(Kt y).n fr h
 x:∀id fr h s A,fr.sz=sz->fr.ds=dl s->Gx A fr->K.x id A s h->P λy=>(Kt y).x id fr h
 r:∀fr h s A,fr.sz=sz->fr.ds=dl s->Gx A fr->K.r A s h->P λy=>(Kt y).r fr h
 p:∀v fr h s A,fr.sz=sz->fr.ds=dl s->Gx A fr->K.p v A s h->P λy=>(Kt y).p v fr h
structure MOk {σ:Type} (M:Md σ) (dl:σ->List Hh) (ro:Option Nat):Prop where
 lp:∀{L body K A s h},M.lp L body K A s h->Aer L body K A s h
 cH:∀{g},M.cH=I g->ro=Z/\∀b s,dl (g b s)={target:=.collected b,args:=#[]}::dl s
def R3 {b:Bool} {ds:List Hh} {ro:Option Nat}:MOk (mdU b) (λ_=>ds) ro:=⟨λ⟨a,⟨m,c,i⟩,d⟩=>⟨λm A _ h=>a m A h,⟨m,c,i⟩,λm A _ h i f=>d m A h i f⟩,λe=>by cases e⟩
def AEz:MOk mdD ofD none:=⟨λh=>h,λe=>by cases e;exact⟨B,λ_ _=>rfl⟩⟩
section
variable{τ:Bb} {call:Be} {m:Bool} {X σ:Type} {P:(X->RR)->Prop} {ro:Option Nat}
def W0:WOk Ah call P:=⟨λh=>(by cases h),λh=>(by cases h)⟩
def W1 {p:EO->Prop}:WOk Ag call λg:Unit->RR=>Sat p (g ()):=⟨λ_ _ _ _ _ _ _ ⟨_,c,a⟩ H=>c _ _ p λv J b=>H v J (a v J b),λ_ _ _ x y=>x.join y⟩
def YJ (W:WOk m call P) {f:Fn} {a:AH} {h:Y} {k:Aa->Y->Prop} (c:JW m call f a h k) {kk kp:X->Aa->Y->RR} (H:∀v J,k v J->P λy=>kk y v J):P λy=>call f a h (kk y) (kp y):=by
 cases m with
 |
  false=>
  obtain⟨v,J,b,d⟩:=TY c;rw[funext λy=>d (kk y) (kp y)];exact H v J b
 |true=>exact W.c B c H
def Ank (W:WOk m call P) (a:m=Ag) {kk:X->Aa->Y->RR}:∀(x:Aa×Y) (l:List (Aa×Y)),(∀y∈x::l,P λz=>kk z y.1 y.2)->P λz=>R2 (kk z) (x::l)
 |
  x,[],H=>by
  have e:∀r,Ns r (I [])=r:=λr=>by cases r<;>simp[Ns]
  have:=H x Av;simpa only[R2,e] using this
 |x,y::l,H=>W.j a _ _ (H x Av) (Ank W a y l λz b=>H z (Az _ b))
def opG (W:WOk m call P) {A:As} {fr:Fr} (r:Gx A fr) {h:Y} {o:Op} {k:Aa->Y->Prop} (c:PG m τ call A h o k) {kk kp:X->Aa->Y->RR} (H:∀v J,k v J->P λy=>kk y v J):P λy=>F9 τ call fr h o (kk y) (kp y):=by
 have one:PG Ah τ call A h o k->P λy=>F9 τ call fr h o (kk y) (kp y):=λc=>by
  obtain⟨v,J,e,d,_⟩:=Kj r c;rw[funext λy=>d (kk y) (kp y)];exact H v J e
 cases m with
 |false=>exact one c
 |
  true=>
  cases o with
  |
   call cl=>
   cases hb:cl.callee with
   |builtin b=>exact one (by unfold PG at c⊢;simp only[] at c⊢;rw[hb] at c⊢;exact c)
   |
    invoke p q=>
    unfold PG at c;simp only[] at c;split at c
    .cases c
    rename_i vs g;rw[hb] at c;simp only[] at c;split at c
    .rename_i t v a
     obtain⟨f,u,i,j⟩:=c;simp only[F9,Ju,FX r g,hb,Bg r a,Hd,i];exact YJ W j H
    .cases c
   |
    value f=>
    unfold PG at c;simp only[] at c;split at c
    .cases c
    rename_i vs g;rw[hb] at c;simp only[] at c;split at c
    .rename_i w a
     simp only[F9,Ju,FX r g,hb,Bg r a];unfold Akh at c;split at c
     .exact YJ W c H
     .exact YJ W c H
     .cases c
    .cases c
  |
   next it s=>
   unfold PG at c;simp only[] at c;split at c
   .rename_i v a
    obtain⟨x,l,e,d⟩:=c;simp only[F9,Bg r a,e];cases l with
    |nil=>exact H _ _ (d x.1 x.2 Av)
    |cons y l=>exact Ank W B x (y::l) λz n=>H _ _ (d z.1 z.2 n)
   .cases c
  |_=>exact one c
def Azt (W:WOk m call P) {A:As} {fr:Fr} (r:Gx A fr) {h:Y} {o:Op} {k:Aa->Y->Prop} (c:QD m τ call A h o k) {kk kp:X->Aa->Y->RR} (H:∀v J,k v J->P λy=>kk y v J):(P λy=>F9 τ call fr h o (kk y) (kp y))/\∀a,o≠.defer a:=by
 unfold QD at c;split at c
 .rename_i s d x
  split at c
  .obtain⟨v,J,e,b⟩:=c
   exact⟨by simp only[F9,IS r e];exact H v J b,by simp⟩
  .exact⟨opG W r c H,by simp⟩
 .exact⟨opG W r c H,λa e=>by rw[e] at c;exact c⟩
def YM (W:WOk m call P) {sz:Nat} {AU:List C0} {k:As->Y->Prop} {kp:X->Aa->Fr->Y->RR} {kk:X->Fr->Y->RR} {ds:List Hh} (H:∀p a J,Gx p a->a.sz=sz->a.ds=ds->k p J->P λy=>kk y a J):
 ∀(l:List C0) {A:As} {fr:Fr} {h:Y},JV m τ call sz AU k l A h->Gx A fr->fr.sz=sz->fr.ds=ds->P λy=>EX τ call ro AU (kp y) (kk y) l fr h
 |[],A,fr,h,c,r,b,d=>H A fr h r b d c
 |
  o::l,A,fr,h,c,r,b,d=>by
  change MW A AU (λA=>QD m τ call A h o.op λv J=>HA sz A o.dst v λA=>JV m τ call sz AU k l A J)
   (λA=>HA sz A o.dst (.tuple #[]) λA=>JV m τ call sz AU k l A h) o.guard at c
  rcases Kw c r with⟨s,f,g,c1⟩|⟨s,f,g,c1⟩
  .have q:=Azt W (kk:=λy v J=>match fr.set o.dst v with|some a=>EX τ call ro AU (kp y) (kk y) l a J|none=>Z) (kp:=λy v J=>kp y v fr J) f c1 λv J t=>by
    obtain⟨u,w,i,j,n,d2,c3⟩:=FY t f b;simp only[i];exact YM W H l c3 j n (d2.trans d)
   have e:∀K k',IB τ call ro fr h o K k'=F9 τ call fr h o.op (λv J=>match fr.set o.dst v with|some a=>K a J|none=>Z) k':=λK k'=>by
    unfold IB;split
    .rename_i x e;exact Cf e (q.2 x)
    .rfl
   simp only[EX,g,e];exact q.1
  .obtain⟨u,w,i,j,n,d2,c3⟩:=FY c1 f b
   simp only[EX,g,i];exact YM W H l c3 j n (d2.trans d)
def VB:∀{l l':List C0} {x:BU},Akd l=I (l',x)->∃ty a b,l=l'++[⟨Z,.panic x,ty,a,b,Z⟩]
 |[],_,_,h=>by cases h
 |
  [o],l',x,h=>by
  obtain⟨c,op,ty,a,b,g⟩:=o;change (match(⟨c,op,ty,a,b,g⟩:C0) with
   |⟨Z,.panic x,_,_,_,Z⟩=>I ([],x)
   |_=>Z)=I (l',x) at h
  split at h
  .rename_i e;cases h;cases e;exact⟨_,_,_,rfl⟩
  .cases h
 |
  o::d::l,l',x,h=>by
  change (match Akd (d::l) with|some (l',x)=>I (o::l',x)|none=>Z)=I (l',x) at h
  split at h
  .rename_i i y f
   cases h;obtain⟨ty,a,b,e⟩:=VB f;exact⟨ty,a,b,by rw[e];rfl⟩
  .cases h
def Q9 {AU:List C0} {kp:Aa->Fr->Y->RR} {k:Fr->Y->RR} {m:List C0}:∀(l:List C0) (fr:Fr) (h:Y),EX τ call ro AU kp k (l++m) fr h=EX τ call ro AU kp (λfr h=>EX τ call ro AU kp k m fr h) l fr h
 |[],_,_=>rfl
 |
  o::l,fr,h=>by
  rw[KB,EX,EX];rw[(by funext fr h;exact Q9 l fr h:(λa J=>EX τ call ro AU kp k (l++m) a J)=λa J=>EX τ call ro AU kp (λfr h=>EX τ call ro AU kp k m fr h) l a J)];simp[Q9 l]
def La (W:WOk m call P) {M:Md σ} {w:σ->List Hh} (hM:MOk M w ro) (L sz:Nat):∀(c:DC) (K:KG σ) (Kt:X->Kt) (A:As) (s:σ) (fr:Fr) (h:Y),IH m τ call M L sz c K A s h->Gx A fr->fr.sz=sz->fr.ds=w s->KOk P sz w K Kt->P λy=>B7 τ call L ro c (Kt y) fr h:=by
 intro c
 induction c with
 |skip=>exact λK Kt A s fr h c r i j H=>H.n fr h s A i j r c
 |label=>exact λK Kt A s fr h c r i j H=>H.n fr h s A i j r c
 |
  region id AU z=>
  intro K Kt A s fr h c r i j H;have ag:JA m τ call sz AU z (λA h=>K.n A s h) A h->P λy=>B7 τ call L ro (.region id AU z) (Kt y) fr h:=λc=>by
   cases z with
   |false=>exact YM W (kp:=λy=>(Kt y).p) (λC o J k V aa q=>H.n o J s C V aa k q) _ c r i j
   |
    true=>
    obtain⟨C,o,J,q1,q2,q3,q4,q5⟩:=Arn ro sz AU Ag (λA h=>K.n A s h) A fr h c r i;show P λy=>T4 τ call ro AU Ag (Kt y) fr h;rw[funext λy=>q5 (Kt y)];exact H.n o J s C q2 (q3.trans j) q1 q4
  change (match M.c3 with
   |false=>JA m τ call sz AU z (λA h=>K.n A s h) A h
   |true=>match Akd AU.toList with
    |some (l,x)=>z=Ah/\JV m τ call sz AU.toList (λA h=>match Dn τ A x with|some (.iface t v)=>K.p (.iface t v) A s h|_=>False) l A h
    |none=>JA m τ call sz AU z (λA h=>K.n A s h) A h) at c
  split at c
  .exact ag c
  split at c
  case h_2=>exact ag c
  rename_i l x hp;obtain⟨rfl,c⟩:=c;obtain⟨ty,po,ah,e⟩:=VB hp;have F:∀y,B7 τ call L ro (.region id AU Ah) (Kt y) fr h=EX τ call ro AU.toList (Kt y).p (λfr h=>EX τ call ro AU.toList (Kt y).p (Kt y).n [⟨Z,.panic x,ty,po,ah,Z⟩] fr h) l fr h:=λy=>by
   rw[←Q9,←e];rfl
  rw[funext F];refine YM W (kp:=λy=>(Kt y).p) (λC o J k V aa q=>?_) l c r i j;split at q
  case h_2=>cases q
  rename_i t v hx;have:∀y,EX τ call ro AU.toList (Kt y).p (Kt y).n [⟨Z,.panic x,ty,po,ah,Z⟩] o J=(Kt y).p (.iface t v) o J:=λy=>by
   simp[EX,E5,IB,F9,(Bg k hx)]
  simp only[this];exact H.p _ o J s C V aa k q
 |seq a b ab ad=>exact λK Kt A s fr h c r i j H=>ab _ _ A s fr h c r i j ⟨λfr h s A D d r c=>ad K Kt A s fr h c r D d H,H.x,H.r,H.p⟩
 |
  cond x a b ab ad=>
  intro K Kt A s fr h c r i j H;change (match Dn τ A x with
   |some (.bool t)=>ZT t (IH m τ call M L sz a K A s h) (IH m τ call M L sz b K A s h)
   |_=>False) at c
  split at c
  case h_2=>cases c
  rename_i t ht;show P λy=>Vg _ _ (Kt y) fr h (ev τ fr x);rw[Bg r ht];cases t with
  |true=>exact ab K Kt A s fr h c r i j H
  |false=>exact ad K Kt A s fr h c r i j H
 |
  block id c N=>
  refine λK Kt A s fr h c r i j H=>N _ _ A s fr h c r i j ⟨H.n,λS fr h s A D d r c=>?_,H.r,H.p⟩;change (bif Am S id then K.n A s h else K.x S A s h) at c
  simp only[];cases hb:Am S id with
  |true=>rw[hb] at c;exact H.n fr h s A D d r c
  |false=>rw[hb] at c;exact H.x S fr h s A D d r c
 |
  loop c N=>
  intro K Kt A s fr h q r i j H;obtain⟨ak,⟨E,A0,ae,T,U⟩,hI⟩:=hM.lp q;have Cw:∀(n E:Nat) (A:As) (s:σ) (fr:Fr) (h:Y),ak E A s h->E<n->n<=L->Gx A fr->fr.sz=sz->fr.ds=w s->P λy=>Nq (B7 τ call L ro c) n (Kt y) fr h:=by
   intro n
   induction n with
   |zero=>exact λm A s fr h _ T=>Cf T (F5 _)
   |succ n al=>exact λE A s fr h U T hn r i j=>N _ _ A s fr h (hI E A s h U (by omega)) r i j ⟨λo J s' C D d k q=>by
    obtain⟨m',A0,ae,lt,am⟩:=q;exact al m' A0 s' o J am (by omega) (by omega) (λt v u=>k t v (ae t v u)) D d,H.x,H.r,H.p⟩
  exact Cw L E A0 s fr h U T (Ae _) (λt v u=>r t v (ae t v u)) i j
 |
  rangeFunc f ps ai aj _ _=>
  intro K Kt A s fr h c r i j H;change (match M.cH with|some g=>QU m τ call g sz ps ai aj K A s h (Dn τ A f)|none=>False) at c
  split at c
  case h_2=>cases c
  rename_i g O;obtain⟨rfl,O⟩:=hM.cH O;unfold QU at c;split at c
  case h_2=>cases c
  rename_i f0 first cap hf
  obtain⟨af,c⟩:=c;split at af
  case h_2=>cases af
  rename_i fn an;obtain⟨Q,ZI,ds⟩:=fr;simp only at i j;subst i j;show P λy=>Oo τ call Z ps ai aj (Kt y) ⟨Q,ZI,w s⟩ h (ev τ ⟨Q,ZI,w s⟩ f);rw[Bg (fr:=⟨Q,ZI,w s⟩) (λt v u=>r t v u) hf];simp only[Oo,U5,an,af,D1];refine YJ W (c Q (λt v u=>r t v u)) λv h2 hh=>?_;obtain⟨st,ao,ap,aq,ar,au,av,d',e1,F,R⟩:=hh;have k:Gx A ⟨Q,ZI,{target:=.collected h.nx,args:=#[]}::w s⟩:=λt v u=>r t v u;simp only[HP,e1];split at R
  .have:=H.n _ _ _ A B (O h.nx s).symm k R
   cases st<;>first|exact Cf B F|exact this
  .have:=H.r _ _ _ A B (O h.nx s).symm k R
   cases st<;>first|exact Cf B F|exact this
  .have:=H.x _ _ _ _ A B (O h.nx s).symm k R
   cases st<;>first|exact Cf B F|exact this
  .cases R
 |scope c N=>exact λK Kt A s fr h c r i j H=>N K Kt A s fr h c r i j H
 |exit id=>exact λK Kt A s fr h c r i j H=>H.x id fr h s A i j r c
 |ret=>exact λK Kt A s fr h c r i j H=>H.r fr h s A i j r c
 |_=>exact λK Kt A s fr h c=>by cases c
def TB {a:AH} {sz:Nat} (b:a.length<=sz):Gx (PJ a 0) ⟨T.laid a 0 .nil,sz,[]⟩:=by
 intro t v b;obtain⟨_,c⟩:=Sz a 0 t v b;rw[T.an];have:=(List.getElem?_eq_some_iff.1 c).1;rw[Bi (by omega)];exact c
def Kv {dv:Au->Option (AH->Y->Option Y)} {a:List ResultVar} {A:As} {fr:Fr} (r:Gx A fr) {Q:Aa->Y->Prop}:∀(D:Bo) {h:Y},Og D (λh=>Ex τ A h a (λvs=>Q (Ff vs) h)) h->
 ∃v J,Q v J/\∀k,Iw τ dv a fr k (ofD D) h=k v J
 |
  [],h,c=>by
  obtain⟨vs,d,e⟩:=Hf r _ c;exact⟨Ff vs,h,e,λk=>by show(match Ng τ fr h a with|some vs=>k (Ff vs) h|none=>Z)=_;rw[d]⟩
 |
  b::D,h,⟨c1,f⟩=>by
  obtain⟨v,J,g,i⟩:=Kv r D f;exact⟨v,J,g,λk=>by
   show Iw τ dv a fr k ({target:=.collected b,args:=#[]}::ofD D) h=_;rw[Iw,c1];exact i k⟩
def Qt (τ:Bb) (S:A9) (fn:BC) (k kp:Aa->Y->RR):Kt:=.mk (λfr h=>Iw τ S.dv fn.results.toList fr k fr.ds h) (λ_ _ _=>Z) (λfr h=>Iw τ S.dv fn.results.toList fr k fr.ds h) (TC τ S.rc fn.results.toList k kp)
def Awu {S:A9} {fn:BC} {sz:Nat} {Q Qp:Aa->Y->Prop} {kk kp:X->Aa->Y->RR} (b:∀v J,Q v J->P λy=>kk y v J) (d:∀v J,Qp v J->P λy=>kp y v J):
 KOk P sz (λ_=>[]) (KG.mk (λA (_:Unit) h=>Ex τ A h fn.results.toList (λvs=>Q (Ff vs) h)) (λ_ _ _ _=>False) (λA _ h=>Ex τ A h fn.results.toList (λvs=>Q (Ff vs) h)) λv _ _ h=>Qp v h) λy=>Qt τ S fn (kk y) (kp y):=
 have Da:∀fr h (_:Unit) A,fr.sz=sz->fr.ds=[]->Gx A fr->Ex τ A h fn.results.toList (λvs=>Q (Ff vs) h)->P λy=>Iw τ S.dv fn.results.toList fr (kk y) fr.ds h:=λfr h _ A _ a r c=>by
  obtain⟨v,e,f,g⟩:=Kv (dv:=S.dv) r [] c;rw[show fr.ds=ofD [] from a];simp only[g];exact b v e f
 ⟨Da,λ_ _ _ _ _ _ _ _ c=>c.elim,Da,λv fr h _ A _ a _ c=>by
  show P λy=>TC τ S.rc fn.results.toList (kk y) (kp y) v fr h;unfold TC;rw[a];exact d v h c⟩
def QM {S:A9} {L:Nat} {f:Au} {fn:BC} {c:DC} {a:AH} (b:τ.fn.get f=I fn) (d:S.hk f=Z) (e:fn.body=I c) (g:a.length<=fn.ntmps) (h:Y) (k kp:Aa->Y->RR):
 DY τ S call L f a h k kp=B7 τ call L Z c (Qt τ S fn k kp) ⟨T.laid a 0 .nil,fn.ntmps,[]⟩ h:=by
 have i:GA a fn.ntmps=I ⟨T.laid a 0 .nil,fn.ntmps,[]⟩:=by
  unfold GA;rw[show Ar a.length fn.ntmps=Ag from Aq g];rfl
 unfold DY;rw[b];simp only[e,i];unfold Ss;simp only[d];rfl
def YV {S:A9} {L n:Nat} {f:Au} {g:Be->AH->Y->Jl} {a:AH} {h J:Y} {v:Aa} (b:S.ov f=I g) (e:g (B8 τ S L n) a h=I (v,J)) (k kp:Aa->Y->RR):B8 τ S L (n+1) (.func f) a h k kp=k v J:=by
 simp only[B8,b,e]
def Kl {S:A9} {L n:Nat} {f:Au} (b:S.ov f=Z) (c:S.nd f=Z) (a:AH) (h:Y) (k kp:Aa->Y->RR):B8 τ S L (n+1) (.func f) a h k kp=DY τ S (B8 τ S L n) L f a h k kp:=by
 simp only[B8,b,ndK,c]
abbrev P1 (Q:Aa->Y->Prop):((Aa->Y->RR)×(Aa->Y->RR)->RR)->Prop:=λg=>∃v J,Q v J/\∀k kp,g (k,kp)=k v J
def P1.cd {S:A9} {L n:Nat} {f:Au} {a:AH} {h:Y} {Q:Aa->Y->Prop} (b:S.ov f=Z) (c:S.nd f=Z) (H:P1 Q λy=>DY τ S (B8 τ S L n) L f a h y.1 y.2):Cd (B8 τ S L (n+1)) (.func f) a h Q:=
 H.imp λ_ h=>h.imp λ_ ⟨q,e⟩=>⟨q,λk kp=>(Kl b c _ _ _ _).trans (e k kp)⟩
def Acv {S:A9} {fn:BC} {sz:Nat} {Q:Aa->Y->Prop}:KOk (P1 Q) sz (λ_=>[]) (kp (λA h=>Ex τ A h fn.results.toList (λvs=>Q (Ff vs) h)) (λ_ _ _=>False) (λA h=>Ex τ A h fn.results.toList (λvs=>Q (Ff vs) h))) λy=>Qt τ S fn y.1 y.2:=
 Awu (Qp:=λ_ _=>False) (λv J q=>⟨v,J,q,λ_ _=>rfl⟩) λ_ _ q=>q.elim
def Aom {S:A9} {L n:Nat} {f:Au} {fn:BC} (d:τ.fn.get f=I fn) (e:S.hk f=Z) (g:S.ov f=Z) (i:S.nd f=Z) {a:AH} {h:Y} {Q:Aa->Y->Prop}
 (c:YR τ (B8 τ S L n) L fn a h Q):Cd (B8 τ S L (n+1)) (.func f) a h Q:=by
 obtain⟨b,c⟩:=c;unfold Adq at c;split at c
 case h_2=>cases c
 rename_i j;exact P1.cd g i (by simp only[QM d e j b];exact La W0 R3 L _ _ _ _ _ () _ h c (TB b) B B Acv)
def Apm (W:WOk m call P) (S:A9) (L:Nat) {f:Au} {fn:BC} (b:τ.fn.get f=I fn) (d:S.hk f=Z) {a:AH} {h:Y} {Q:Aa->Y->Prop} (c:MT m τ call L fn a h Q) {k kp:X->Aa->Y->RR} (H:∀v J,Q v J->P λy=>k y v J):
 P λy=>DY τ S call L f a h (k y) (kp y):=by
 unfold MT at c;split at c
 case h_2=>cases c
 rename_i n e;simp only[QM b d e c.1];have Da:∀fr h D A,fr.sz=fn.ntmps->fr.ds=ofD D->Gx A fr->Og D (λh=>Ex τ A h fn.results.toList (λvs=>Q (Ff vs) h)) h->P λy=>Iw τ S.dv fn.results.toList fr (k y) fr.ds h:=λfr h D A _ g r c=>by
  obtain⟨v,i,j,l⟩:=Kv (dv:=S.dv) r D c;rw[g];simp only[l];exact H v i j
 exact La W AEz L _ _ _ _ _ [] _ h c.2 (TB c.1) B B ⟨Da,λ_ _ _ _ _ _ _ _ c=>c.elim,Da,λ_ _ _ _ _ _ _ _ c=>c.elim⟩
def Afo {S:A9} {L n:Nat} {f:Au} {fn:BC} (a:τ.fn.get f=I fn) (b:S.hk f=Z) (d:S.ov f=Z) (e:S.nd f=Z) {g:AH} {h:Y} {Q:Aa->Y->Prop}
 (c:MT m τ (B8 τ S L n) L fn g h Q):CdM m (B8 τ S L (n+1)) (.func f) g h Q:=by
 cases m with
 |false=>exact P1.cd d e (Apm (P:=P1 Q) W0 S L a b c λv J q=>⟨v,J,q,λ_ _=>rfl⟩)
 |
  true=>
  intro k kp p H;rw[Kl d e];exact Apm W1 S L a b c (k:=λ_=>k) (kp:=λ_=>kp) H
end
def XF (τ:Bb) (t:Ai):Bool:=match τ.ds.get t with|some d=>!J5 d|none=>Ah
def Cell (h:Y) (b o:Nat) (v:Aa):Prop:=b<h.nx/\∃c n e lo U x,h.t.get b=I (.cells c n e lo U x)/\c.get o=I v
def ld {τ:Bb} {t:Ai} {h:Y} {b o:Nat} {v:Aa} (a:XF τ t=Ag) (c:Cell h b o v):Bw τ t h b o=I v:=by
 obtain⟨_,c,n,e,lo,U,x,g,i⟩:=c;unfold XF at a;unfold Bw;cases f:τ.ds.get t with
 |none=>rw[f] at a;cases a
 |
  some d=>
  rw[f] at a;have:J5 d=false:=by simpa using a
  simp only[g,this,I0,i]
def F2 {s:WS} {b N:Nat} (hb:N<=b) (d:s.ag N=Ag):(Gf s b).ag N=true:=by
 have hb':=Aq hb;cases s with
 |no=>exact hb'
 |
  one c=>
  rw[HT];have a:Ar N c=true:=d;cases Am c b with
  |true=>exact a
  |false=>cases Ar c b<;>simp[WS.ag,hb',a]<;>exact⟨Ac a,hb⟩
 |
  rest lo=>
  rw[Kr];have a:Ar N lo=true:=d;cases Ar lo b<;>simp[WS.ag]<;>first|exact Ac a|exact⟨hb,Ac a⟩
 |
  pair c lo=>
  rw[FL];have a:(Ar N c&&Ar N lo)=true:=d;rw[An] at a;have e:=Ac a.1;have f:=Ac a.2;cases(Am c b||Ar lo b) with
  |true=>exact d
  |
   false=>
   cases Ar c b with
   |true=>simp[WS.ag];exact⟨e,hb⟩
   |
    false=>
    simp[WS.ag];refine⟨hb,?_⟩;unfold Gg;cases Ar c lo<;>simp<;>assumption
def MY {s:WS} {j N:Nat} (d:N<=j) (b:s.ag N=Ag):(Lr s j).ag N=true:=by
 cases s with
 |no=>exact Aq d
 |
  one c=>
  rw[Ke];have a:=Ac (show Ar N c=Ag from b);cases Ar j c<;>simp[WS.ag]<;>omega
 |
  rest i=>
  have a:=Ac (show Ar N i=Ag from b);show Ar N (Gg i j)=Ag;apply Aq;unfold Gg;cases Ar i j<;>simp<;>assumption
 |
  pair c lo=>
  have a:(Ar N c&&Ar N lo)=true:=b;rw[An] at a;have e:=Ac a.1;have f:=Ac a.2;show(Ar N c&&Ar N (Gg lo j))=Ag;rw[An];refine⟨a.1,Aq ?_⟩;unfold Gg;cases Ar lo j<;>simp<;>assumption
def Rx {s c:WS} {N:Nat} (a:s.ag N=Ag) (d:c.ag N=Ag):(Pf s c).ag N=true:=by
 cases c with
 |no=>exact a
 |one i=>exact F2 (Ac d) a
 |rest j=>exact MY (Ac d) a
 |
  pair b j=>
  have e:(Ar N b&&Ar N j)=true:=d;rw[An] at e;exact F2 (Ac e.1) (MY (Ac e.2) a)
def GG (N b0:Nat) (s:WS):Prop:=s.ag N=Ag\/s=.one b0\/∃lo,N<=lo/\s=.pair b0 lo
def Jy {N i j:Nat} (a:N<=i) (b:N<=j):N<=Gg i j:=by
 unfold Gg;cases Ar i j<;>simp<;>assumption
def Ib {N b0 i:Nat} {s:WS} (hb:b0<N) (U:i=b0\/N<=i) (h:GG N b0 s):GG N b0 (Gf s i):=by
 rcases U with rfl|U
 .rcases h with h|rfl|⟨lo,a,rfl⟩
  .cases s with
   |no=>exact .inr (.inl B)
   |
    one b=>
    have h:=Ac (show Ar N b=Ag from h);rw[HT,show Am b i=Ah from Bool.eq_false_iff.2 λe=>by have:=Af e;omega,show Ar b i=Ah from Bool.eq_false_iff.2 λe=>by have:=Ac e;omega];exact .inr (.inr ⟨b,h,B⟩)
   |
    rest lo=>
    have h:=Ac (show Ar N lo=Ag from h);rw[Kr,show Ar lo i=Ah from Bool.eq_false_iff.2 λe=>by have:=Ac e;omega];exact .inr (.inr ⟨lo,h,B⟩)
   |
    pair b lo=>
    have c:(Ar N b&&Ar N lo)=true:=h;rw[An] at c;have a:=Ac c.1;have d:=Ac c.2;rw[FL,show Am b i=Ah from Bool.eq_false_iff.2 λe=>by have:=Af e;omega,show Ar lo i=Ah from Bool.eq_false_iff.2 λe=>by have:=Ac e;omega,
     show Ar b i=Ah from Bool.eq_false_iff.2 λe=>by have:=Ac e;omega]
    exact .inr (.inr ⟨Gg b lo,Jy a d,B⟩)
  .rw[HT,show Am i i=Ag by simp];exact .inr (.inl B)
  .rw[FL,show Am i i=Ag by simp];exact .inr (.inr ⟨lo,a,B⟩)
 .rcases h with h|rfl|⟨lo,a,rfl⟩
  .exact .inl (F2 U h)
  .rw[HT,show Am b0 i=Ah from Bool.eq_false_iff.2 λe=>by have:=Af e;omega,Aq (show b0<=i by omega)]
   exact .inr (.inr ⟨i,U,B⟩)
  .rw[FL,show Am b0 i=Ah from Bool.eq_false_iff.2 λe=>by have:=Af e;omega,Aq (show b0<=i by omega)]
   cases Ar lo i
   .exact .inr (.inr ⟨i,U,B⟩)
   .exact .inr (.inr ⟨lo,a,B⟩)
def Uk {N b0 j:Nat} {s:WS} (hb:b0<N) (a:N<=j) (h:GG N b0 s):GG N b0 (Lr s j):=by
 rcases h with h|rfl|⟨lo,b,rfl⟩
 .exact .inl (MY a h)
 .rw[Ke,show Ar j b0=Ah from Bool.eq_false_iff.2 λe=>by have:=Ac e;omega]
  exact .inr (.inr ⟨j,a,B⟩)
 .exact .inr (.inr ⟨Gg lo j,Jy b a,B⟩)
def YY {N b0:Nat} {s a:WS} (hb:b0<N) (h:GG N b0 s) (J:GG N b0 a):GG N b0 (Pf s a):=by
 rcases J with J|rfl|⟨lo,d,rfl⟩
 .cases a with
  |no=>exact h
  |one i=>exact Ib hb (.inr (Ac J)) h
  |rest j=>exact Uk hb (Ac J) h
  |
   pair b j=>
   have c:(Ar N b&&Ar N j)=true:=J;rw[An] at c;exact Ib hb (.inr (Ac c.1)) (Uk hb (Ac c.2) h)
 .exact Ib hb (.inl B) h
 .exact Ib hb (.inl B) (Uk hb d h)
def FQ (n:Nat) (P:Nat->Prop):WS->Prop
 |.no=>True
 |.one b=>P b\/n<=b
 |.rest _=>False
 |.pair b lo=>b<lo/\(P b\/n<=b)
def Un {n:Nat} {P:Nat->Prop} {b lo i:Nat} (d:b<lo/\(P b\/n<=b)) (U:P i\/n<=i):FQ n P (Gf (.pair b lo) i):=by
 rw[FL];cases a:Am b i||Ar lo i with
 |true=>exact d
 |
  false=>
  rw[Iy] at a;have h:b≠i:=λe=>by rw[e] at a;simp at a
  have f:i<lo:=BB λe=>by rw[Aq e] at a;cases a.2
  cases c:Ar b i with
  |true=>exact⟨by have:=Ac c;omega,d.2⟩
  |
   false=>
   have g:i<b:=BB λe=>by rw[Aq e] at c;cases c
   exact⟨Jy (N:=i+1) g f,U⟩
def NC {n:Nat} {P:Nat->Prop} {s:WS} {i:Nat} (a:FQ n P s) (U:P i\/n<=i):FQ n P (Gf s i):=by
 cases s with
 |no=>exact U
 |rest lo=>exact a.elim
 |pair b lo=>exact Un a U
 |
  one b=>
  rw[HT];cases d:Am b i with
  |true=>exact a
  |
   false=>
   have f:b≠i:=λe=>by rw[e] at d;simp at d
   cases c:Ar b i with
   |true=>exact⟨by have:=Ac c;omega,a⟩
   |false=>exact⟨BB (λe=>by rw[Aq e] at c;cases c),U⟩
def Ant {n:Nat} {P:Nat->Prop} {b j:Nat} (h:b<j) (hb:P b\/n<=b):FQ n P (Gf (.rest j) b):=by
 rw[Kr,show Ar j b=Ah from Bool.eq_false_iff.2 λe=>by have:=Ac e;omega];exact⟨h,hb⟩
def Zv {n:Nat} {P:Nat->Prop} {s d:WS} (a:FQ n P s) (J:FQ n P d):FQ n P (Pf s d):=by
 cases d with
 |no=>exact a
 |one i=>exact NC a J
 |rest j=>exact J.elim
 |
  pair b j=>
  obtain⟨f,c⟩:=J;cases s with
  |no=>exact Ant f c
  |rest lo=>exact a.elim
  |
   one i=>
   show FQ n P (Gf (Lr (.one i) j) b);rw[Ke];cases g:Ar j i with
   |true=>exact Ant f c
   |false=>exact Un ⟨BB (λe=>by rw[Aq e] at g;cases g),a⟩ c
  |
   pair i lo=>
   show FQ n P (Gf (.pair i (Gg lo j)) b);rcases A8 i j with h|h
   .exact Un ⟨Jy (N:=i+1) a.1 h,a.2⟩ c
   .have k:b+1<=Gg lo j:=Jy (by have:=a.1;omega) (by omega)
    rw[FL,show(Am i b||Ar (Gg lo j) b)=Ah from by
     rw[Iy];exact⟨Bool.eq_false_iff.2 λe=>by have:=Af e;omega,Bool.eq_false_iff.2 λe=>by have:=Ac e;omega⟩,
     show Ar i b=Ah from Bool.eq_false_iff.2 λe=>by have:=Ac e;omega]
    exact⟨Jy (N:=b+1) (by omega) k,c⟩
structure AA (h J:Y):Prop where
 nx:h.nx<=J.nx
 t:∀b,b<h.nx->J.t.get b=h.t.get b
 lo:∀N,N<=h.nx->h.lo.ag N=Ag->J.lo.ag N=Ag
 g:∀N b0,N<=h.nx->b0<N->GG N b0 h.lo->GG N b0 J.lo
 f:∀n P,n<=h.nx->FQ n P h.lo->FQ n P J.lo
def AA.refl (h:Y):AA h h:=⟨Ae _,λ_ _=>rfl,λ_ _ h=>h,λ_ _ _ _ h=>h,λ_ _ _ h=>h⟩
def AA.trans {a b c:Y} (d:AA a b) (e:AA b c):AA a c:=
 ⟨Ao d.nx e.nx,λi U=>(e.t i (AC U d.nx)).trans (d.t i U),λN j h=>e.lo N (Ao j d.nx) (d.lo N j h),
  λN b0 j hb h=>e.g N b0 (Ao j d.nx) hb (d.g N b0 j hb h),λn P k h=>e.f n P (Ao k d.nx) (d.f n P k h)⟩
def AA.ad (h:Y):AA h h.ad:=by
 cases h;exact⟨Ae _,λ_ _=>rfl,λ_ _ _=>rfl,λ_ _ _ _ _=>.inl B,λ_ _ _ _=>trivial⟩
def AA.ag {h J:Y} (e:AA h.ad J):J.lo.ag h.nx=true:=by
 have:=e.lo h.nx (by rw[BF];exact Ae _) (by rw[DZ];rfl);exact this
def DF (h J:Y):(h.aa J).t=J.t:=by cases h;cases J;rfl
def CL (h J:Y):(h.aa J).nx=J.nx:=by cases h;cases J;rfl
def J7 (h J:Y):(h.aa J).lo=Pf h.lo J.lo:=by cases h;cases J;rfl
def AA.aa {h J:Y} (e:AA h.ad J):AA h (h.aa J):=
 ⟨by rw[CL];have:=e.nx;rw[BF] at this;exact this,λb hb=>by rw[DF];have:=e.t b (by rw[BF];exact hb);rw[Ow] at this;exact this,
  λN c a=>by rw[J7];exact Rx a (e.lo N (by rw[BF];exact c) (by rw[DZ];rfl)),
  λN b0 c hb a=>by rw[J7];exact YY hb a (e.g N b0 (by rw[BF];exact c) hb (by rw[DZ];exact .inl B)),
  λn P d a=>by rw[J7];exact Zv a (e.f n P (by rw[BF];exact d) (by rw[DZ];trivial))⟩
def Ck (h:Y) (b:HB):(h.new b).nx=h.nx+1:=by cases h;rfl
def CK (h:Y) (b:HB) (i:Nat):(h.new b).t.get i=if i=h.nx then I b else h.t.get i:=by cases h;exact T.dA _ _ _ _
def Cc (h:Y) (i:Nat) (b:HB):(h.put i b).nx=h.nx:=by cases h;rfl
def BQ (h:Y) (i:Nat) (b:HB) (j:Nat):(h.put i b).t.get j=if j=i then I b else h.t.get j:=by cases h;exact T.dA _ _ _ _
def AA.new (h:Y) (b:HB):AA h (h.new b):=
 ⟨by rw[Ck];omega,λi U=>by rw[CK,Bm (by omega)],λN _ a=>by rw[Lo];exact a,λN b0 _ _ a=>by rw[Lo];exact a,λn P _ a=>by rw[Lo];exact a⟩
def AA.put {c h:Y} (e:AA c h) {i:Nat} (U:c.nx<=i) (b:HB):AA c (h.put i b):=
 ⟨by rw[Cc];exact e.nx,λj k=>by rw[BQ,Bm (by omega)];exact e.t j k,λN d a=>by rw[Of];exact F2 (by omega) (e.lo N d a),
  λN b0 d hb a=>by rw[Of];exact Ib hb (.inr (by omega)) (e.g N b0 d hb a),λn P l a=>by rw[Of];exact NC (e.f n P l a) (.inr (by omega))⟩
def Cell.ext {h J:Y} {b o:Nat} {v:Aa} (c:Cell h b o v) (e:AA h J):Cell J b o v:=by
 obtain⟨hb,c,n,t,lo,U,x,a,d⟩:=c;exact⟨AC hb e.nx,c,n,t,lo,U,x,by rw[e.t b hb];exact a,d⟩
structure Er (b:Nat) (h J:Y):Prop where
 nx:J.nx=h.nx
 t:∀i,i≠b->J.t.get i=h.t.get i
 lo:J.lo=Gf h.lo b
def Er.put (h:Y) (i:Nat) (b:HB):Er i h (h.put i b):=⟨Cc _ _ _,λj a=>by rw[BQ,Bm a],Of _ _ _⟩
def AA.ah {b h J:Y} (e:AA b h) {i:Nat} (u:Er i h J) (U:b.nx<=i):AA b J:=
 ⟨by rw[u.nx];exact e.nx,λj d=>by rw[u.t j (by omega)];exact e.t j d,λN c a=>by rw[u.lo];exact F2 (by omega) (e.lo N c a),
  λN b0 c hb a=>by rw[u.lo];exact Ib hb (.inr (by omega)) (e.g N b0 c hb a),λn P k a=>by rw[u.lo];exact NC (e.f n P k a) (.inr (by omega))⟩
def Cell.ah {h J:Y} {b o i:Nat} {v:Aa} (c:Cell h b o v) (u:Er i h J) (a:b≠i):Cell J b o v:=by
 obtain⟨hb,c,n,t,lo,U,x,d,e⟩:=c;exact⟨by rw[u.nx];exact hb,c,n,t,lo,U,x,by rw[u.t b a];exact d,e⟩
def Own (h:Y) (b:Nat) (e:Ai) (xs:AH):Prop:=b<h.nx/\∃c x,h.t.get b=I (.cells c xs.length e 0 0 x)/\∀i v,xs[i]?=I v->c.get i=I v
def Own.cell {h:Y} {b:Nat} {e:Ai} {xs:AH} (o:Own h b e xs) {i:Nat} {v:Aa} (U:xs[i]?=I v):Cell h b i v:=by
 obtain⟨hb,c,x,a,d⟩:=o;exact⟨hb,c,_,e,0,0,x,a,d i v U⟩
def Own.ext {h J:Y} {b:Nat} {e:Ai} {xs:AH} (o:Own h b e xs) (x:AA h J):Own J b e xs:=by
 obtain⟨hb,c,y,a,d⟩:=o;exact⟨AC hb x.nx,c,y,by rw[x.t b hb];exact a,d⟩
def Own.ah {h J:Y} {b i:Nat} {e:Ai} {xs:AH} (o:Own h b e xs) (u:Er i h J) (a:b≠i):Own J b e xs:=by
 obtain⟨hb,c,y,d,f⟩:=o;exact⟨by rw[u.nx];exact hb,c,y,by rw[u.t b a];exact d,f⟩
def NP (xs:AH) {i:Nat} {v:Aa} (U:xs[i]?=I v):(T.laid xs 0 .nil).get i=I v:=by
 rw[T.an];have:=(List.getElem?_eq_some_iff.1 U).1;rw[Bi (by omega)];exact U
def Own.new (h:Y) (e:Ai) (xs:AH) (x:Bool):Own (h.new (.cells (T.laid xs 0 .nil) xs.length e 0 0 x)) h.nx e xs:=
 ⟨by rw[Ck];omega,_,x,by rw[CK,Bi B],λ_ _ U=>NP xs U⟩
def Own.row (h:Y) (e:Ai) (xs:AH):Own (BN h e xs) h.nx e xs:=Own.new h e xs Ag
def Own.a4 (h:Y) (e:Ai) (xs:AH):Own (Go.Ev.HY h e xs) h.nx e xs:=Own.new h e xs Ah
def AA.row (h:Y) (e:Ai) (xs:AH):AA h (BN h e xs):=AA.new _ _
def AA.a4 (h:Y) (e:Ai) (xs:AH):AA h (Go.Ev.HY h e xs):=AA.new _ _
def I2:AH->Nat->AH->AH
 |xs,_,[]=>xs
 |xs,i,v::vs=>I2 (xs.set i v) (i+1) vs
def LH:∀(vs xs:AH) (i:Nat),(I2 xs i vs).length=xs.length
 |[],_,_=>rfl
 |v::vs,xs,i=>by rw[I2,LH vs];simp
def OF:∀(vs xs:AH) (i:Nat) (c:T Aa),(∀j v,xs[j]?=I v->c.get j=I v)->i+vs.length<=xs.length->∀j v,(I2 xs i vs)[j]?=I v->(T.laid vs i c).get j=I v
 |[],xs,i,c,b,_,j,v,a=>b j v a
 |
  x::vs,xs,i,c,b,d,j,v,a=>by
  rw[T.bC];simp only[AO] at d;refine OF vs (xs.set i x) (i+1) (c.ins i x) (λj v a=>?_) (by simp;omega) j v a;rw[T.dA];by_cases e:j=i
  .subst e
   rw[Bi B];rw[O4 (by omega)] at a;exact a
  .rw[Bm e]
   rw[Amv (λh=>e h.symm)] at a;exact b j v a
def Own.bb {h:Y} {b:Nat} {e:Ai} {xs:AH} (o:Own h b e xs) {i:Nat} {vs:AH} (U:i+vs.length<=xs.length) (a:vs.all one=Ag):
 ∃J,Gi h b i vs=I J/\Own J b e (I2 xs i vs)/\Er b h J:=by
 obtain⟨hb,c,x,d,f⟩:=o;refine⟨h.put b (.cells (T.laid vs i c) xs.length e 0 0 x),?_,⟨by rw[Cc];exact hb,_,x,by rw[BQ,Bi B,LH],OF vs xs i c f U⟩,Er.put _ _ _⟩;unfold Gi;simp only[d];have:RP xs.length 0 0 i vs.length=true:=by unfold RP;simp;omega
 rw[this,a];rfl
def Own.store {τ:Bb} {t:Ai} {a:KR} (U:τ.aj.get t=I a) (d:a.size=1) {h:Y} {b:Nat} {e:Ai} {xs:AH} (o:Own h b e xs) {i:Nat} (l:i<xs.length) {v:Aa} (c:one v=Ag):
 ∃J,BA τ t h b i v=I J/\Own J b e (xs.set i v)/\Er b h J:=by
 have f:AJ v=[v]:=by cases v<;>first|rfl|cases c
 obtain⟨J,g,j,k⟩:=o.bb (i:=i) (vs:=[v]) (by simp;omega) (by simp[c]);refine⟨J,?_,j,k⟩;unfold BA;simp only[U,d,f,Br];exact g
structure B0 (W:Nat->Prop) (h J:Y):Prop where
 nx:h.nx<=J.nx
 t:∀b,b<h.nx->¬W b->J.t.get b=h.t.get b
 lo:∀N,N<=h.nx->(∀i,W i->N<=i)->h.lo.ag N=Ag->J.lo.ag N=Ag
 g:∀N b0,N<=h.nx->b0<N->(∀i,W i->i=b0\/N<=i)->GG N b0 h.lo->GG N b0 J.lo
 f:∀n P,n<=h.nx->(∀i,W i->P i\/n<=i)->FQ n P h.lo->FQ n P J.lo
def AA.ae {h J:Y} (e:AA h J) (W:Nat->Prop):B0 W h J:=⟨e.nx,λb hb _=>e.t b hb,λN c _ a=>e.lo N c a,λN b0 c hb _ a=>e.g N b0 c hb a,λn P d _ a=>e.f n P d a⟩
def Er.ae {b:Nat} {h J:Y} (u:Er b h J):B0 (·=b) h J:=
 ⟨by rw[u.nx];exact Ae _,λi _ U=>u.t i U,λN _ a c=>by rw[u.lo];exact F2 (a b B) c,λN b0 _ hb a c=>by rw[u.lo];exact Ib hb (a b B) c,λn P _ a c=>by rw[u.lo];exact NC c (a b B)⟩
def B0.trans {W:Nat->Prop} {a b c:Y} (e:B0 W a b) (h:B0 W b c):B0 W a c:=
 ⟨Ao e.nx h.nx,λi U d=>(h.t i (AC U e.nx) d).trans (e.t i U d),λN j d k=>h.lo N (Ao j e.nx) d (e.lo N j d k),
  λN b0 j hb d k=>h.g N b0 (Ao j e.nx) hb d (e.g N b0 j hb d k),λn P l d k=>h.f n P (Ao l e.nx) d (e.f n P l d k)⟩
def B0.mono {W k:Nat->Prop} {a b:Y} (c:B0 W a b) (e:∀i,W i->k i):B0 k a b:=
 ⟨c.nx,λi U h=>c.t i U λl=>h (e i l),λN j h d=>c.lo N j (λi U=>h i (e i U)) d,λN b0 j hb h d=>c.g N b0 j hb (λi U=>h i (e i U)) d,λn P m h d=>c.f n P m (λi U=>h i (e i U)) d⟩
def AA.then {W:Nat->Prop} {k h J:Y} (e:AA k h) (c:B0 W h J) (j:∀i,W i->k.nx<=i):AA k J:=
 ⟨Ao e.nx c.nx,λb hb=>(c.t b (AC hb e.nx) λh=>by have:=j b h;omega).trans (e.t b hb),λN a d=>c.lo N (Ao a e.nx) (λi U=>Ao a (j i U)) (e.lo N a d),
  λN b0 a hb d=>c.g N b0 (Ao a e.nx) hb (λi U=>.inr (Ao a (j i U))) (e.g N b0 a hb d),λn P l d=>c.f n P (Ao l e.nx) (λi U=>.inr (Ao l (j i U))) (e.f n P l d)⟩
def Cell.ae {W:Nat->Prop} {h J:Y} {b o:Nat} {v:Aa} (c:Cell h b o v) (e:B0 W h J) (a:¬W b):Cell J b o v:=by
 obtain⟨hb,c,n,t,lo,U,x,d,f⟩:=c;exact⟨AC hb e.nx,c,n,t,lo,U,x,by rw[e.t b hb a];exact d,f⟩
def Own.ae {W:Nat->Prop} {h J:Y} {b:Nat} {e:Ai} {xs:AH} (o:Own h b e xs) (x:B0 W h J) (a:¬W b):Own J b e xs:=by
 obtain⟨hb,c,y,d,f⟩:=o;exact⟨AC hb x.nx,c,y,by rw[x.t b hb a];exact d,f⟩
def AS (h:Y) (N:Nat) (e:Ai) (k:Nat) (v:Aa) (n:Nat) (xs:AH):Prop:=
 xs.length=n*k/\((v=.slice Z 0 0/\n=0)\/∃b c sp,v=.slice (I ⟨b,0,Z⟩) n c/\N<=b/\n<=c/\(xs++sp).length=c*k/\Own h b e (xs++sp))
def BY:Aa->Nat->Prop
 |.slice (I a) _ _,i=>i=a.block
 |_,_=>False
def AS.nil (h:Y) (N:Nat) (e:Ai) (k:Nat):AS h N e k (.slice Z 0 0) 0 []:=⟨by simp,.inl ⟨B,B⟩⟩
def AS.ext {h J:Y} {N:Nat} {e:Ai} {k:Nat} {v:Aa} {n:Nat} {xs:AH} (o:AS h N e k v n xs) (x:AA h J):AS J N e k v n xs:=by
 obtain⟨d,a|⟨b,c,sp,a,f,g,i,j⟩⟩:=o
 .exact⟨d,.inl a⟩
 .exact⟨d,.inr ⟨b,c,sp,a,f,g,i,j.ext x⟩⟩
def AS.ae {W:Nat->Prop} {h J:Y} {N:Nat} {e:Ai} {k:Nat} {v:Aa} {n:Nat} {xs:AH} (o:AS h N e k v n xs) (x:B0 W h J) (f:∀i,BY v i->¬W i):AS J N e k v n xs:=by
 obtain⟨d,a|⟨b,c,sp,a,g,j,l,m⟩⟩:=o
 .exact⟨d,.inl a⟩
 .exact⟨d,.inr ⟨b,c,sp,a,g,j,l,m.ae x (f b (by rw[a];rfl))⟩⟩
def AS.ai {h:Y} {N:Nat} {e:Ai} {k:Nat} {v:Aa} {n:Nat} {xs:AH} (o:AS h N e k v n xs):∀i,BY v i->N<=i:=by
 intro i U;obtain⟨d,⟨a,_⟩|⟨b,c,sp,a,f,_⟩⟩:=o
 .rw[a] at U;exact U.elim
 .rw[a] at U;have:i=b:=U;omega
def AS.aw {h:Y} {N:Nat} {e:Ai} {k:Nat} {v:Aa} {n:Nat} {xs:AH} (o:AS h N e k v n xs):∀i,BY v i->i<h.nx:=by
 intro i U;obtain⟨f,⟨a,_⟩|⟨b,c,sp,a,g,_,_,d⟩⟩:=o
 .rw[a] at U;exact U.elim
 .rw[a] at U;have:i=b:=U;rw[this];exact d.1
def AS.cell {h:Y} {N:Nat} {e:Ai} {k:Nat} {v:Aa} {n:Nat} {xs:AH} (o:AS h N e k v n xs) {i:Nat} {u:Aa} (U:xs[i]?=I u):∃b c,v=.slice (I ⟨b,0,Z⟩) n c/\N<=b/\Cell h b i u:=by
 obtain⟨d,⟨f,a⟩|⟨b,c,sp,f,a,j,l,g⟩⟩:=o
 .subst a
  have:=(List.getElem?_eq_some_iff.1 U).1;simp at d;subst d;simp at this
 .exact⟨b,c,f,a,g.cell (by rw[AB (List.getElem?_eq_some_iff.1 U).1];exact U)⟩
def SJ {c:T Aa} {xs:AH} (a:∀i v,xs[i]?=I v->c.get i=I v):∀(k off:Nat),off+k<=xs.length->DV c k off=I ((xs.drop off).take k)
 |0,off,_=>by rw[List.take_zero];rfl
 |
  k+1,off,e=>by
  have b:off<xs.length:=by omega
  have d:=SJ a k (off+1) (G);show(match c.get off with|some v=>(match DV c k (off+1) with|some l=>I (v::l)|none=>Z)|none=>Z)=_
  rw[a off xs[off] (Ab b),d];simp only[];rw[Di b];rfl
def Own.bx {h:Y} {b:Nat} {e:Ai} {xs:AH} (o:Own h b e xs) {off k:Nat} (a:off+k<=xs.length):
 ∃c x,h.t.get b=I (.cells c xs.length e 0 0 x)/\Go.Ev.DV c k off=I ((xs.drop off).take k):=by
 obtain⟨_,c,x,d,f⟩:=o;exact⟨c,x,d,SJ f k off a⟩
def G1 (τ:Bb) (st t2 e k:Nat):Bool:=
 (match τ.ds.get st with|some (.slice a)=>Am a e|_=>Ah)&&!MU τ (I t2)&&
 (match τ.aj.get e,CP τ e with|some i,I z=>Am i.size k&&AD 0 k&&Am (AJ z).length k&&(AJ z).all one&&Ar i.bytes 1024|_,_=>Ah)
def In {τ:Bb} {st t2 e k:Nat} (h:G1 τ st t2 e k=Ag):τ.ds.get st=I (.slice e)/\MU τ (I t2)=Ah/\
 ∃i z,τ.aj.get e=I i/\CP τ e=I z/\i.size=k/\0<k/\(AJ z).length=k/\(AJ z).all one=Ag/\i.bytes<=1024:=by
 unfold G1 at h;simp only[An] at h;obtain⟨⟨b,d⟩,a⟩:=h;refine⟨?_,by simpa using d,?_⟩
 .split at b
  .rename_i n f;rw[f,Af b]
  .cases b
 .split at a
  .rename_i i z U g
   simp only[An] at a;obtain⟨⟨⟨⟨a1,c⟩,j⟩,l⟩,m⟩:=a;exact⟨i,z,U,g,Af a1,by rw[AK] at c;exact c,Af j,l,Ac m⟩
  .cases a
def Ha {n:Nat} (h:n<=1099511627776):E3 n=true:=Aq h
def M2 {m b:Nat} (a:m<=1000000000) (hb:b<=1024):Tx m b=true:=by
 have c:(m+m/4+192)*b<=1250000192*1024:=Cj (G) hb;unfold Tx;rw[Aq (show(m+m/4+192)*b<=281474976710656 by omega),Aq (show m<=70368744177664 by omega)];rfl
def by8 (τ:Bb) (e:Ai):Bool:=match τ.aj.get e with|some i=>Ar i.bytes 8|none=>Ah
def Aww {τ:Bb} {st t2 e k:Nat} (u:G1 τ st t2 e k=Ag) {h:Y} {N:Nat} {v x:Aa} {n m:Nat} {xs ys:AH} (o:AS h N e k v n xs) (R:MM x=I m) (w:MN k h x m=I ys)
 (a:ys.length=m*k) (l:ys.all one=Ag) (A:N<=h.nx) (S:m<=1000000000) (hb:n+m<=1000000000\/n+m<=26000000000000/\by8 τ e=Ag):
 ∃f J,Bx τ .append [st,t2] [v,x] h=I (f,J)/\AS J N e k f (n+m) (xs++ys)/\B0 (BY v) h J/\(∀i,BY f i->BY v i\/h.nx<=i):=by
 obtain⟨t1,T,i,z,t3,t4,t5,t6,t7,t8,t9⟩:=In u;have C:E3 (m*i.bytes)=true:=Ha (by
  have:m*i.bytes<=1000000000*1024:=Cj S t9;omega)
 have D:E3 m=true:=Ha (G);have V:Tx (n+m) i.bytes=true:=by
  rcases hb with hb|⟨hb,p⟩
  .exact M2 hb t9
  unfold by8 at p;rw[t3] at p;have:(n+m+(n+m)/4+192)*i.bytes<=32500000000192*8:=Cj (G) (Ac p);unfold Tx;rw[Aq (show(n+m+(n+m)/4+192)*i.bytes<=281474976710656 by omega),Aq (show n+m<=70368744177664 by omega)];rfl
 suffices H:∃f J,Gj τ [st,t2] [v,x] h=I (f,J)/\AS J N e k f (n+m) (xs++ys)/\B0 (BY v) h J/\(∀i,BY f i->BY v i\/h.nx<=i) by
  obtain⟨f,J,g,j⟩:=H;exact⟨f,J,by simp only[Bx,g],j⟩
 have E:(AD 0 k&&ys.all one&&Am k k&&Ag)=true:=by
  rw[l];simp[AK,t6]
 unfold Gj;simp only[List.head?_cons,T,I0,t1,t3,R,t4,t5,w,t7,t8,E,D1];obtain⟨d,⟨rfl,rfl⟩|⟨b,c,sp,rfl,F,q4,q,r⟩⟩:=o
 .simp at d;subst d
  simp only[Ba] at*;cases m with
  |
   zero=>
   simp at a;subst a;exact⟨_,_,B,AS.nil h N e k,(AA.refl h).ae _,λi U=>U.elim⟩
  |
   succ m=>
   simp only[C,D];refine⟨.slice (I ⟨h.nx,0,Z⟩) (m+1) (m+1),Go.Ev.HY h e ys,B,⟨by simpa using a,.inr ⟨h.nx,m+1,[],B,A,Ae _,by simpa using a,by simpa using Own.a4 h e ys⟩⟩,(AA.a4 h e ys).ae _,λi U=>.inr (A2 U.symm)⟩
 .simp only[]
  cases t:Ar (n+m) c with
  |
   true=>
   have K:=Ac t;have W:n*k+m*k<=(xs++sp).length:=by rw[q,←Dw];exact Ci k K
   obtain⟨J,L,M,O⟩:=r.bb (i:=0+n*k) (vs:=ys) (by rw[a];omega) l;simp only[D1,L];cases m with
   |
    zero=>
    simp at a;subst a;exact⟨_,_,B,⟨by simpa using d,.inr ⟨b,c,sp,by simp,F,G,by simpa using q,by simpa using r⟩⟩,(AA.refl h).ae _,λi U=>.inl U⟩
   |
    succ m=>
    refine⟨_,_,B,⟨by simp[d,a,Dw],.inr ⟨b,c,sp.drop ((m+1)*k),B,F,K,?_,?_⟩⟩,O.ae,λi U=>.inl U⟩
    .simp only[Aj,AV,d,a] at*;omega
    .have:I2 (xs++sp) (0+n*k) ys=xs++ys++sp.drop ((m+1)*k):=by
      rw[Ba,←d,←a];clear L M O w l C D u E;have Cw:∀(ys xs sp:AH),ys.length<=sp.length->I2 (xs++sp) xs.length ys=xs++ys++sp.drop ys.length:=by
       intro ys
       induction ys with
       |nil=>intro xs sp _;simp[I2]
       |
        cons y ys X=>
        intro xs sp P;cases sp with
        |nil=>simp at P
        |
         cons s sp=>
         rw[I2];have g:(xs++s::sp).set xs.length y=(xs++[y])++sp:=by simp
         have j:xs.length+1=(xs++[y]).length:=by simp
         rw[g,j,X (xs++[y]) sp (by simpa using P)];simp
      refine Cw ys xs sp ?_;simp only[Aj,d,a] at W⊢;omega
     rw[←this];exact M
  |
   false=>
   have aa:c<n+m:=by
    rcases A8 c (n+m) with h|h
    .exact h
    .rw[Aq h] at t;cases t
   obtain⟨cc,xb,g1,Q⟩:=r.bx (off:=0) (k:=n*k) (by simp[d]);have g3:((xs++sp).drop 0).take (n*k)=xs:=by rw[Ajb,←d,List.take_left]
   rw[g3] at Q;have g:Am e e=true:=by simp
   have j:Am (0+c*k) (xs++sp).length=true:=by rw[q,Ba];simp
   simp only[I0,V,Bool.and_self,D1,g1,g,Q,j,(rfl:Ar 0 0=Ag),Bool.true_or,Mh];refine⟨_,_,B,⟨by simp[d,a,Dw],.inr ⟨h.nx,n+m,[],?_,A,Ae _,by simp[d,a,Dw],?_⟩⟩,?_,λi U=>.inr (A2 U.symm)⟩
   .rfl
   .rw[Fb]
    have:=Own.new (h.put b .dead) e (xs++ys) Ah;rw[Cc] at this;exact this
   .exact((Er.put h b .dead).ae).trans ((AA.new _ _).ae _)
def UN {τ:Bb} {st t2 e k:Nat} (b:G1 τ st t2 e k=Ag) {h:Y} {N:Nat} {v x:Aa} {n m:Nat} {xs ys:AH} (o:AS h N e k v n xs) (c:MM x=I m) (d:MN k h x m=I ys)
 (f:ys.length=m*k) (g:ys.all one=Ag) (j:N<=h.nx) (hb:n+m<=1000000000):
 ∃a J,Bx τ .append [st,t2] [v,x] h=I (a,J)/\AS J N e k a (n+m) (xs++ys)/\B0 (BY v) h J/\(∀i,BY a i->BY v i\/h.nx<=i):=Aww b o c d f g j (G) (.inl hb)
def Il {k:Nat} {h:Y} {b:Nat} {e:Ai} {xs:AH} (o:Own h b e xs) {off n c m:Nat} {sp:Option Nat} (a:off+m*k<=xs.length):MN k h (.slice (I ⟨b,off,sp⟩) n c) m=I ((xs.drop off).take (m*k)):=by
 obtain⟨g,x,d,f⟩:=o.bx a;simp only[MN,d];exact f
def Iv {τ:Bb} {t e k:Nat} (b:G1 τ t t e k=Ag) (v:Aa) (a:(AJ v).length=k) (c:(AJ v).all one=Ag) (l:k<=1000) (h:Y):
 Bs τ t 1 [(0,v)] h=I (.slice (I ⟨h.nx,0,Z⟩) 1 1,BN h e (AJ v)):=by
 obtain⟨t1,_,i,z,t3,t4,t5,t6,t7,t8,t9⟩:=In b;unfold Bs;simp only[t1,t3,t4,t5,t7];have c1:(AD 0 k&&Am k k&&Ar (1*k) 16777216)=true:=by
  simp[AK,t6];omega
 rw[c1];simp only[D1];have d:Dy (AJ z) 1=AJ z:=by simp[Dy]
 rw[d];have Cw:∀(vs xs pre:AH),vs.length=xs.length->My (pre++xs) pre.length vs=pre++vs:=by
  intro vs
  induction vs with
  |nil=>intro xs pre h;cases xs with|nil=>rfl|cons _ _=>cases h
  |
   cons v vs f=>
   intro xs pre h;cases xs with
   |nil=>cases h
   |
    cons x xs=>
    rw[My];have g:(pre++x::xs).set pre.length v=(pre++[v])++xs:=by simp
    rw[g,show pre.length+1=(pre++[v]).length by simp,f xs (pre++[v]) (by simpa using h)];simp
 have c3:My (AJ z) (0*k) (AJ v)=AJ v:=by
  rw[Qg];exact Cw (AJ v) (AJ z) [] (by rw[a,t7])
 have c4:Jw (λj=>I (j*k,k)) [(0,v)] (AJ z)=I (AJ v):=by
  rw[Jw];simp only[a,c,t7];have:(Am k k&&Ar (0*k+k) k&&Ag)=true:=by simp
  rw[this,c3];rfl
 rw[c4]
def Tz {τ:Bb} {st t2 e k:Nat} (c:G1 τ st t2 e k=Ag) {h:Y} {N:Nat} {v:Aa} {n:Nat} {xs ys:AH} (o:AS h N e k v n xs)
 (d:ys.length=k) (f:ys.all one=Ag) (g:N<=h.nx) (hb:n+1<=1000000000):
 ∃a J,Bx τ .append [st,t2] [v,.slice (I ⟨h.nx,0,Z⟩) 1 1] (BN h e ys)=I (a,J)/\AS J N e k a (n+1) (xs++ys)/\B0 (BY v) h J/\(∀i,BY a i->BY v i\/h.nx<=i):=by
 have b:=AA.row h e ys;have j:=Own.row h e ys;obtain⟨a,J,l,p,q,r⟩:=UN c (m:=1) (ys:=ys) (o.ext b) (x:=.slice (I ⟨h.nx,0,Z⟩) 1 1) B
  (by rw[Il j (G)];simp[←d]) (G) f (Ao g b.nx) hb
 refine⟨a,J,l,p,(b.ae _).trans q,λi U=>?_⟩;rcases r i U with h|h
 .exact .inl h
 .exact .inr (Ao b.nx h)
def B0.cell {W:Nat->Prop} {h J:Y} {b o:Nat} {v:Aa} (e:B0 W h J) (c:Cell h b o v) (a:¬W b):Cell J b o v:=c.ae e a
def Rd (h:Y) (v:Aa) (k n:Nat) (xs:AH):Prop:=xs.length=n*k/\∃A c,v=.slice A n c/\n<=c/\(A=Z->c=0)/\
 ∀a,A=I a->a.block<h.nx/\∃c m e lo U x,h.t.get a.block=I (.cells c m e lo U x)/\∀i u,xs[i]?=I u->c.get (a.off+i)=I u
def Rd.ae {W:Nat->Prop} {h J:Y} {v:Aa} {k n:Nat} {xs:AH} (r:Rd h v k n xs) (e:B0 W h J) (g:∀i,BY v i->¬W i):Rd J v k n xs:=by
 obtain⟨j,A,c,b,l,o,p⟩:=r;refine⟨j,A,c,b,l,o,λa d=>?_⟩;obtain⟨f,c,m,t,lo,U,x,q,s⟩:=p a d;exact⟨AC f e.nx,c,m,t,lo,U,x,by rw[e.t _ f (g _ (by rw[b,d];rfl))];exact q,s⟩
def Rd.ext {h J:Y} {v:Aa} {k n:Nat} {xs:AH} (r:Rd h v k n xs) (e:AA h J):Rd J v k n xs:=r.ae (e.ae λ_=>False) λ_ _ h=>h
def Rd.aw {h:Y} {v:Aa} {k n:Nat} {xs:AH} (r:Rd h v k n xs):∀i,BY v i->i<h.nx:=by
 intro i U;obtain⟨_,A,c,rfl,_,_,b⟩:=r;cases A with
 |none=>exact U.elim
 |some a=>have:i=a.block:=U;rw[this];exact(b a B).1
def Rd.at_ {h:Y} {v:Aa} {k n:Nat} {xs:AH} (r:Rd h v k n xs) (p:0<n):∃a c,v=.slice (I a) n c/\n<=c/\∀i u,xs[i]?=I u->Cell h a.block (a.off+i) u:=by
 obtain⟨q,A,c,b,d,e,f⟩:=r;cases A with
 |none=>have:=e B;omega
 |
  some a=>
  refine⟨a,c,b,d,λi u U=>?_⟩;obtain⟨g,c,m,t,lo,j,x,l,o⟩:=f a B;exact⟨g,c,m,t,lo,j,x,l,o i u U⟩
def AS.rd {h:Y} {N:Nat} {e:Ai} {k:Nat} {v:Aa} {n:Nat} {xs:AH} (o:AS h N e k v n xs):Rd h v k n xs:=by
 obtain⟨f,⟨rfl,rfl⟩|⟨b,c,sp,rfl,q,g,r,j,l,y,m,p⟩⟩:=o
 .exact⟨f,Z,0,B,Ae _,λ_=>rfl,λa d=>by cases d⟩
 .refine⟨f,I ⟨b,0,Z⟩,c,B,g,(λh=>by cases h),λa d=>?_⟩
  cases d;refine⟨j,l,_,e,0,0,y,m,λi u U=>?_⟩;rw[Ba];exact p i u (by rw[AB (List.getElem?_eq_some_iff.1 U).1];exact U)
def B0.then {W m:Nat->Prop} {l h J:Y} (a:B0 W l h) (b:B0 m h J) (k:∀i,m i->W i\/l.nx<=i):B0 W l J:=
 ⟨Ao a.nx b.nx,λi U d=>(b.t i (AC U a.nx) λh=>by
  rcases k i h with h|h
  .exact d h
  .omega).trans (a.t i U d),λN e c j=>b.lo N (Ao e a.nx) (λi U=>by
  rcases k i U with h|h
  .exact c i h
  .omega) (a.lo N e c j),λN b0 e hb c j=>b.g N b0 (Ao e a.nx) hb (λi U=>by
  rcases k i U with h|h
  .exact c i h
  .right;omega) (a.g N b0 e hb c j),λn P d c j=>b.f n P (Ao d a.nx) (λi U=>by
  rcases k i U with h|h
  .exact c i h
  .right;omega) (a.f n P d c j)⟩
def Own.st {τ:Bb} {t:Ai} (a:Gv τ t=Ag) {h:Y} {b:Nat} {e:Ai} {xs:AH} (o:Own h b e xs) {i:Nat} (c:i<xs.length) {v:Aa} (d:one v=Ag):
 ∃J,BA τ t h b i v=I J/\Own J b e (xs.set i v)/\Er b h J:=by
 unfold Gv at a;split at a
 .rename_i f U;exact o.store U (Af a) c d
 .cases a
def AS.ah {h J:Y} {b:Nat} {N:Nat} {e:Ai} {k:Nat} {v:Aa} {n:Nat} {xs:AH} (o:AS h N e k v n xs) (x:Er b h J) (a:∀i,BY v i->i≠b):AS J N e k v n xs:=o.ae x.ae a
def Rd.ah {h J:Y} {b:Nat} {v:Aa} {k n:Nat} {xs:AH} (r:Rd h v k n xs) (x:Er b h J) (a:∀i,BY v i->i≠b):Rd J v k n xs:=r.ae x.ae a
def D5 {h:Y} {N:Nat} {e:Ai} {k:Nat} {v:Aa} {n:Nat} {xs:AH} (o:AS h N e k v n xs):one v=true:=by
 obtain⟨_,⟨rfl,_⟩|⟨b,c,sp,rfl,_⟩⟩:=o<;>rfl
def QV (z:Aa):∀n,Dy [z] n=AE n z
 |0=>rfl
 |n+1=>by rw[Dy,QV z n];rfl
def YH {τ:Bb} {t e k:Nat} {z:Aa} (f:G1 τ t t e k=Ag) (b:CP τ e=I z) (l m:Nat) (g:l<=m) (j:m<=16777216) (c d:Cq) (h:Y):
 ∃a,Dk τ t (.int c (l:Int)) (.int d (m:Int)) h=I (.slice (I ⟨h.nx,0,Z⟩) l m,a)/\AA h a/\Own a h.nx e (Dy (AJ z) m)/\a.nx=h.nx+1:=by
 obtain⟨t1,_,i,r,t3,t4,t5,t6,t7,t8,t9⟩:=In f;rw[b] at t4;cases t4;refine⟨BN h e (Dy (AJ z) m),?_,AA.row _ _ _,Own.row _ _ _,Ck _ _⟩;unfold Dk;have n:Fs (.int c (l:Int))=I l:=rfl;have o:Fs (.int d (m:Int))=I m:=rfl;simp only[t1,n,o,t3,b];have b1:E3 (m*i.bytes)=true:=Ha (by
  have:m*i.bytes<=16777216*1024:=Cj j t9;omega)
 have p:E3 m=true:=Ha (G);have q:(Ar l m&&E3 (m*i.bytes)&&E3 m&&AD 0 i.size&&Am (AJ z).length i.size)=true:=by
  rw[b1,p,t5,t7,Aq g];simp[AK];omega
 rw[q];rfl
def Vs {τ:Bb} {t e:Ai} {z:Aa} (d:G1 τ t t e 1=Ag) (f:CP τ e=I z) (a:one z=Ag) (l m:Nat) (g:l<=m) (i:m<=16777216) (b c:Cq) (h:Y):
 ∃a,Dk τ t (.int b (l:Int)) (.int c (m:Int)) h=I (.slice (I ⟨h.nx,0,Z⟩) l m,a)/\AA h a/\Own a h.nx e (AE m z)/\a.nx=h.nx+1:=by
 have:=YH d f l m g i b c h;have j:AJ z=[z]:=by cases z<;>first|rfl|cases a
 rwa [j,QV] at this
def MA {τ:Bb} {t e:Ai} {z:Aa} (d:G1 τ t t e 1=Ag) (f:CP τ e=I z) (a:one z=Ag) (m:Nat) (g:m<=16777216) (b c:Cq) (h:Y):
 ∃a,Dk τ t (.int b (m:Int)) (.int c (m:Int)) h=I (.slice (I ⟨h.nx,0,Z⟩) m m,a)/\AA h a/\Own a h.nx e (AE m z)/\a.nx=h.nx+1:=Vs d f a m m (Ae _) g b c h
def Own.aa {h J:Y} {b:Nat} {e:Ai} {xs:AH} (o:Own J b e xs):Own (h.aa J) b e xs:=by
 unfold Own;rw[CL,DF];exact o
def Cell.aa {h J:Y} {b i:Nat} {v:Aa} (o:Cell J b i v):Cell (h.aa J) b i v:=by
 unfold Cell;rw[CL,DF];exact o
def AS.aa {h J:Y} {N:Nat} {e:Ai} {k:Nat} {v:Aa} {n:Nat} {xs:AH} (o:AS J N e k v n xs):AS (h.aa J) N e k v n xs:=by
 obtain⟨d,a|⟨b,c,sp,a,f,g,i,j⟩⟩:=o
 .exact⟨d,.inl a⟩
 .exact⟨d,.inr ⟨b,c,sp,a,f,g,i,j.aa⟩⟩
def Rd.aa {h J:Y} {v:Aa} {k n:Nat} {xs:AH} (r:Rd J v k n xs):Rd (h.aa J) v k n xs:=by
 unfold Rd;rw[CL,DF];exact r
def Er.aa {b:Nat} {h J:Y} (u:Er b h.ad J):Er b h (h.aa J):=
 ⟨by rw[CL,u.nx,BF],λi U=>by rw[DF,u.t i U,Ow],by rw[J7,u.lo,DZ];rfl⟩
def B0.aa {W:Nat->Prop} {h J:Y} (u:B0 W h.ad J):B0 W h (h.aa J):=
 ⟨by rw[CL];have:=u.nx;rw[BF] at this;exact this,λb hb a=>by rw[DF];have:=u.t b (by rw[BF];exact hb) a;rw[Ow] at this;exact this,
  λN d a c=>by rw[J7];exact Rx c (u.lo N (by rw[BF];exact d) a (by rw[DZ];rfl)),
  λN b0 d hb a c=>by rw[J7];exact YY hb c (u.g N b0 (by rw[BF];exact d) hb a (by rw[DZ];exact .inl B)),
  λn P e a c=>by rw[J7];exact Zv c (u.f n P (by rw[BF];exact e) a (by rw[DZ];trivial))⟩
def B0.ok {b0:Nat} {W:Nat->Prop} {h J:Y} (u:B0 W h.ad J) (a:∀i,W i->i=b0) (hb:∃hb,h.t.get b0=I hb/\hb.live=Ag):N5 h J.lo:=by
 by_cases b:b0<h.nx
 .rcases u.g h.nx b0 (by rw[BF];exact Ae _) b (λi U=>.inl (a i U)) (by rw[DZ];exact .inl B) with e|e|⟨lo,_,e⟩
  .exact .inl e
  .rw[e];exact .inr hb
  .rw[e];exact .inr hb
 .exact .inl (u.lo h.nx (by rw[BF];exact Ae _) (λi U=>by rw[a i U];omega) (by rw[DZ];rfl))
def B0.de {W:Nat->Prop} {h J:Y} (u:B0 W h.ad J) (d:∀i,W i->(∃hb,h.t.get i=I hb/\hb.live=Ag)\/h.nx<=i):N5 h J.lo:=by
 have:=u.f h.nx (λi=>∃hb,h.t.get i=I hb/\hb.live=Ag) (by rw[BF];exact Ae _) d (by rw[DZ];trivial);cases c:J.lo with
 |no=>exact .inl B
 |rest _=>exact .inr trivial
 |
  one b=>
  rw[c] at this;rcases this with a|a
  .exact .inr a
  .exact .inl (Aq a)
 |
  pair b lo=>
  rw[c] at this;obtain⟨e,a|a⟩:=this
  .exact .inr a
  .refine .inl ?_
   show(Ar h.nx b&&Ar h.nx lo)=Ag;rw[Aq a,Aq (show h.nx<=lo by omega)];rfl
def B0.ag {W:Nat->Prop} {h J:Y} (u:B0 W h.ad J) (a:∀i,¬W i):J.lo.ag h.nx=true:=
 u.lo h.nx (by rw[BF];exact Ae _) (λi U=>Cf U (a i)) (by rw[DZ];rfl)
def AS.live {h:Y} {N:Nat} {e:Ai} {k:Nat} {v:Aa} {n:Nat} {xs:AH} (o:AS h N e k v n xs) {i:Nat} (U:BY v i):∃hb,h.t.get i=I hb/\hb.live=true:=by
 obtain⟨_,⟨rfl,_⟩|⟨b,c,sp,rfl,_,_,_,_,d,x,a,_⟩⟩:=o
 .exact U.elim
 .have:i=b:=U
  subst this;exact⟨_,a,B⟩
def B0.dw {h J:Y} {N:Nat} {e:Ai} {k:Nat} {v:Aa} {n:Nat} {xs:AH} (u:B0 (BY v) h.ad J) (o:AS h N e k v n xs):N5 h J.lo:=by
 obtain⟨a,⟨rfl,f⟩|⟨b,c,sp,rfl,d⟩⟩:=o
 .exact .inl (u.ag λ_ h=>h)
 .exact u.ok (b0:=b) (λi U=>U) (AS.live (N:=N) (e:=e) (k:=k) (xs:=xs) ⟨a,.inr ⟨b,c,sp,B,d⟩⟩ B)
def slK (τ:Bb) (t k:Nat):Bool:=match τ.ds.get t with
 |some (.slice e)=>(match τ.aj.get e with|some i=>Am i.size k|none=>Ah)
 |_=>Ah
def Rd.slice {τ:Bb} {t k:Nat} (b:slK τ t k=Ag) {h:Y} {A:Option BD} {n c:Nat} {xs:AH} (r:Rd h (.slice A n c) k n xs) {lo U:Option Aa} {l m:Nat} (g:RO 0 lo=I l) (j:RO n U=I m) (o:l<=m) (p:m<=n):
 ∃f,C7 τ t (.slice A n c) lo U Z=I f/\Rd h f k (m-l) ((xs.drop (l*k)).take ((m-l)*k))/\(∀i,BY f i->BY (.slice A n c) i):=by
 unfold slK at b;split at b
 case h_2=>cases b
 rename_i e q;split at b
 case h_2=>cases b
 rename_i T s;have w:=Af b;obtain⟨y,V,W,z,C,D,E⟩:=r;cases z;have X:m*k<=n*k:=Ci k p;have aa:l*k<=m*k:=Ci k o;have F:((xs.drop (l*k)).take ((m-l)*k)).length=(m-l)*k:=by
  rw[Cg,AV,y,Nat.sub_mul];omega
 cases A with
 |
  none=>
  have H:=D B;have:n=0:=by omega
  subst this;subst H;have:m=0:=by omega
  subst this;have:l=0:=by omega
  subst this;refine⟨.slice Z 0 0,?_,⟨by simp,Z,0,B,Ae _,λ_=>rfl,λa K=>by cases K⟩,λi U=>U⟩;unfold C7;simp only[q];rw[g];simp only[j,s]
 |
  some a=>
  refine⟨.slice (I ⟨a.block,a.off+l*k,a.spot⟩) (m-l) (c-l),?_,⟨F,_,_,B,G,(λh=>by cases h),λa' L=>?_⟩,λi U=>U⟩
  .unfold C7
   simp only[q];rw[g,j,s];simp only[w];have:(Ar l m&&Ar m c)=true:=by rw[Aq o,Aq (Ao p C)];rfl
   rw[this];rfl
  .cases L
   obtain⟨M,v,N,O,P,Q,x,R,S⟩:=E a B;refine⟨M,v,N,O,P,Q,x,R,λi u d=>?_⟩;show v.get (a.off+l*k+i)=I u;rw[DD];refine S _ u ?_;rw[LS] at d;split at d
   .rw[Eg] at d;exact d
   .cases d
def Ay (l:Bl):AH:=l.map λb=>AL .u8 (b.toNat:Int)
def A7 (l:Bl):(Ay l).length=l.length:=by simp[Ay]
def Ee (a b:Bl):Ay (a++b)=Ay a++Ay b:=by simp[Ay]
def Ez (l:Bl) (n:Nat):(Ay l).take n=Ay (l.take n):=by simp[Ay,List.map_take]
def EA (l:Bl) (n:Nat):(Ay l).drop n=Ay (l.drop n):=by simp[Ay,List.map_drop]
def EM:∀bs:Bl,G7 (Ay bs)=I bs
 |[]=>rfl
 |
  b::bs=>by
  show(match G7 (Ay bs) with|some r=>I (UInt8.ofNat (b.toNat:Int).toNat::r)|none=>Z)=_
  rw[EM bs];simp
def HQ {c:T Aa} {xs:AH} {off:Nat} (a:∀i u,xs[i]?=I u->c.get (off+i)=I u):DV c xs.length off=I xs:=by
 induction xs generalizing off with
 |nil=>rfl
 |
  cons x xs d=>
  have b:=a 0 x B;rw[UL] at b;have:=d (off:=off+1) (λi u U=>by rw[DD,UK 1];exact a (i+1) u (by simpa using U));show(match c.get off with|some v=>(match DV c xs.length (off+1) with|some l=>I (v::l)|none=>Z)|none=>Z)=_
  rw[b,this]
def bsT (τ:Bb) (s d:Nat):Bool:=match τ.ds.get s,τ.ds.get d with
 |some (.slice e),I .string=>(match τ.ds.get e with|some (.int .u8)=>Ag|_=>Ah)
 |_,_=>Ah
def FB {τ:Bb} {s d:Nat} (b:bsT τ s d=Ag) {h:Y} {v:Aa} {n:Nat} {bs:Bl} (r:Rd h v 1 n (Ay bs)):Ea τ s d v h=I (.string ⟨⟨bs⟩⟩,h):=by
 unfold bsT at b;split at b
 case h_2=>cases b
 rename_i e j k;split at b
 case h_2=>cases b
 rename_i f;obtain⟨g,A,c,rfl,u,l,o⟩:=r;rw[A7,BJ] at g;unfold Ea;rw[j,k];cases A with
 |
  none=>
  have:=l B;have p:bs.length=0:=by omega
  have:bs=[]:=List.length_eq_zero_iff.1 p;subst this;simp only[f];rfl
 |
  some a=>
  obtain⟨w,y,m,z,lo,U,x,q,t⟩:=o a B;have i:=HQ t;rw[A7,g] at i;simp only[f,q,i,EM]
def Aef {τ:Bb} {st t2 e k:Nat} (d:G1 τ st t2 e k=Ag) {X:Y} {N:Nat} {v:Aa} {n:Nat} {xs ys:AH} (o:AS X N e k v n xs)
 (f:ys.length=k) (g:ys.all one=Ag) (j:N<=X.nx) (hb:n+1<=1000000000):∃a,BN X.ad e ys=a/\AA X (X.aa a)/\
 ∃b J,Bx τ .append [st,t2] [v,.slice (I ⟨X.nx,0,Z⟩) 1 1] (X.aa a).ad=I (b,J)/\AS J N e k b (n+1) (xs++ys)/\B0 (BY v) (X.aa a).ad J/\(∀i,BY b i->BY v i\/(X.aa a).nx<=i):=by
 have c:AA X (X.aa (BN X.ad e ys)):=(AA.row X.ad e ys).aa;have l:Own (X.aa (BN X.ad e ys)) X.nx e ys:=by
  have:=(Own.row X.ad e ys).aa (h:=X);rw[BF] at this;exact this
 have o':=o.ext c;obtain⟨b,J,p,q,r,s⟩:=UN (h:=(X.aa (BN X.ad e ys)).ad) d (m:=1) (ys:=ys) o' (x:=.slice (I ⟨X.nx,0,Z⟩) 1 1) B
  (by
   have:Own (X.aa (BN X.ad e ys)).ad X.nx e ys:=l;rw[Il this (G)];simp[←f]) (G) g (by rw[BF];exact Ao j c.nx) hb
 refine⟨_,B,c,b,J,p,q,r,λi U=>?_⟩;rcases s i U with h|h
 .exact .inl h
 .right
  rw[BF] at h;exact h
def exT:T KS:=((((T.nil.ins 233 KS.aU).ins 357 KS.indexByte).ins 292 KS.count).ins 329 (KS.makeNoZero 5))
def Ax:Bb:=Aod prog exT [47,93,107,112,114,143,238,298] 10
def Nf:Bo:=[9,15,27,42,43,44,78,86,113,114,137,161,167,173,252,317]
structure Base (S:A9) (L:Nat):Prop where
 plain:∀f,Nf.contains f=Ah->S.ov f=Z/\S.nd f=Z/\S.hk f=Z
 aI:1125899906842624<=L
section
variable{S:A9} {L:Nat}
def Bk (S:A9) (L:Nat) (d:Nat) (f:Au) (a:AH) (h:Y) (Q:Aa->Y->Prop):Prop:=∀n,d<=n->Cd (B8 Ax S L n) (.func f) a h Q
def Fm (b:Base S L) {d:Nat} {f:Au} {fn:BC} {a:AH} {h:Y} {Q:Aa->Y->Prop} (c:Ax.fn.get f=I fn) (e:Nf.contains f=Ah)
 (H:∀n,d<=n->YR Ax (B8 Ax S L n) L fn a h Q):Bk S L (d+1) f a h Q:=by
 intro n k;obtain⟨m,rfl⟩:∃m,n=m+1:=⟨n-1,by omega⟩;obtain⟨g,i,j⟩:=b.plain f e;exact Aom c j g i (H m (by omega))
def Bk.mono {d:Nat} {f:Au} {a:AH} {h:Y} {Q Q':Aa->Y->Prop} (c:Bk S L d f a h Q) (b:∀v J,Q v J->Q' v J):Bk S L d f a h Q':=λn e=>(c n e).mono b
end
def Dc {l:AH} {n:Nat} (h:Ar l.length n=Ag):l.length<=n:=Ac h
def AGj:prog.funcs.toList.all (λx=>!x.body.isSome||!(x.name== "runtime.NumGoroutine"))=true:=by kernel_rfl
def AAk:prog.follows .mixedOrders=true:=by kernel_rfl
def AEs:([47,93,107,112,114,143,238,298]:Bo).all (λt=>!prog.stoodInHeld t&&!prog.eqGuardType prog.depth t)=true:=by kernel_rfl
def Fi:BM prog Ax:=Ary AGj AEs AAk
def ABh:J8 prog 233 .aU:=⟨f233,func233,by kernel_rfl,by kernel_rfl,by kernel_rfl,by kernel_rfl⟩
def AEl:J8 prog 357 .indexByte:=⟨f357,func357,by kernel_rfl,by kernel_rfl,by kernel_rfl,by kernel_rfl⟩
def Azs:J8 prog 292 .count:=⟨f292,func292,by kernel_rfl,by kernel_rfl,by kernel_rfl,by kernel_rfl⟩
def ACx:J8 prog 329 (.makeNoZero 5):=⟨f329.params,62,⟨f329,func329,by kernel_rfl,by kernel_rfl,by kernel_rfl,by kernel_rfl⟩,by kernel_rfl,Arc (by kernel_rfl)⟩
def Avb (f:Au) (e:KS) (h:Ax.ex.get f=I e):J8 prog f e:=by
 replace h:(((((T.nil.ins 233 KS.aU).ins 357 KS.indexByte).ins 292 KS.count).ins 329 (KS.makeNoZero 5))).get f=I e:=h;rw[Ev.T.dA,Ev.T.dA,Ev.T.dA,Ev.T.dA] at h;by_cases a:f=329
 .rw[Bi a] at h;cases h;subst a;exact ACx
 rw[Bm a] at h;by_cases a:f=292
 .rw[Bi a] at h;cases h;subst a;exact Azs
 rw[Bm a] at h;by_cases a:f=357
 .rw[Bi a] at h;cases h;subst a;exact AEl
 rw[Bm a] at h;by_cases a:f=233
 .rw[Bi a] at h;cases h;subst a;exact ABh
 rw[Bm a,Ev.T.get_nil] at h;cases h
def Aob:TJ prog Ax 137 93:=⟨_,dg,B,B,XH (by kernel_rfl),by kernel_rfl⟩
def Ayd:TJ prog Ax 167 114:=⟨_,c9,B,B,XH (by kernel_rfl),by kernel_rfl⟩
def Axm:TJ prog Ax 317 298:=⟨_,da,B,B,XH (by kernel_rfl),by kernel_rfl⟩
def Ayv:IP prog 257:=⟨f257,_,_,_,_,_,_,_,_,_,_,_,_,_,_,_,_,_,_,_,_,func257,by kernel_rfl,B,by decide,by decide,by kernel_rfl,B⟩
def Axj:IP prog 258:=⟨f258,_,_,_,_,_,_,_,_,_,_,_,_,_,_,_,_,_,_,_,_,func258,by kernel_rfl,B,by decide,by decide,by kernel_rfl,B⟩
def Arq:YB Ax 231 f231 (Ajz (atC f231 0) 0) (Ajz (atC f231 1) 0) 179 62 3 1:=
 ⟨by kernel_rfl,⟨0,1,B⟩,B,B,by kernel_rfl,by kernel_rfl,by kernel_rfl,by kernel_rfl,Ahq (by kernel_rfl),⟨5,by kernel_rfl⟩⟩
def Ayh:J1 prog Ax (HG 5 64 65 1) (atC f161 4):=
 Aue Fi (t3':=3) (Axw Fi Avb codeOk) (by kernel_rfl) Arq ⟨⟨#[179],by kernel_rfl⟩,by kernel_rfl,by decide⟩
noncomputable section
def mI (n:Nat):Value:=.int .i64 (.ofNat n)
def mJ (n:Nat):Value:=.int .u64 (.ofNat n)
def mG (n:Nat):Value:=.int .u32 (.ofNat n)
def mD (k:Nat):Nat->Bl->Bl:=UE (motive:=λ_=>Nat->Bl->Bl) (λ_ l=>l) (λ_ f n l=>f (Qe n 256) (UInt8.ofNat (Zy n 256)::l)) k
def mE (k:Nat):Nat->AH->AH:=UE (motive:=λ_=>Nat->AH->AH) (λ_ l=>l) (λ_ f n l=>f (Qe n 256) (.int .u8 (.ofNat (Zy n 256))::l)) k
def mS (k n:Nat):Value:=.string ⟨⟨mD k n []⟩⟩
def mB (k n:Nat):AH:=mE k n []
def mP (n:Nat):Value:=.pointer (I ⟨n,0,Z⟩)
def mL (n l c:Nat):Value:=.slice (I ⟨n,0,Z⟩) l c
def mT (l:AH) (t:Nat):CB:=.cells l t 0 0 Ag
def mF (l:AH) (t:Nat):CB:=.cells l t 0 0 Ah
def Ft:CB:=mT (mB 256 0xf0f0f0f0f0f0f0f0f0f0f0f0f0f0f0f0f0f0f0f0f0f0f0f0f0f0f0f0f0f0f0f0f0f0f0f0f0f0f0f0f0f0f0f0f0f0f0f0f0f0f0f0f0f0f0f0f0f0f0f0f0f0f0f0f0f0f0f0f0f0f0f0f0f0f0f0f0f0f0f0f0f0f0f0f0f0f0f0f0f0f0f0f0f0f0f0f0f0f0f0f0f0f0f0f0f0f0f0f0f0f0f0f0f0f0f0f0f0f0f0f0f0f0f0f0f0f0f0f1f1f1f1f1f1f1f1f1f1f1f1f1f1f1f1f1f1f1f1f1f1f1f1f1f1f1f1f1f1f1f1f1f1f1f1f1f1f1f1f1f1f1f1f1f1f1f1f1f1f1f1f1f1f1f1f1f1f1f1f1f1f1f1f1f1020202020202020202020202020202020202020202020202020202020202130303030303030303030303032303033404040444f1f1f1f1f1f1f1f1f1f1f1) 286
def Fu:CB:=mT (mB 32 0x80bfa0bf809f90bf808f00000000000000000000000000000000000000000000) 337
def Hu:CB:=mT [mG 0,mG 498536548,mG 997073096,mG 651767980,mG 1994146192,mG 1802195444,mG 1303535960,mG 1342533948,mG 3988292384,mG 4027552580,mG 3604390888,mG 3412177804,mG 2607071920,mG 2262029012,mG 2685067896,mG 3183342108] 415
def mq0:List CB:=[mT [mL 11 2 2,mP 12,mP 13,mP 14,mP 15,mP 16,mP 17,mP 18,mP 19,mP 20,mP 21] 127,mF [mS 3 4345683,mI 0,mS 4 1852798318,mI 0] 112,mT [mI 2,mI 10,(.map (I 22))] 296,mT [mP 23,mP 24,mL 25 6 6,mP 26,mL 27 2 2] 272,mT [mP 28,mP 29,mL 30 9 9,mP 31,mL 32 3 3] 272,mT [mI 2,mI 2,mL 33 1 1] 319,mT [mI 3,mI 2,mL 34 1 1] 319,mT [mI 3,mI 1,mL 35 1 1] 319,mT [mI 3,mI 1,mL 36 1 1] 319,mT [mI 3,mI 6,mL 37 1 1] 319,mT [mI 3,mI 2,mL 38 1 1] 319,mT [mI 3,mI 2,mL 39 1 1] 319,.map [] 0,mT [mI 15,mL 40 1 1,mL 41 1 1] 356,mT [mI 7,mL 42 1 1,mL 43 1 1] 356,mF (mB 6 0xe3818be3818d) 5,mT [mI 2,mI 1,mL 44 1 1] 319,mT [mI 3,mI 6] 3,mT [mI 21,mL 45 1 1,mL 46 1 1] 356,mT [mI 10,mL 47 1 1,mL 48 1 1] 356,mF (mB 9 0xe6e7e89fa79abf918a) 5,mT [mI 3,mI 2,mL 49 1 1] 319,mT [mI 7,mI 8,mI 9] 3,mT [mJ 8] 213,mT [mJ 9] 213,mT [mJ 7] 213,mT [mJ 7] 213,mT [mJ 165780] 213,mT [mJ 18] 213,mT [mJ 36] 213,mT [mJ 5461] 213,mF [mI 0] 3,mT [mJ 72] 213,mF [mI 0] 3,mT [mJ 2] 213,mT [mJ 87389] 213,mF [mI 0] 3,mT [mJ 896] 213,mF [mI 0] 3,mT [mJ 36] 213]
def mq1:List CB:=[mF (mB 270 0x484e4b310b03706f730c066d6174726978030872656164696e67733c056669727374060873757266616365733f077375726661636506046c656674060572696768740604636f737408056f7264657206026174060203424f5300046e6f756e00020a00100000000f00000055150000000000000000000006000000e3818be3818d10000000070000004800000000000000000000000600000002000000010202000000020810000000150000005d550100000000000000000009000000e6e7e89fa79abf918a100000000a0000008003000000000000000000000600000003000000022403000000020903000000010703000000010703000000069487020300000002120300000002242bda2e73) 5]
def mq2:List CB:=[mT [mP 11,mS 6 0xe3818be3818d,mL 12 5 5,mL 13 2 2,(.map (I 14))] 82,mT [mL 15 2 2,mP 16,mP 17,mP 18,mP 19,mP 20,mP 21,mP 22,mP 23,mP 24,mP 25] 127,mF [mI 0,mI 2,mS 3 15114175,mI 1,mI 1,mI 40,mI 1,mI 0,mI 1,mS 3 15181713,mI 1,mI 1,mI 20,mI 1,mI 0,mI 1,mS 3 15243914,mI 1,mI 1,mI 30,mI 1,mI 0,mI 1,mS 3 14909835,mI 1,mI 1,mI 10000,mI 3,mI 1,mI 2,mS 3 14909837,mI 1,mI 1,mI 10000,mI 3] 93,mT [mL 26 4 4,mL 27 1 1] 48,.map [] 0,mF [mS 3 4345683,mI 0,mS 4 1852798318,mI 0] 112,mT [mI 2,mI 10,(.map (I 28))] 296,mT [mP 29,mP 30,mL 31 6 6,mP 32,mL 33 2 2] 272,mT [mP 34,mP 35,mL 36 9 9,mP 37,mL 38 3 3] 272,mT [mI 2,mI 2,mL 39 1 1] 319,mT [mI 3,mI 2,mL 40 1 1] 319,mT [mI 3,mI 1,mL 41 1 1] 319,mT [mI 3,mI 1,mL 42 1 1] 319,mT [mI 3,mI 6,mL 43 1 1] 319,mT [mI 3,mI 2,mL 44 1 1] 319,mT [mI 3,mI 2,mL 45 1 1] 319,mF [mI 0,mI 1,mI 2,mI 3] 3,mF [mI 4] 3,.map [] 0,mT [mI 15,mL 46 1 1,mL 47 1 1] 356,mT [mI 7,mL 48 1 1,mL 49 1 1] 356,mF (mB 6 0xe3818be3818d) 5,mT [mI 2,mI 1,mL 50 1 1] 319,mT [mI 3,mI 6] 3,mT [mI 21,mL 51 1 1,mL 52 1 1] 356,mT [mI 10,mL 53 1 1,mL 54 1 1] 356,mF (mB 9 0xe6e7e89fa79abf918a) 5,mT [mI 3,mI 2,mL 55 1 1] 319,mT [mI 7,mI 8,mI 9] 3,mT [mJ 8] 213,mT [mJ 9] 213,mT [mJ 7] 213,mT [mJ 7] 213,mT [mJ 165780] 213,mT [mJ 18] 213,mT [mJ 36] 213,mT [mJ 5461] 213,mF [mI 0] 3,mT [mJ 72] 213,mF [mI 0] 3,mT [mJ 2] 213,mT [mJ 87389] 213,mF [mI 0] 3,mT [mJ 896] 213,mF [mI 0] 3,mT [mJ 36] 213]
def mq3:List CB:=[mF [mI 0,mI 2,mS 3 15114175,mI 1,mI 1,mI 40,mI 1,mI 0,mI 1,mS 3 15181713,mI 1,mI 1,mI 20,mI 1,mI 0,mI 1,mS 3 15243914,mI 1,mI 1,mI 30,mI 1,mI 0,mI 1,mS 3 14909835,mI 1,mI 1,mI 10000,mI 3,mI 1,mI 2,mS 3 14909837,mI 1,mI 1,mI 10000,mI 3] 93]
def mq4:List CB:=[mT [mS 3 4345683,mI 0,mS 4 1852798318,mI 0] 112,mT [mS 3 14909835,mS 3 15243914,mI 1,mI 1,mI 30,mS 3 14909835,mS 3 15181713,mI 1,mI 1,mI 20,mS 6 0xe3818be3818d,mS 3 15114175,mI 1,mI 1,mI 40] 114]
def mq5:List CB:=[mF [mS 3 14909835,mS 3 15181713,mI 1,mI 1,mI 20,mS 3 14909835,mS 3 15243914,mI 1,mI 1,mI 30,mS 6 0xe3818be3818d,mS 3 15114175,mI 1,mI 1,mI 40] 114]
def mq6:List CB:=[mT [mJ 5461] 213,mF [mI 0] 3,mT [mJ 72] 213,mF [mI 0] 3,mT [mJ 2] 213,mT [mJ 87389] 213,mF [mI 0] 3,mT [mJ 896] 213,mF [mI 0] 3,mT [mJ 36] 213]
def mq7:List CB:=[mF (mB 63 0x10000000150000005d550100000000000000000009000000e6e7e89fa79abf918a100000000a00000080030000000000000000000006000000030000000224) 5]
def mq8:List CB:=[mF (mB 60 0x100000000f00000055150000000000000000000006000000e3818be3818d100000000700000048000000000000000000000006000000020000000102) 5]
def mq9:List CB:=[mT [mI 7,mI 8,mI 9] 3,mT [mJ 8] 213,mT [mJ 9] 213,mT [mJ 7] 213,mT [mJ 7] 213,mT [mJ 165780] 213,mT [mJ 18] 213,mT [mJ 36] 213]
def Aqa:List CB:=[mF [mS 3 4345683,mI 0,mS 4 1852798318,mI 0] 112]
def m6:E2:=⟨[(0,Ft),(1,Fu),(5,Hu)],[(.agg ⟨[mL 10 2 2,mI 10,(.slice Z 0 0),mL 11 3 3]⟩)],mq4,(.tuple ⟨[mL 12 270 270,mI 0]⟩),mq1⟩
def m8:E2:=⟨[(5,Hu)],[mL 10 270 270],mq1,(.tuple ⟨[mL 11 11 11,mI 0]⟩),([mT [mS 3 7368563,mL 12 12 12,mS 6 0x6d6174726978,mL 13 3 3,mS 8 0x72656164696e6773,mL 14 60 60,mS 5 439855772532,mL 15 6 6,mS 8 0x7375726661636573,mL 16 63 63,mS 7 0x73757266616365,mL 17 6 6,mS 4 1818584692,mL 18 6 6,mS 5 491394656372,mL 19 6 6,mS 4 1668248436,mL 20 8 8,mS 5 478660552050,mL 21 6 6,mS 2 24948,mL 22 6 6] 203,mF (mB 12 0x203424f5300046e6f756e00) 5,mF (mB 3 133632) 5]++mq8++[mF (mB 6 2199023256072) 5]++mq7++[mF (mB 6 3298534883849) 5,mF (mB 6 3298534883591) 5,mF (mB 6 3298534883591) 5,mF (mB 8 0x300000006948702) 5,mF (mB 6 3298534883858) 5,mF (mB 6 3298534883876) 5])⟩
def m11:E2:=⟨[],[mL 10 60 60],mq8,(.tuple ⟨[mP 11,mI 0]⟩),[mT [mP 12,mP 13,mL 14 6 6,mP 15,mL 16 2 2] 272,mT [mI 15,mL 17 1 1,mL 18 1 1] 356,mT [mI 7,mL 19 1 1,mL 20 1 1] 356,mF (mB 6 0xe3818be3818d) 5,mT [mI 2,mI 1,mL 21 1 1] 319,mT [mI 3,mI 6] 3,mT [mJ 5461] 213,mF [mI 0] 3,mT [mJ 72] 213,mF [mI 0] 3,mT [mJ 2] 213]⟩
def m12:E2:=⟨[],[mL 10 63 63],mq7,(.tuple ⟨[mP 11,mI 0]⟩),[mT [mP 12,mP 13,mL 14 9 9,mP 15,mL 16 3 3] 272,mT [mI 21,mL 17 1 1,mL 18 1 1] 356,mT [mI 10,mL 19 1 1,mL 20 1 1] 356,mF (mB 9 0xe6e7e89fa79abf918a) 5,mT [mI 3,mI 2,mL 21 1 1] 319,mT [mI 7,mI 8,mI 9] 3,mT [mJ 87389] 213,mF [mI 0] 3,mT [mJ 896] 213,mF [mI 0] 3,mT [mJ 36] 213]⟩
def m15:E2:=⟨[(0,Ft),(1,Fu),(5,Hu)],[mL 10 2 2,mP 11,mL 12 3 3],(Aqa++[mT [mI 2,mI 10,(.map (I 13))] 296]++mq5++[.map [] 0]),(.tuple ⟨[mL 14 270 270,mI 0]⟩),mq1⟩
def m16:E2:=⟨[(0,Ft),(1,Fu),(5,Hu)],[mL 10 270 270],mq1,(.tuple ⟨[mP 11,mI 0]⟩),([mT [mL 12 2 2,mP 13,mP 14,mP 15,mP 16,mP 17,mP 18,mP 19,mP 20,mP 21,mP 22] 127]++Aqa++[mT [mI 2,mI 10,(.map (I 23))] 296,mT [mP 24,mP 25,mL 26 6 6,mP 27,mL 28 2 2] 272,mT [mP 29,mP 30,mL 31 9 9,mP 32,mL 33 3 3] 272,mT [mI 2,mI 2,mL 34 1 1] 319,mT [mI 3,mI 2,mL 35 1 1] 319,mT [mI 3,mI 1,mL 36 1 1] 319,mT [mI 3,mI 1,mL 37 1 1] 319,mT [mI 3,mI 6,mL 38 1 1] 319,mT [mI 3,mI 2,mL 39 1 1] 319,mT [mI 3,mI 2,mL 40 1 1] 319,.map [] 0,mT [mI 15,mL 41 1 1,mL 42 1 1] 356,mT [mI 7,mL 43 1 1,mL 44 1 1] 356,mF (mB 6 0xe3818be3818d) 5,mT [mI 2,mI 1,mL 45 1 1] 319,mT [mI 3,mI 6] 3,mT [mI 21,mL 46 1 1,mL 47 1 1] 356,mT [mI 10,mL 48 1 1,mL 49 1 1] 356,mF (mB 9 0xe6e7e89fa79abf918a) 5,mT [mI 3,mI 2,mL 50 1 1] 319]++mq9++mq6)⟩
def m22:E2:=⟨[],[mP 10,mS 6 0xe3818be3818d],mq0,(mL 50 3 3),mq5⟩
def m24:E2:=⟨[],[mP 10,mS 3 14909837],mq0,(.slice Z 0 0),[]⟩
def m25:E2:=⟨[(0,Ft),(1,Fu)],[mP 10,mS 6 0xe3818be3818d,(.slice Z 0 0)],mq0,(.tuple ⟨[mL 50 5 5,mI 0]⟩),mq3⟩
def m26:E2:=⟨[(0,Ft),(1,Fu)],[mP 10,mS 6 0xe3818be3818d,(.slice Z 0 0),(.slice Z 0 0)],mq0,(.tuple ⟨[mP 50,mI 0]⟩),([mT [mP 10,mS 6 0xe3818be3818d,mL 51 5 5,mL 52 2 2,(.map (I 53))] 82]++mq3++[mT [mL 54 4 4,mL 55 1 1] 48,.map [] 0,mF [mI 0,mI 1,mI 2,mI 3] 3,mF [mI 4] 3])⟩
def m27:E2:=⟨[(0,Ft),(1,Fu),(5,Hu)],[(.agg ⟨[mL 10 2 2,mI 10,(.slice Z 0 0),mL 11 3 3,mS 6 0xe3818be3818d,(.slice Z 0 0),(.slice Z 0 0)]⟩)],mq4,(.tuple ⟨[mP 12,mP 13,mI 0]⟩),([mT [mL 14 2 2,mP 15,mP 16,mP 17,mP 18,mP 19,mP 20,mP 21,mP 22,mP 23,mP 24] 127,mT [mP 12,mS 6 0xe3818be3818d,mL 25 5 5,mL 26 2 2,(.map (I 27))] 82]++Aqa++[mT [mI 2,mI 10,(.map (I 28))] 296,mT [mP 29,mP 30,mL 31 6 6,mP 32,mL 33 2 2] 272,mT [mP 34,mP 35,mL 36 9 9,mP 37,mL 38 3 3] 272,mT [mI 2,mI 2,mL 39 1 1] 319,mT [mI 3,mI 2,mL 40 1 1] 319,mT [mI 3,mI 1,mL 41 1 1] 319,mT [mI 3,mI 1,mL 42 1 1] 319,mT [mI 3,mI 6,mL 43 1 1] 319,mT [mI 3,mI 2,mL 44 1 1] 319,mT [mI 3,mI 2,mL 45 1 1] 319]++mq3++[mT [mL 46 4 4,mL 47 1 1] 48,.map [] 0,.map [] 0,mT [mI 15,mL 48 1 1,mL 49 1 1] 356,mT [mI 7,mL 50 1 1,mL 51 1 1] 356,mF (mB 6 0xe3818be3818d) 5,mT [mI 2,mI 1,mL 52 1 1] 319,mT [mI 3,mI 6] 3,mT [mI 21,mL 53 1 1,mL 54 1 1] 356,mT [mI 10,mL 55 1 1,mL 56 1 1] 356,mF (mB 9 0xe6e7e89fa79abf918a) 5,mT [mI 3,mI 2,mL 57 1 1] 319]++mq9++[mF [mI 0,mI 1,mI 2,mI 3] 3,mF [mI 4] 3]++mq6)⟩
def m28:E2:=⟨[],[mP 10,(.agg ⟨[mI 0,mI 2]⟩),mI 0,mI 0,mI 60],mq2,(mL 56 4 4),[mF [mL 57 1 1,mI 60,mS 3 15114175,mL 58 2 2,mI 10050,mS 6 0xe7a791e3818d,mL 59 2 2,mI 10060,mS 6 0xe89a8ae3818d,mL 60 2 2,mI 20030,mS 6 0xe3818be3818d] 50,mT [mI 0] 3,mF [mI 1,mI 4] 3,mF [mI 2,mI 4] 3,mF [mI 3,mI 4] 3]⟩
def m29:E2:=⟨[(0,Ft),(1,Fu)],[mS 6 0xe3818be3818d,mI 1],[],(.slice Z 0 0),[]⟩
def m31:E2:=⟨[(0,Ft),(1,Fu)],[mS 6 0xe3818be3818d],[],(mS 6 0xe3818be3818d),[]⟩
def m32:E2:=⟨[(0,Ft),(1,Fu)],[mS 6 0xe3818be3818d],[],(mS 6 0xefbdb6efbdb7),[]⟩
def m33:E2:=⟨[(0,Ft),(1,Fu)],[mS 6 0xe3818be3818d],[],(mL 10 3 3),[mF [mS 6 0xe3818be3818d,mS 6 0xe382abe382ad,mS 6 0xefbdb6efbdb7] 9]⟩
def m34:E2:=⟨[(0,Ft),(1,Fu)],[mP 10,(.agg ⟨[mI 0,mI 2]⟩),mI 0,mI 0,mI 1,mI 60],mq2,(mL 56 6 6),[mF [mS 3 15114175,mI 1,mS 6 0xe7a791e3818d,mI 1,mS 6 0xe89a8ae3818d,mI 1,mS 6 0xe3818be3818d,mI 1,mS 6 0xe382abe382ad,mI 3,mS 6 0xefbdb6efbdb7,mI 3] 47]⟩
def m35:E2:=⟨[(0,Ft),(1,Fu),(5,Hu)],[],[],(.bool Ag),[]⟩
end
section
variable{S:A9} {L:Nat}
def Aqh:As->As->Prop
 |[],_=>True
 |(i,v)::l,A=>look A i=I v/\Aqh l A
def CG:∀{l A:As},Aqh l A->Sub l A
 |[],_,_,t,v,h=>by cases h
 |
  (i,u)::l,A,h,t,v,a=>by
  rw[GC] at a;split at a
  .rename_i e;subst e;cases a;exact h.1
  .exact CG h.2 t v a
def Du (h:Y) (b:Nat) (l:List Bool):Prop:=
 Cell h b 0 (.int .i64 l.length)/\l.length<=1048576/\
 (∃(v:Aa) (a:Bo),Cell h b 1 v/\Rd h v 1 ((l.length+63)/64) (a.map λx:Nat=>AL .u64 x)/\(∀x∈a,x<18446744073709551616)/\∀i,i<l.length->(a.getD (i/64) 0).testBit (i%64)=l.getD i Ah)/\
 ∃v,Cell h b 2 v/\Rd h v 1 (((l.length+63)/64+7)/8) ((BG (((l.length+63)/64+7)/8)).map λg=>AL .i64 ((l.take (512*g)).count Ag))
section
variable{h:Y} {b:Nat} {l:List Bool}
def Du.c0 (v:Du h b l):Cell h b 0 (.int .i64 l.length):=v.1
def Du.len (v:Du h b l):l.length<=1048576:=v.2.1
def Du.ext {J:Y} (v:Du h b l) (e:AA h J):Du J b l:=by
 obtain⟨a,c,⟨d,f,g,i,j⟩,k,m,n⟩:=v;exact⟨a.ext e,c,⟨d,f,g.ext e,i.ext e,j⟩,k,m.ext e,n.ext e⟩
end
def Acy (a:Base S L) {h:Y} {b:Nat} {n:Int} (c:Cell h b 0 (.int .i64 n)):Bk S L 1 243 [AG b 0] h λv J=>v=.int .i64 n/\J=h:=
 Fm (fn:=f243) a (by kernel_rfl) B λn d=>by
  refine⟨Dc B,_,B,_,ld B c,B,B⟩
end
def Gr (w:Nat):Bo->Nat
 |[]=>0
 |d::l=>d+2^w*Gr w l
def D3:Bo->Bo
 |a::b::l=>(a+b)::D3 l
 |_=>[]
def Pa (w:Nat):Nat->Nat
 |0=>0
 |k+1=>(2^w-1)+2^(2*w)*Pa w k
def Fv (x:Nat):Nat->Bo
 |0=>[]
 |k+1=>(x%2)::Fv (x/2) k
def OC {n a m y M:Nat} (b:a<2^n) (c:m<2^n):(a+2^n*y)&&&(m+2^n*M)=(a&&&m)+2^n*(y&&&M):=by
 apply Nat.eq_of_testBit_eq;intro i;rw[Tt,UK a,UK m,UK (a&&&m),IX _ b,IX _ c,IX _ (Ji Ms b)];split
 .rw[Tt]
 .rw[Tt]
def Ma:∀(k:Nat) (l:Bo),l.length=2*k->(D3 l).sum=l.sum/\(D3 l).length=k
 |0,[],_=>⟨B,B⟩
 |
  k+1,a::b::l,h=>by
  have:=Ma k l (by simp at h;omega);simp[D3,this];omega
 |k+1,[a],h=>by simp at h;omega
def Q5 {w:Nat}:∀(k:Nat) (l:Bo),l.length=2*k->(∀d∈l,d<2^w)->(Gr w l/2^w&&&Pa w k)+(Gr w l&&&Pa w k)=Gr (2*w) (D3 l)
 |0,[],_,_=>by simp[Pa,Gr,D3]
 |k+1,[a],h,_=>by simp at h;omega
 |
  k+1,a::b::l,h,e=>by
  have m:=Q5 (w:=w) k l (by simp at h;omega) (λd r=>e d (by simp[r]));have f:a<2^w:=e a (by simp);have hb:b<2^w:=e b (by simp);have g:0<2^w:=Nat.two_pow_pos w;have i:2^(2*w)=2^w*2^w:=by rw[Nat.two_mul,Nat.pow_add]
  generalize n:Gr w l=c at m;have j:∀{p q:Nat},p<2^w->q<2^w->p+2^w*q<2^(2*w):=λ{p q} v s=>by
   rw[i]
   calc p+2^w*q<2^w+2^w*q:=by omega
    _=2^w*(q+1):=by rw[EG];omega
    _<=2^w*2^w:=Nat.mul_le_mul_left _ s
  have t:Gr w (a::b::l)=(a+2^w*b)+2^(2*w)*c:=by
   simp only[Gr,n,i,EG,Ajd];omega
  have u:Gr w (a::b::l)/2^w=(b+2^w*(c%2^w))+2^(2*w)*(c/2^w):=by
   have:Gr w (a::b::l)=a+2^w*(b+2^w*c):=by simp only[Gr,n]
   rw[this,Nat.add_mul_div_left _ _ g,Nat.div_eq_of_lt f,Ba,i];have:=Nat.mod_add_div c (2^w)
   calc b+2^w*c=b+2^w*(c%2^w+2^w*(c/2^w)):=by rw[this]
    _=_:=by rw[EG,←Ajd];omega
  have o:2^w-1<2^(2*w):=by
   have:=j (p:=2^w-1) (q:=0) (by omega) g;omega
  rw[u,t,Pa,OC (j hb (Je _ g)) o,OC (j f hb) o,EH,EH,WY,WY,JQ f,JQ hb];rw[D3,Gr,←m,EG];omega
def VE:∀(k:Nat) (l:Bo),l.length=2*k->(∀d∈l,d<=4)->(Gr 4 l/16+Gr 4 l)&&&Pa 4 k=Gr 8 (D3 l)
 |0,[],_,_=>by simp[Pa,Gr,D3]
 |k+1,[a],h,_=>by simp at h;omega
 |
  k+1,a::b::l,h,e=>by
  have g:=VE k l (by simp at h;omega) (λd i=>e d (by simp[i]));have n:a<=4:=e a (by simp);have hb:b<=4:=e b (by simp);have o:Gr 4 l%16<=4:=by
   cases l with
   |nil=>simp[Gr]
   |
    cons c l=>
    have p:c<=4:=e c (by simp);simp only[Gr];omega
  have j:Gr 4 (a::b::l)=a+16*(b+16*Gr 4 l):=by simp only[Gr]
  generalize Gr 4 l=f at*;have m:Gr 4 (a::b::l)/16+Gr 4 (a::b::l)=(a+b+16*(b+f%16))+2^8*(f/16+f):=by
   rw[j];omega
  rw[m,Pa,show 2*4=8 from B,OC (by omega) (by decide),EH,g,D3,Gr];omega
def VX:∀(k x:Nat),(Fv x k).length=k
 |0,_=>rfl
 |k+1,x=>by simp[Fv,VX k]
def Zq:∀(k x:Nat),∀d∈Fv x k,d<2
 |0,_,d,h=>by simp[Fv] at h
 |
  k+1,x,d,h=>by
  rw[Fv] at h;rcases List.mem_cons.1 h with rfl|h
  .omega
  .exact Zq k _ d h
def V5:∀(k x:Nat),x<2^k->Gr 1 (Fv x k)=x
 |0,x,h=>by simp at h;simp[Fv,Gr,h]
 |
  k+1,x,h=>by
  rw[Fv,Gr,V5 k (x/2) (by rw[Nat.pow_succ] at h;omega)];omega
def NN {c:Nat}:∀(l:Bo),(∀d∈l,d<=c)->∀d∈D3 l,d<=2*c
 |[],_,d,h=>by simp[D3] at h
 |[a],_,d,h=>by simp[D3] at h
 |
  a::b::l,e,d,h=>by
  rw[D3] at h;rcases List.mem_cons.1 h with rfl|h
  .have:=e a (by simp);have:=e b (by simp);omega
  .exact NN l (λd h=>e d (by simp[h])) d h
def Abl {x:Nat} (r:x<2^64):∃g b i:Bo,i.length=8/\(∀d∈i,d<=8)/\i.sum=(Fv x 64).sum/\
 (x/2&&&6148914691236517205)+(x&&&6148914691236517205)=Gr 2 g/\(Gr 2 g/4&&&3689348814741910323)+(Gr 2 g&&&3689348814741910323)=Gr 4 b/\
 (Gr 4 b/16+Gr 4 b)&&&1085102592571150095=Gr 8 i/\Gr 2 g<2^64/\Gr 4 b<2^63/\Gr 4 b/16+Gr 4 b<2^64:=by
 have b0:=V5 64 x r;have m:=VX 64 x;have d0:∀d∈Fv x 64,d<=1:=λd h=>by have:=Zq 64 x d h;omega
 have j:=Ma 32 (Fv x 64) m;have d1:=NN _ d0;have e:=Ma 16 (D3 (Fv x 64)) j.2;have d2:=NN _ d1;have n:=Ma 8 (D3 (D3 (Fv x 64))) e.2;have d3:=NN _ d2;have o:=Q5 (w:=1) 32 (Fv x 64) m (λd h=>by have:=d0 d h;omega);rw[b0] at o;have s:=Q5 (w:=2) 16 (D3 (Fv x 64)) j.2 (λd h=>by have:=d1 d h;omega);have t:=VE 8 (D3 (D3 (Fv x 64))) e.2 (λd h=>by have:=d2 d h;omega);have p:∀(w c:Nat) (l:Bo),(∀d∈l,d<=c)->c<2^w->Gr w l<2^(w*l.length):=by
  intro w c l
  induction l with
  |nil=>intro _ _;simp[Gr]
  |
   cons a l k=>
   intro f u;have v:=k (λd h=>f d (by simp[h])) u;have y:=f a (by simp);rw[Gr,AO,EG,BJ,UK (w*l.length),Nat.pow_add]
   calc a+2^w*Gr w l<2^w+2^w*Gr w l:=by omega
    _=2^w*(Gr w l+1):=by rw[EG];omega
    _<=_:=Nat.mul_le_mul_left _ v
 have q:=p 2 2 _ d1 (by decide);have z:=p 4 4 _ d2 (by decide);rw[j.2] at q;rw[e.2] at z;have A:Gr 4 (D3 (D3 (Fv x 64)))<=4*1229782938247303441:=by
  have:∀(l:Bo),(∀d∈l,d<=4)->Gr 4 l<=4*Gr 4 (AE l.length 1):=by
   intro l
   induction l with
   |nil=>intro _;simp[Gr]
   |
    cons a l k=>
    intro f;have:=k (λd h=>f d (by simp[h]));have y:=f a (by simp);simp only[Gr,AO,List.replicate_succ];omega
  have h:=this _ d2;rw[e.2] at h;exact h
 exact⟨_,_,_,n.2,λd h=>by have:=d3 d h;omega,by rw[n.1,e.1,j.1],o,s,t,q,by omega,by omega⟩
def Amd {l:Bo} (u:l.length=8) (h:∀d∈l,d<=8):
 let m:=Gr 8 l
 let n:=m+m/256
 let j:=n+n/65536
 (j+j/4294967296)%128=l.sum/\j+j/4294967296<2^63:=by
 match l,u with
 |
  [a,b,c,d,e,f,g,i],_=>
  have x:=h a (by simp);have hb:=h b (by simp);have y:=h c (by simp);have z:=h d (by simp);have A:=h e (by simp);have C:=h f (by simp);have D:=h g (by simp);have U:=h i (by simp);clear h;simp only[Gr,Amw,List.sum_nil];have p:(2:Nat)^8=256:=rfl;rw[p];obtain⟨X,v⟩:∃X,X=a+256*(b+256*(c+256*(d+256*(e+256*(f+256*(g+256*(i+256*0))))))):=⟨_,B⟩;rw[←v];obtain⟨k,o⟩:∃q,q=X/256:=⟨_,B⟩;rw[←o];have E:k=b+256*c+65536*d+16777216*e+4294967296*f+1099511627776*g+281474976710656*i:=by omega
  obtain⟨r,s⟩:∃q,q=(X+k)/65536:=⟨_,B⟩;rw[←s];have F:r=(c+d)+256*(d+e)+65536*(e+f)+16777216*(f+g)+4294967296*(g+i)+1099511627776*i:=by omega
  obtain⟨w,t⟩:∃q,q=(X+k+r)/4294967296:=⟨_,B⟩;rw[←t];have H:w=(e+f+g+i)+256*(f+g+i)+65536*(g+i)+16777216*i:=by omega
  clear o s t;constructor
  .omega
  .omega
def Sq {l A:As} (h:Aqh l A:=by repeat' first|exact trivial|refine ⟨rfl,?_⟩|refine ⟨Cs (λz=>I (AL .i64 z)) (by omega),?_⟩|refine ⟨Cs (λz=>I (AL .u64 z)) (by omega),?_⟩|refine ⟨Cs (λz=>I (AL .i32 z)) (by omega),?_⟩):Sub l A:=CG h
def Pq {p:Prop} (h:p:=by repeat' first|omega|rfl|apply And.intro):p:=h
def Bz {c:Prop} [Decidable c] {p q:Prop} (a:c->p) (b:¬c->q):ZT (decide c) p q:=Ad (λe=>a (Fp e)) (λe=>b (KK e))
def Co (fn:BC) {S:A9} {L:Nat} (b:Base S L) {d:Nat} {f:Au} {a:AH} {h:Y} {Q:Aa->Y->Prop}
 (H:∀n,d<=n->YR Ax (B8 Ax S L n) L fn a h Q) (c:Ax.fn.get f=I fn:=by kernel_rfl) (e:Nf.contains f=false:=by rfl):Bk S L (d+1) f a h Q:=Fm b c e H
def Cn (fn:BC) {S:A9} {L:Nat} (b:Base S L) {d:Nat} {f:Au} {a:AH} {h:Y} {Q:Aa->Y->Prop}
 (H:∀n,d<=n->1125899906842624<=L->Adq Ax (B8 Ax S L n) L fn a h Q) (c:Ax.fn.get f=I fn:=by kernel_rfl) (e:Nf.contains f=false:=by rfl) (g:Ar a.length fn.ntmps=true:=by rfl):Bk S L (d+1) f a h Q:=Fm b c e λn i=>⟨Ac g,H n i b.aI⟩
abbrev Vi (z:Int):Value:=.int .i64 z
def cl {S:A9} {L d n:Nat} {f:Au} {a:AH} {h:Y} {Q k:Aa->Y->Prop} (c:Bk S L d f a h Q) (H:∀v h,Q v h->k v h) (b:d<=n:=by omega):∃Q,Cd (B8 Ax S L n) (.func f) a h Q/\∀w h,Q w h->k w h:=⟨Q,c n b,H⟩
abbrev Sg (s:Bd):Value:=.string s
abbrev sN:Value:=.slice Z 0 0
abbrev sL (b n c:Nat):Value:=.slice (I ⟨b,0,Z⟩) n c
def GZ {S:A9} {L n:Nat} {f:Au} {a:AH} {h:Y} {v:Aa} {k:Aa->Y->Prop} (c:Cd (B8 Ax S L n) (.func f) a h λw J=>w=v/\J=h) (b:k v h):∃Q,Cd (B8 Ax S L n) (.func f) a h Q/\∀w J,Q w J->k w J:=⟨_,c,λ_ _ e=>e.1.symm▸e.2.symm▸b⟩
section
variable {h J h0 h1 H:Y} {v fv nv pv cv ev lv u v':Aa} {xs args vs ys:AH} {n b N i k e r j x m c q d a p t2 st sb mo ck lp rm b0 sz off:Nat} {t:Ai} {f:Au} {fn:BC} {s:Bd} {bs:Bl} {ws:Bo} {W:Nat->Prop} {Q:Aa->Y->Prop} {A:Option BD} {z df day:Int} {ss:BZ} {τ:Bb}
variable{S:A9} {L:Nat}
def Qj (x:Nat):Nat:=((BG 64).map x.testBit).count Ag
def Sm (l:List Bool) (i:Nat):Nat:=(l.take i).count Ag
def Aex (l:List Bool) (i:Nat):Sm l i<=i:=by
 unfold Sm;exact Ao HM (by simp;omega)
def PY (x:Nat):Qj x<=64:=by
 unfold Qj;exact Ao HM (by simp)
def G8 (z:Int):IntKind.wrap .u64 z=z%18446744073709551616:=by simp[IntKind.wrap,IntKind.bits,IntKind.signed]
def QN {a:Nat} (b:a<18446744073709551616):(BitVec.ofInt (IntKind.bits .u64) (a:Int)).toNat=a:=by
 show(BitVec.ofInt 64 (a:Int)).toNat=a;rw[BitVec.ofInt_natCast,BitVec.toNat_ofNat];exact JQ b
def Oh {a b:Nat} {n:Int} (c:a<18446744073709551616) (hb:b<18446744073709551616) (d:n=(b:Int)):D8 .u64 (a:Int) n=((a&&&b:Nat):Int):=by
 subst d;unfold D8;rw[BitVec.toNat_and,QN c,QN hb,G8];have:a&&&b<=a:=Ms;omega
def Als {a b:Nat} {n:Int} (c:a<9223372036854775808) (hb:b<9223372036854775808) (d:n=(b:Int)):D8 .i64 (a:Int) n=((a&&&b:Nat):Int):=by
 subst d;have e:∀{a:Nat},a<9223372036854775808->(BitVec.ofInt (IntKind.bits .i64) (a:Int)).toNat=a:=λ{a} h=>QN G;unfold D8;rw[BitVec.toNat_and,e c,e hb];have:a&&&b<=a:=Ms;exact FC Pq
def Fo {a m:Nat} {n:Int} (b:n=(m:Int)) (c:m<64):DN .u64 (a:Int) n=((a/2^m:Nat):Int):=by
 subst b;have e:min (Int.toNat (m:Int)) (IntKind.bits .u64)=m:=by
  show min m 64=m;omega
 unfold DN;rw[e,Int.fdiv_eq_ediv_of_nonneg _ (Int.le_of_lt (Int.pow_pos G))];simp
def Aif (x:Nat):Qj x=(Fv x 64).sum:=by
 have:∀(k x:Nat),((BG k).map x.testBit).count Ag=(Fv x k).sum:=by
  intro k
  induction k with
  |zero=>intro x;rfl
  |
   succ k a=>
   intro x;rw[List.range_succ_eq_map,Fv,Amw,←a (x/2)];simp only[Bp,O5,List.count_cons];have e:(x.testBit∘A3)=(x/2).testBit:=by
    funext i;simp[Nat.testBit_succ]
   rw[e,Nat.testBit_zero];by_cases h:x%2=1
   .simp[h];omega
   .have:x%2=0:=G
    simp[this]
 exact this 64 x
set_option maxHeartbeats 1000000 in
def Ajp (z:Base S L) {h:Y} {x:Nat} (o:x<18446744073709551616):Bk S L 1 244 [.int .u64 x] h λv J=>v=Vi (Qj x)/\J=h:=
 Co f244 z λn hn=>by
  let⟨A,C,D,E,F,H,p,i,j,k,q,l⟩:=Abl (x:=x) o
  let⟨t1,t2⟩:=Amd E F
  rw[Aif,←H]
  let⟨g,K⟩:∃w,w=Gr 2 A:=⟨_,B⟩
  let⟨c,M⟩:∃w,w=Gr 4 C:=⟨_,B⟩
  let⟨d,N⟩:∃w,w=Gr 8 D:=⟨_,B⟩
  rw[←K] at p i k;rw[←M] at i j q l;rw[←N] at j t1 t2;have O:(2:Nat)^64=18446744073709551616:=rfl;have P:(2:Nat)^63=9223372036854775808:=rfl;rw[O] at k l;rw[P] at q t2;have lt:∀{a b},a<18446744073709551616->a&&&b<18446744073709551616:=λ{a b} h=>Ji Ms h;refine⟨Dc B,G,?_⟩;rw[Fo (m:=1) (n:=1) B G];have a1:=Oh (a:=x/2^1) (b:=6148914691236517205) (n:=6148914691236517205) G G B;have Q:=Oh (a:=x) (b:=6148914691236517205) (n:=6148914691236517205) o G B;have r:D8 .u64 ((x/2^1:Nat):Int) 6148914691236517205+D8 .u64 (x:Int) 6148914691236517205=(g:Int):=by
   rw[a1,Q,←p];simp
  refine⟨?_,?_⟩
  .rw[r];exact⟨by omega,by omega⟩
  rw[r];refine⟨G,?_⟩;rw[Fo (m:=2) (n:=2) B G];have R:=Oh (a:=g/2^2) (b:=3689348814741910323) (n:=3689348814741910323) G G B;have T:=Oh (a:=g) (b:=3689348814741910323) (n:=3689348814741910323) k G B;have s:D8 .u64 ((g/2^2:Nat):Int) 3689348814741910323+D8 .u64 (g:Int) 3689348814741910323=(c:Int):=by
   rw[R,T,←i];simp
  refine⟨?_,?_⟩
  .rw[s];exact⟨by omega,by omega⟩
  rw[s];refine⟨G,?_⟩;rw[Fo (m:=4) (n:=4) B G];refine⟨Pq,?_⟩;have V:((c/2^4:Nat):Int)+(c:Int)=((c/16+c:Nat):Int):=by simp
  rw[V];refine⟨G,?_⟩;have W:=Oh (a:=c/16+c) (b:=1085102592571150095) (n:=1085102592571150095) l G B;rw[W,j];rw[Fo (m:=8) (n:=8) B G];have t:(d:Int)+((d/2^8:Nat):Int)=((d+d/256:Nat):Int):=by simp
  let⟨e,X⟩:∃w,w=d+d/256:=⟨_,B⟩
  rw[←X] at t t1 t2;refine⟨Pq,?_⟩;rw[t];refine⟨G,?_⟩;rw[Fo (m:=16) (n:=16) B G];have u:(e:Int)+((e/2^16:Nat):Int)=((e+e/65536:Nat):Int):=by simp
  let⟨f,aa⟩:∃w,w=e+e/65536:=⟨_,B⟩
  rw[←aa] at u t1 t2;refine⟨Pq,?_⟩;rw[u];refine⟨G,?_⟩;rw[Fo (m:=32) (n:=32) B G];have y:(f:Int)+((f/2^32:Nat):Int)=((f+f/4294967296:Nat):Int):=by simp
  let⟨ab,ad⟩:∃w,w=f+f/4294967296:=⟨_,B⟩
  rw[←ad] at y t1 t2;refine⟨Pq,?_⟩;rw[y];refine⟨_,.inl ⟨⟨by omega,by omega⟩,B⟩,?_⟩;refine⟨?_,B⟩;show Vi _=_;congr 1;rw[Als (a:=ab) (b:=127) (n:=127) G G B,show(127:Nat)=2^7-1 from B,EH];omega
def V0 {l:List Bool} {w k:Nat} (b:64*k+64<=l.length) (hb:∀i,i<64->w.testBit i=l.getD (64*k+i) Ah):Sm l (64*k+64)=Sm l (64*k)+Qj w:=by
 unfold Sm Qj;rw[List.take_add,K0];congr 1;congr 1;apply Amx
 .simp;omega
 .intro i h1 a
  simp only[A4,List.length_range] at a;simp only[List.getElem_take,List.getElem_drop,EU,Ajg];rw[hb i a,Ak,Ab G];rfl
def Aik {l:List Bool} {w k r:Nat} (c:r<64) (d:64*k+r<l.length) (hb:∀i,i<=r->w.testBit i=l.getD (64*k+i) Ah):
 Sm l (64*k+r+1)=Sm l (64*k)+Qj (w*2^(63-r)%18446744073709551616):=by
 unfold Sm Qj;rw[DD,List.take_add,K0];congr 1;have e:(BG 64).map (w*2^(63-r)%18446744073709551616).testBit=AE (63-r) Ah++((l.drop (64*k)).take (r+1)):=by
  apply Amx
  .simp;omega
  .intro i h1 f
   have a:i<64:=by simpa using h1
   simp only[EU,Ajg];rw[show(18446744073709551616:Nat)=2^64 from B,Nat.testBit_mod_two_pow,Nat.testBit_mul_two_pow];by_cases U:i<63-r
   .rw[List.getElem_append_left (by simpa using U)]
    simp;omega
   .rw[List.getElem_append_right (by simp;omega)]
    simp only[List.length_replicate,List.getElem_take,List.getElem_drop];rw[hb (i-(63-r)) G,Ak,Ab G];have b:63-r<=i:=G;simp[a,b]
 rw[e,K0,List.count_replicate];simp
def Agi {x n:Nat} (a:n<64):Es .u64 (x:Int) (n:Int)=((x*2^n%18446744073709551616:Nat):Int):=by
 have e:min (Int.toNat (n:Int)) (IntKind.bits .u64)=n:=by
  show min n 64=n;omega
 have w:∀z:Int,IntKind.wrap .u64 z=z%18446744073709551616:=λz=>by
  simp[IntKind.wrap,IntKind.bits,IntKind.signed]
 unfold Es;rw[e,w];simp
def Rd.ld {h:Y} {a:BD} {xs:AH} (q:∀i u,xs[i]?=I u->Cell h a.block (a.off+i) u) {t:Ai} (b:XF Ax t=Ag) {j i:Nat} {u:Aa} (c:j=i) (d:xs[i]?=I u):Bw Ax t h a.block (a.off+j)=I u:=by
 subst c;exact Go.Ev.ld b (q _ _ d)
def ZW (d:Base S L) {h:Y} {b:Nat} {l:List Bool} (f:Du h b l) (c:Bool) (i:Int) (U:-9223372036854775808<=i/\i<=9223372036854775807):
 Bk S L 2 175 [AG b 0,.bool c,Vi i] h λv J=>v=Vi ((l.take i.toNat).count c)/\J=h:=
 Co f175 d λn o=>by
  let⟨V,ws,q,g,E,s⟩:=f.2.2.1
  let⟨W,F,H⟩:=f.2.2.2
  have X:=f.len;refine⟨Dc B,_,Acy d f.c0 n G,?_⟩;rintro _ _ ⟨rfl,rfl⟩;intro z hz y hy;have aa:0<=y/\y<=l.length:=G;have t:((l.take i.toNat).count c)=((l.take y.toNat).count c):=by
   by_cases h1:i<=l.length
   .rw[show i.toNat=y.toNat by omega]
   .rw[Bj G,Bj G]
  rw[t];clear t;apply Bz<;>intro e
  .subst e
   exact⟨by simp[Ff],B⟩
  obtain⟨m,rfl⟩:∃m:Nat,y=m+1:=⟨(y-1).toNat,G⟩;have hw:g.1=g.1:=rfl;have ab:ws.length=(l.length+63)/64:=by have:=g.1;simpa using this
  obtain⟨a1,x1,rfl,_,u⟩:=g.at_ G;obtain⟨a2,x2,rfl,_,K⟩:=H.at_ G;have M:((m:Int)+1-1)/64=((m/64:Nat):Int):=G;refine⟨Pq,⟨G,G,G,G⟩,_,ld B F,⟨G,G,G,G⟩,G,_,Rd.ld K B (i:=m/64/8) (by show _*1=_;omega)
   (by rw[AX,Jj G];rfl),⟨G,G,G,G⟩,Pq,?_⟩
  have hL:=d.aI;have N:∀k,ws.getD k 0<18446744073709551616:=λk=>by
   rw[Ak];cases C:ws[k]? with
   |none=>simp
   |some y=>exact E y (AZ C)
  rw[M];refine⟨λD A J=>J=_/\∃(x k:Int) (kn:Nat),A=[(0,AG b 0),(1,.bool c),(2,Vi ((m:Int)+1)),(7,Vi ((m/64:Nat):Int)),(8,Vi x),(9,Vi k)]/\k=kn/\x=Sm l (64*kn)/\kn<=m/64/\D=m/64-kn,
   ⟨_,_,Sq,?_,B,_,_,m/64/8*8,B,G,?_,G,B⟩,?_⟩
  .omega
  .show((l.take (512*(m/64/8))).count Ag:Int)=_
   unfold Sm;rw[show 64*(m/64/8*8)=512*(m/64/8) by omega]
  rintro D A hh ⟨rfl,x,k,kn,rfl,rfl,rfl,C,rfl⟩ ad;have ae:=Aex l (64*kn);apply Bz<;>intro e
  .have j:(ws.map λx:Nat=>AL .u64 x)[kn]?=I (.int .u64 (ws.getD kn 0:Nat)):=by
    rw[AX,Ak,Ab G];rfl
   refine⟨_,ld B q,G,_,Rd.ld u B (i:=kn) (by show _*1=_;omega) j,_,Ajp d ?_ n o,?_⟩
   .exact N kn
   rintro _ _ ⟨rfl,rfl⟩;have O:=PY (ws.getD kn 0);refine⟨Pq,Pq,?_⟩;refine⟨_,_,Sq,?_,B,_,_,kn+1,B,G,?_,G,B⟩
   .omega
   .rw[show 64*(kn+1)=64*kn+64 by omega,V0 (w:=ws.getD kn 0) G (λi U=>by
     rw[←s (64*kn+i) G,show(64*kn+i)/64=kn by omega,show(64*kn+i)%64=i by omega])]
    omega
  .obtain rfl:kn=m/64:=G
   have j:(ws.map λx:Nat=>AL .u64 x)[m/64]?=I (.int .u64 (ws.getD (m/64) 0:Nat)):=by
    rw[AX,Ak,Ab G];rfl
   have P:=Agi (x:=ws.getD (m/64) 0) (n:=63-m%64) G;have Q:(63:Int)-((m:Int)+1-1)%64=((63-m%64:Nat):Int):=G;refine⟨_,ld B q,G,_,Rd.ld u B (i:=m/64) (by show _*1=_;omega) j,Pq,G,Pq,G,?_⟩;rw[Q,P];refine⟨_,Ajp d (Je _ G) n o,?_⟩;rintro _ _ ⟨rfl,rfl⟩;have O:=PY (ws.getD (m/64) 0*2^(63-m%64)%18446744073709551616);have R:=Aik (l:=l) (w:=ws.getD (m/64) 0) (k:=m/64) (r:=m%64) G G (λi U=>by
    rw[←s (64*(m/64)+i) (G),show(64*(m/64)+i)/64=m/64 by omega,show(64*(m/64)+i)%64=i by omega])
   rw[show 64*(m/64)+m%64+1=m+1 by omega] at R;have af:=Aex l (m+1);refine⟨Pq,?_⟩;cases c with
   |
    true=>
    refine⟨?_,B⟩;show Vi _=_;congr 1;show _=((Sm l (m+1):Nat):Int);omega
   |
    false=>
    refine⟨Pq,?_,B⟩;show Vi _=_;congr 1;have hf:(l.take (m+1)).count Ag+(l.take (m+1)).count Ah=m+1:=by
     have:=List.length_eq_countP_add_countP (p:=(·==Ag)) (l:=l.take (m+1));simp only[Cg] at this;unfold List.count;have T:(λa:Bool=>decide ¬(a==Ag)=Ag)=(λa=>a==Ah):=by funext a;cases a<;>rfl
     rw[T] at this;omega
    show _=(((l.take (m+1)).count Ah:Nat):Int);unfold Sm at*;omega
def H1 (τ:Bb) (t:Ai) (v:Aa) (h:Y):∃h1,K7 τ t v h=I (AG h.nx 0,h1)/\AA h h1/\Own h1 h.nx t (AJ v)/\h1.nx=h.nx+1:=
 ⟨_,B,AA.row _ _ _,Own.row _ _ _,Ck _ _⟩
def Azr (S:A9) (L d:Nat) (fv:Aa) (h:Y) (N:Int) (p:Int->Bool):Prop:=
 ∃g first cap,fv=.func (.func g) first cap/\∀i,0<=i->i<N->Bk S L d g (first.toList++[.int .i64 i]++cap.toList) h λv J=>v=.bool (p i)/\J=h
def Aup (a:Base S L) {N:Int} (s:0<=N/\N<=1099511627775) {p:Int->Bool} (l:Azr S L d fv h N p):
 Bk S L (d+1) 245 [Vi N,fv] h λv J=>J=h/\∃z:Int,v=Vi z/\0<=z/\z<=N/\(0<z->p (z-1)=Ah)/\(z<N->p z=Ag):=
 Co f245 a λn t=>by
  obtain⟨g,first,cap,rfl,o⟩:=l
  have u:=a.aI;refine⟨Dc B,λb A J=>J=h/\∃i j:Int,A=[(0,Vi N),(1,.func (.func g) first cap),(5,Vi i),(6,Vi j)]/\0<=i/\i<=j/\j<=N/\(0<i->p (i-1)=Ah)/\(j<N->p j=Ag)/\b=(j-i).toNat,
   ⟨_,_,Sq,?_,B,_,_,B,G,G,G,G,G,B⟩,?_⟩
  .omega
  rintro b A w ⟨rfl,i,j,rfl,h1,x,q,c,f,rfl⟩ y;apply Bz<;>intro e
  .refine⟨Pq,_,.inl Pq,G,?_⟩
   let⟨m,r⟩:∃m:Nat,i+j=m:=⟨(i+j).toNat,G⟩
   rw[r,Fo (m:=1) (n:=1) B G];refine⟨_,.inl Pq,_,o ((m/2^1:Nat):Int) G G n G,?_⟩;rintro _ _ ⟨rfl,rfl⟩;refine⟨_,_,B,?_⟩;apply Ad<;>intro k
   .refine⟨Pq,_,_,Sq,?_,B,_,_,B,G,G,G,?_,f,B⟩
    .omega
    .intro _
     rw[show((m/2^1:Nat):Int)+1-1=((m/2^1:Nat):Int) by omega];simpa using k
   .refine⟨_,_,Sq,?_,B,_,_,B,G,G,G,c,?_,B⟩
    .omega
    .intro _
     simpa using k
  .obtain rfl:i=j:=G
   exact⟨B,i,B,h1,q,c,f⟩
def AEx (a:Base S L) {b1 d e:Nat} {l:List Bool} {c:Bool} {k:Int} (f:Du h b l) (g:Cell h b1 0 (AG b 0)) (j:Cell h d 0 (.bool c)) (m:Cell h e 0 (Vi k)) {i:Int} (U:0<=i/\i<l.length):
 Bk S L 3 246 [Vi i,AG b1 0,AG d 0,AG e 0] h λv J=>v=.bool (decide (k<((l.take (i.toNat+1)).count c:Nat)))/\J=h:=
 Co f246 a λn o=>by
  have p:=f.len;refine⟨Dc B,[],Kq,_,ld B g,_,ld B j,Pq,GZ (ZW (h:=h.ad) a f c (i+1) G n o) ?_⟩;refine⟨B,_,ld B m,?_,B⟩;show CU _=_;rw[show(i+1).toNat=i.toNat+1 by omega]
def Aqx (a:Base S L) {l:List Bool} (r:Du h b l) (c:Bool) {k:Int} (N:-9223372036854775808<=k/\k<=9223372036854775807):
 Bk S L 5 176 [AG b 0,.bool c,Vi k] h λv J=>AA h J/\((k<0\/(l.count c:Nat)<=k)/\v=Vi (-1)\/∃z:Nat,v=Vi z/\z<l.length/\((l.take z).count c:Nat)<=k/\k<((l.take (z+1)).count c:Nat)):=
 Co f176 a λn O=>by
  have P:=r.len
  let⟨h1,w,x,y,Q⟩:=H1 Ax 270 (AG b 0) h
  let⟨f,A,s,C,R⟩:=H1 Ax 4 (.bool c) h1
  let⟨g,D,j,E,T⟩:=H1 Ax 3 (Vi k) f
  have o:Cell g h.nx 0 (AG b 0):=((y.ext s).ext j).cell B;have t:Cell g h1.nx 0 (.bool c):=(C.ext j).cell B;have p:Cell g f.nx 0 (Vi k):=E.cell B;have d:=(x.trans s).trans j;have q:=r.ext d;refine⟨Dc B,_,_,w,_,_,A,_,_,D,_,ld B o,GZ (Acy a q.c0 n G) ?_⟩;refine⟨[],Kq,_,ld B p,Bz (λe=>?_) (λe=>?_)⟩
  .exact⟨d,.inl ⟨.inl e,B⟩⟩
  refine⟨_,ld B p,_,ld B o,_,ld B t,GZ (ZW (h:=Y.ad _) a q c (l.length:Int) G n G) ?_⟩;rw[show((l.length:Int)).toNat=l.length from B,CS];refine⟨B,Bz (λu=>?_) (λu=>?_)⟩
  .exact⟨d,.inl ⟨.inr u,B⟩⟩
  refine⟨_,Aup a G ⟨246,#[],#[AG h.nx 0,AG h1.nx 0,AG f.nx 0],B,λi h0 h1=>AEx a q o t p ⟨h0,h1⟩⟩ n G,?_⟩;rintro _ _ ⟨rfl,z,rfl,V,W,F,H⟩;obtain⟨m,rfl⟩:∃m:Nat,z=m:=Jq;have K:((l.take m).count c:Int)<=k:=by
   rcases KQ m with rfl|X
   .simp;omega
   .have:=KK (F G)
    rw[show((m:Int)-1).toNat+1=m by omega] at this;omega
  have M:m<l.length:=Gq;exact⟨d,.inr ⟨m,B,M,K,Fp (H G)⟩⟩
def WM (w j:Nat):decide ((((w/2^j&&&1:Nat):Int))=1)=w.testBit j:=by
 rw[Nat.and_one_is_mod,Nat.testBit_eq_decide_div_mod_eq];congr 1;apply propext;omega
def Acw (c:Base S L) {l:List Bool} (a:Du h b l) {i:Int}:Bk S L 2 264 [AG b 0,Vi i] h λv J=>v=.bool (decide (0<=i)&&l.getD i.toNat Ah)/\J=h:=
 Co f264 c λn p=>by
  let⟨q,ws,f,d,g,j⟩:=a.2.2.1
  have r:=a.len;refine⟨Dc B,Bz (λe=>?_) (λe=>?_)⟩
  .refine GZ (Acy c a.c0 n G) ?_
   obtain⟨m,rfl⟩:∃m:Nat,i=m:=⟨i.toNat,G⟩;apply Bz<;>intro s
   .obtain⟨a1,t,rfl,_,k⟩:=d.at_ G
    have u:ws.length=(l.length+63)/64:=by have:=d.1;simpa using this
    have o:(ws.map λx:Nat=>AL .u64 x)[m/64]?=I (.int .u64 (ws.getD (m/64) 0:Nat)):=by
     rw[AX,Ak,Ab G];rfl
    have hb:ws.getD (m/64) 0<18446744073709551616:=g _ (by
     rw[Ak,Ab G];exact Bu _)
    refine⟨_,ld B f,⟨G,G,G,G⟩,G,_,Rd.ld k B (by show _*1=_;omega) o,G,G,?_⟩;rw[Fo (m:=m%64) G G];refine⟨?_,B⟩;show CU _=_;rw[Oh (b:=1) (n:=1) (Ji (Nat.div_le_self _ _) hb) G B,WM,j m G];simp
   .refine⟨?_,B⟩
    show CU _=_;rw[Ak,CD G];simp
  .refine⟨?_,B⟩
   show CU _=_;simp[e]
def Qn (ws:Bo) (k:Nat):Nat:=((ws.take k).map Qj).sum
def Ta (a:k<ws.length):Qn ws (k+1)=Qn ws k+Qj (ws.getD k 0):=by
 unfold Qn;rw[A5 a,BS,PC,Ak,Ab a];simp
def Alk (ws:Bo) (k:Nat):Qn ws k<=64*k:=by
 unfold Qn;have:∀l:Bo,(l.map Qj).sum<=64*l.length:=by
  intro l
  induction l with
  |nil=>simp
  |cons a l b=>have:=PY a;simp;omega
 have h:=this (ws.take k);simp only[Cg] at h;omega
def Ig (ws:Bo) (m:Nat):AH:=(BG m).map λg=>AL .i64 (Qn ws (8*g):Nat)
def Avh (f:Base S L) {p g:Aa} (o:Own h b 356 [p,g,sN]) (r:Rd h g 1 ws.length (ws.map λx:Nat=>AL .u64 x)) (z:∀i,BY g i->i≠b) (hb:∀x∈ws,x<18446744073709551616) (hl:ws.length<=100000):
 Bk S L 2 239 [AG b 0] h λv J=>v=.tuple #[]/\B0 (·=b) h J/\∃cv,Own J b 356 [p,g,cv]/\AS J h.nx 3 1 cv ((ws.length+7)/8) (Ig ws ((ws.length+7)/8)):=
 Co f239 f λn hn=>by
  have hL:=f.aI;obtain⟨C,j,l,rfl,D,E,F⟩:=r;have H:Rd h (.slice j ws.length l) 1 ws.length (ws.map λx:Nat=>AL .u64 x):=⟨C,j,l,B,D,E,F⟩;refine⟨Dc B,_,ld B (o.cell B),λs A a=>∃(x:Int) (k:Nat) (cv:Aa),A=[(0,AG b 0),(2,Vi x),(8,.slice j ws.length l),(9,Vi ws.length),(10,Vi k)]/\x=Qn ws k/\k<=ws.length/\s=ws.length-k/\
   B0 (·=b) h a/\Own a b 356 [p,.slice j ws.length l,cv]/\AS a h.nx 3 1 cv ((k+7)/8) (Ig ws ((k+7)/8)),
   ⟨_,_,Sq,?_,_,0,_,B,B,Al _,B,(AA.refl h).ae _,o,AS.nil _ _ _ _⟩,?_⟩
  .omega
  rintro s A a ⟨x,k,cv,rfl,rfl,hk,rfl,c,m,d⟩ ab;apply Bz<;>intro e
  .have K:k<ws.length:=G
   have hs:=Alk ws k;have ad:=Ta K;have hp:=PY (ws.getD k 0)
   let⟨a1,x1,M,_,N⟩:=(H.ae c (λi U h=>z i U h)).at_ G
   cases M;have O:(ws.map λx:Nat=>AL .u64 x)[k]?=I (.int .u64 (ws.getD k 0:Nat)):=by
    rw[AX,Ak,Ab G];rfl
   have u:ws.getD k 0<18446744073709551616:=hb _ (by
    rw[Ak,Ab G];exact Bu _)
   refine⟨G,_,Rd.ld N B (by show _*1=_;omega) O,G,?_⟩;apply Bz<;>intro e2
   .have P:=c.nx
    obtain⟨v',h2,Q,q,w,s4⟩:=Tz Kq d (ys:=[Vi (Qn ws k:Nat)]) B B P G;have R:=m.ae w (λa=>by have:=d.ai _ a;have:=o.1;omega);obtain⟨T,V,W,y⟩:=R.st (τ:=Ax) (t:=48) B (by show 2<3;decide) (D5 q);have X:∀i,BY v' i->h.nx<=i:=λi U=>q.ai i U;have aa:=q.ah y (λi U h=>by have:=X i U;have:=o.1;omega);refine⟨_,ld B (m.cell B),_,_,Iv (τ:=Ax) (t:=48) (k:=1) Kq (Vi (Qn ws k:Nat)) B B Jq a,_,_,Q,_,V,GZ (Ajp f u n G) ?_⟩;refine⟨Pq,Pq,_,_,Sq,?_,_,k+1,_,B,G,G,B,((c.then w λi U=>.inr (d.ai i U)).trans y.ae:B0 (·=b) h T),W,?_⟩
    .omega
    .have e3:(k+1+7)/8=(k+7)/8+1:=G
     rw[e3,Ig,Acb,BS];simpa[(G:8*((k+7)/8)=k),Ig] using aa
   .refine GZ (Ajp f u n G) ?_
    refine⟨Pq,Pq,_,_,Sq,?_,_,k+1,_,B,G,G,B,c,m,?_⟩
    .omega
    .rw[show(k+1+7)/8=(k+7)/8 by omega];exact d
  .obtain rfl:k=ws.length:=G
   exact⟨B,c,cv,m,d⟩
def Aym {a b:Nat} (c:a<18446744073709551616) (hb:b<18446744073709551616):JP .u64 (a:Int) (b:Int)=((a|||b:Nat):Int):=by
 unfold JP;rw[BitVec.toNat_or,QN c,QN hb,G8];have:a|||b<2^64:=Zz c hb;omega
def FA (l:List Bool) (k:Nat) (ws:Bo):Prop:=ws.length=(l.length+63)/64/\(∀x∈ws,x<18446744073709551616)/\∀i,i<64*ws.length->(ws.getD (i/64) 0).testBit (i%64)=(decide (i<k)&&l.getD i Ah)
def FA.zero (l:List Bool):FA l 0 (AE ((l.length+63)/64) 0):=by
 refine⟨by simp,λx a=>?_,λi U=>?_⟩
 .rw[CH a];omega
 .simp only[List.length_replicate] at U
  rw[Ak,List.getElem?_replicate,Bi G];simp
def FA.skip {l:List Bool} {k:Nat} {ws:Bo} (w:FA l k ws) (b:l.getD k Ah=Ah):FA l (k+1) ws:=by
 refine⟨w.1,w.2.1,λi U=>?_⟩;rw[w.2.2 i U];by_cases h:i=k
 .subst h;rw[b];simp
 .by_cases a:i<k
  .simp[a,show i<k+1 by omega]
  .simp[a,show¬i<k+1 by omega]
def FA.put {l:List Bool} {k:Nat} {ws:Bo} (w:FA l k ws) (m:k<l.length) (c:l.getD k Ah=Ag):FA l (k+1) (ws.set (k/64) (ws.getD (k/64) 0|||2^(k%64))):=by
 have hb:∀j,ws.getD j 0<18446744073709551616:=λj=>by
  rw[Ak];cases d:ws[j]? with
  |none=>simp
  |some y=>exact w.2.1 y (AZ d)
 have a:∀r,r<64->2^r<18446744073709551616:=λr f=>Ack G f;refine⟨by simp[w.1],λx g=>?_,λi U=>?_⟩
 .rcases BT g with h|rfl
  .exact w.2.1 x h
  .exact Zz (n:=64) (hb _) (a _ (Je _ G))
 .simp only[B4] at U
  have b:=w.2.2 i U;rw[Ak,Iu];by_cases e:k/64=i/64
  .rw[Bi e,Bi (by rw[w.1] at*;omega)]
   simp only[EN];rw[e,Nat.testBit_or,b,Nat.testBit_two_pow];by_cases h:i=k
   .subst h;rw[c];simp
   .have:¬k%64=i%64:=G
    by_cases a:i<k
    .simp[a,this,show i<k+1 by omega]
    .simp[a,this,show¬i<k+1 by omega]
  .rw[Bm e,←Ak,b]
   have h:¬i=k:=λh=>e (by rw[h]);by_cases a:i<k
   .simp[a,show i<k+1 by omega]
   .simp[a,show¬i<k+1 by omega]
def TX (l:List Bool) (ws:Bo):Prop:=ws.length=(l.length+63)/64/\(∀x∈ws,x<18446744073709551616)/\∀i,i<l.length->(ws.getD (i/64) 0).testBit (i%64)=l.getD i Ah
def FA.bits {l:List Bool} {ws:Bo} (w:FA l l.length ws):TX l ws:=
 ⟨w.1,w.2.1,λi U=>by rw[w.2.2 i (by rw[w.1];omega)];simp[U]⟩
def Y0 {l:List Bool} {ws:Bo} (w:TX l ws):∀g,64*g<=l.length->Qn ws g=Sm l (64*g)
 |0,_=>by simp[Qn,Sm]
 |
  g+1,h=>by
  rw[Ta (by rw[w.1];omega),Y0 w g G,show 64*(g+1)=64*g+64 by omega,V0 (w:=ws.getD g 0) G (λi U=>by
   have:=w.2.2 (64*g+i) G;rw[show(64*g+i)/64=g by omega,show(64*g+i)%64=i by omega] at this;exact this)]
def Afv {l:List Bool} {ws:Bo} {h:Y} {b:Nat} {a cv:Aa} (f:l.length<=1048576) (w:TX l ws) (o:Own h b 356 [Vi l.length,a,cv]) (r:Rd h a 1 ws.length (ws.map λx:Nat=>AL .u64 x))
 (c:Rd h cv 1 ((ws.length+7)/8) (Ig ws ((ws.length+7)/8))):Du h b l:=by
 refine⟨o.cell B,f,⟨a,ws,o.cell B,by rw[←w.1];exact r,w.2.1,w.2.2⟩,cv,o.cell B,?_⟩
 .rw[←w.1]
  have e:Ig ws ((ws.length+7)/8)=(BG ((ws.length+7)/8)).map λg=>Vi ((l.take (512*g)).count Ag):=by
   unfold Ig;apply List.map_congr_left;intro g d;have d:=List.mem_range.1 d;have i:=w.1;rw[Y0 w (8*g) G];unfold Sm;rw[show 64*(8*g)=512*g by omega]
  rw[←e];exact c
def Cell.inj {h:Y} {b o:Nat} {v v':Aa} (c:Cell h b o v) (a:Cell h b o v'):v=v':=by
 let⟨_,c,n,e,lo,U,x,h1,g⟩:=c
 let⟨_,a,n',i,j,k,l,d,f⟩:=a
 rw[h1] at d;cases d;rw[g] at f;cases f;rfl
def ID (h:Y) (N b:Nat):Prop:=N<=b/\(∀v,Cell h b 1 v->∀i,BY v i->N<=i)/\∀v,Cell h b 2 v->∀i,BY v i->N<=i
def Du.fr {W:Nat->Prop} {h J:Y} {N b:Nat} {l:List Bool} (v:Du h b l) (g:ID h N b) (c:B0 W h J) (a:∀i,W i->i<N):Du J b l:=by
 let⟨h1,m,⟨e,ws,f,n,o⟩,j,k,p⟩:=v
 have hb:¬W b:=λh=>by have:=a b h;have:=g.1;omega
 exact⟨h1.ae c hb,m,⟨e,ws,f.ae c hb,n.ae c (λi U d=>by have:=a i d;have:=g.2.1 e f i U;omega),o⟩,j,k.ae c hb,p.ae c λi U d=>by have:=a i d;have:=g.2.2 j k i U;omega⟩
def Du.aa {h J:Y} {b:Nat} {l:List Bool} (v:Du J b l):Du (h.aa J) b l:=by
 let⟨h1,a,⟨c,ws,d,e,f⟩,g,i,j⟩:=v
 exact⟨h1.aa,a,⟨c,ws,d.aa,e.aa,f⟩,g,i.aa,j.aa⟩
def ID.aa {h J:Y} {N b:Nat} (v:ID J N b):ID (h.aa J) N b:=by
 unfold ID Cell;rw[CL,DF];exact v
def Awr (p:Base S L) {h:Y} {v:Aa} {l:List Bool} (r:Rd h v 1 l.length (l.map .bool)) (hl:l.length<=9223372036854775807):
 Bk S L 3 171 [v] h λw J=>AA h J/\(1048576<l.length/\w=.tuple #[.pointer Z,Vi 2]\/l.length<=1048576/\∃b,h.nx<=b/\w=.tuple #[AG b 0,Vi 0]/\Du J b l/\ID J h.nx b):=
 Co f171 p λn hn=>by
  have hL:=p.aI;obtain⟨O,q,s,rfl,P,Q,R⟩:=r;have T:Rd h (.slice q l.length s) 1 l.length (l.map .bool):=⟨O,q,s,B,P,Q,R⟩;refine⟨Dc B,?_⟩;apply Bz<;>intro e
  .exact⟨AA.refl h,.inl ⟨G,B⟩⟩
  have y:l.length<=1048576:=G;have em:((l.length:Int)+63)/64=(((l.length+63)/64:Nat):Int):=G
  let⟨h1,V,W,X,n1⟩:=MA (τ:=Ax) (t:=274) (e:=213) (z:=.int .u64 0) Kq Kq B ((l.length+63)/64) G .i64 .i64 h
  refine⟨Pq,⟨G,G,G,G⟩,?_⟩;rw[em];refine⟨_,_,V,?_⟩
  let⟨h2,f,C,o2,n2⟩:=H1 Ax 356 (.agg #[Vi l.length,sL h.nx ((l.length+63)/64) ((l.length+63)/64),sN]) h1
  refine⟨_,_,f,?_⟩;have aa:Own h2 h1.nx 356 [Vi l.length,sL h.nx ((l.length+63)/64) ((l.length+63)/64),sN]:=o2;have w0:=FA.zero l;refine⟨λD A a=>∃(k:Nat) (ws:Bo),A=[(4,AG h1.nx 0),(19,.slice q l.length s),(20,Vi l.length),(21,Vi k)]/\k<=l.length/\D=l.length-k/\FA l k ws/\
   AA h a/\Own a h.nx 213 (ws.map λx:Nat=>AL .u64 x)/\Own a h1.nx 356 [Vi l.length,sL h.nx ((l.length+63)/64) ((l.length+63)/64),sN],
   ⟨_,_,Sq,?_,0,_,B,Al _,B,w0,W.trans C,?_,aa⟩,?_⟩
  .omega
  .simpa using X.ext C
  rintro D A a ⟨k,ws,rfl,hk,rfl,d,g,j,m⟩ af;apply Bz<;>intro e
  .have E:k<l.length:=G
   let⟨a1,y1,e9,_,q1⟩:=(T.ext g).at_ G
   cases e9;have ab:(l.map CU)[k]?=I (.bool (l.getD k Ah)):=by
    rw[AX,Ak,Ab E];rfl
   refine⟨G,_,Rd.ld q1 B (i:=k) (by show _*1=_;omega) ab,Ad (λf=>?_) (λf=>?_)⟩
   .have o:=d.1
    have ad:(ws.map λx:Nat=>AL .u64 x)[k/64]?=I (.int .u64 (ws.getD (k/64) 0:Nat)):=by
     rw[AX,Ak,Ab G];rfl
    have hb:ws.getD (k/64) 0<18446744073709551616:=d.2.1 _ (by
     rw[Ak,Ab G];exact Bu _)
    have F:2^(k%64)<18446744073709551616:=Ack (n:=64) G (Je _ G);have ae:(k:Int)%64=((k%64:Nat):Int):=G;have es:Es .u64 1 ((k:Int)%64)=((2^(k%64):Nat):Int):=by
     have:=Agi (x:=1) (n:=k%64) (Je _ G);rw[ae];rw[Nat.one_mul,JQ F] at this;exact this
    let⟨h3,s5,s6,H⟩:=Own.st (h:=a.ad) (τ:=Ax) (t:=213) B (i:=k/64) (v:=.int .u64 ((ws.getD (k/64) 0|||2^(k%64):Nat):Int)) j (by simp;omega) B
    refine⟨[],Kq,_,ld B (m.cell (i:=1) B),⟨G,G,G,G⟩,G,_,(by
     have:=ld (τ:=Ax) (t:=213) B (j.cell ad);rw[show(0+((k:Int)/64).toNat*t213.size)=k/64 by show 0+_*1=_;omega];exact this),G,G,?_⟩
    rw[es];refine⟨G,h3,(by
     rw[Aym hb F,show(0+((k:Int)/64).toNat*t213.size)=k/64 by show 0+_*1=_;omega];exact s5),Pq,?_⟩
    refine⟨_,_,Sq,?_,k+1,_,B,G,B,d.put E f,?_,?_,?_⟩
    .omega
    .exact g.ah H.aa (Ae _)
    .have:=s6.aa (h:=a)
     rw[Cp];exact this
    .exact m.ah H.aa G
   .refine⟨Pq,_,_,Sq,?_,k+1,ws,B,G,B,d.skip f,g,j,m⟩
    omega
  .obtain rfl:k=l.length:=G
   have o:=d.1;have K:Rd a (sL h.nx ((l.length+63)/64) ((l.length+63)/64)) 1 ws.length (ws.map λx:Nat=>AL .u64 x):=by
    rw[o];have:AS a h.nx 213 1 (sL h.nx ((l.length+63)/64) ((l.length+63)/64)) ((l.length+63)/64) (ws.map λx:Nat=>AL .u64 x):=
     ⟨by simp[o],.inr ⟨h.nx,_,[],B,Ae _,Ae _,by simp[o],by simpa using j⟩⟩
    exact this.rd
   refine⟨_,Avh p m K (λi U=>by have:i=h.nx:=U;omega) d.2.1 G n G,?_⟩;rintro _ h4 ⟨rfl,M,cv,u,N⟩;have hx:AA h h4:=g.then M (λi U=>by rw[U];omega)
   have ag:=g.nx;refine⟨hx,.inr ⟨y,h1.nx,G,B,Afv y d.bits u (K.ae M λi U ah=>?_) N.rd,G,λv c i U=>?_,λv c i U=>?_⟩⟩
   .have:i=h.nx:=U
    omega
   .obtain rfl:=c.inj (u.cell (i:=1) B)
    have:i=h.nx:=U;omega
   .obtain rfl:=c.inj (u.cell (i:=2) B)
    have:=N.ai i U;omega
def DH (z:Int):∃b:UInt8,IntKind.wrap .u8 z=(b.toNat:Int):=by
 refine⟨UInt8.ofNat (z%256).toNat,?_⟩;rw[(by simp[IntKind.wrap,IntKind.bits,IntKind.signed]:IntKind.wrap .u8 z=z%256),UInt8.toNat_ofNat'];omega
def Apn (o:AS h N 5 1 v n (Ay bs)) (b:UInt8) (a:N<=h.nx) (hb:n+1<=1000000000):
 ∃v' J,Bx Ax .append [62,62] [v,sL h.nx 1 1] (BN h 5 [.int .u8 (b.toNat:Int)])=I (v',J)/\AS J N 5 1 v' (n+1) (Ay (bs++[b]))/\B0 (BY v) h J/\(∀i,BY v' i->BY v i\/h.nx<=i):=by
 rw[Ee];exact Tz Kq o B B a hb
def bsB (b:UInt8) (h:Y):Bs Ax 62 1 [(0,.int .u8 (b.toNat:Int))] h=I (sL h.nx 1 1,BN h 5 [.int .u8 (b.toNat:Int)]):=
 Iv (k:=1) Kq (.int .u8 (b.toNat:Int)) B B Jq h
def Grw (h:Y) (v v':Aa):Prop:=∀i,BY v' i->BY v i\/h.nx<=i
def AS.len {e:Ai} (o:AS h N e 1 v n xs):n=xs.length:=by have:=o.1;omega
def Apv (u:Base S L) (o:AS h N 5 1 v n (Ay bs)) (hN:N<=h.nx) (r:Rd h lv 1 m (ws.map λx:Nat=>AL .u64 x)) (y:∀i,BY lv i->¬BY v i)
 (z:sz<=8) (hw:∀x∈ws,x<18446744073709551616) (hm:m<=1000000) (hn:n<=100000000):
 Bk S L 1 255 [v,Vi sz,lv] h λw J=>∃t:Bl,t.length=n+sz*m/\AS J N 5 1 w (n+sz*m) (Ay t)/\B0 (BY v) h J/\Grw h v w:=
 Cn f255 u λd aa hL=>by
  obtain⟨C,p,l,rfl,D,E,F⟩:=r;have H:Rd h (.slice p m l) 1 m (ws.map λx:Nat=>AL .u64 x):=⟨C,p,l,B,D,E,F⟩;have ab:ws.length=m:=Gq;refine⟨λf A a=>∃(k:Nat) (cv:Aa) (cs:Bl),A=[(0,cv),(1,Vi sz),(10,.slice p m l),(11,Vi m),(12,Vi k)]/\k<=m/\f=m-k/\cs.length=n+sz*k/\
   AS a N 5 1 cv (n+sz*k) (Ay cs)/\B0 (BY v) h a/\Grw h v cv,
   ⟨_,_,Sq,?_,0,v,bs,B,Al _,B,?_,o,(AA.refl h).ae _,λi U=>.inl U⟩,?_⟩
  .omega
  .have:=o.len;rw[A7] at this;simp[this]
  rintro f A a ⟨k,cv,cs,rfl,K,rfl,q,g,b,c⟩ M;apply Bz<;>intro e
  .have ad:=G
   let⟨a1,y1,O,_,P⟩:=(H.ae b y).at_ G
   cases O;have Q:(ws.map λx:Nat=>AL .u64 x)[k]?=I (.int .u64 (ws.getD k 0:Nat)):=Gq;have ae:=Cj z K;refine⟨G,_,Rd.ld P B (by show _*1=_;omega) Q,λf A a=>∃(j:Nat) (cv:Aa) (cs:Bl),A=[(0,cv),(1,Vi sz),(8,.int .u64 (ws.getD k 0:Nat)),(9,Vi j),(10,.slice (I a1) m l),(11,Vi m),(12,Vi k)]/\j<=sz/\f=sz-j/\cs.length=n+sz*k+j/\
    AS a N 5 1 cv (n+sz*k+j) (Ay cs)/\B0 (BY v) h a/\Grw h v cv,
    ⟨_,_,Sq,?_,0,cv,cs,B,Al _,B,q,g,b,c⟩,?_⟩
   .omega
   rintro f A a ⟨j,cv,cs,rfl,hj,rfl,q,g,b,c⟩ M;apply Bz<;>intro e
   .let⟨s,R⟩:=DH (DN .u64 (ws.getD k 0:Nat) (8*(j:Int)))
    have af:=b.nx
    let⟨v',h2,T,V,W,X⟩:=Apn g s G G
    refine⟨Pq,G,_,.inr R.symm,_,_,bsB s a,_,_,T,Pq,_,_,Sq,?_,j+1,v',cs++[s],B,G,B,Jq,V,?_,?_⟩
    .omega
    .exact b.then W c
    .intro i U
     rcases X i U with h|h
     .exact c i h
     .right;omega
   .obtain rfl:j=sz:=G
    refine⟨Pq,_,_,Sq,?_,k+1,cv,cs,B,G,B,?_,?_,b,c⟩
    .omega
    .rw[EG];omega
    .rw[show n+j*(k+1)=n+j*k+j by rw[EG];omega];exact g
  .obtain rfl:k=m:=G
   exact⟨cs,q,g,b,c⟩
def NR (a b:Int):∃y:Nat,y<18446744073709551616/\JP .u64 a b=(y:Int):=by
 refine⟨(JP .u64 a b).toNat,?_,?_⟩<;>(unfold JP;rw[G8];omega)
def CY {bs:Bl} {k:Nat} (a:k<bs.length):(Ay bs)[k]?=I (.int .u8 ((bs.getD k 0).toNat:Int)):=by
 unfold Ay;rw[AX,Ak,Ab a];rfl
def Pd (b:UInt8):b.toNat<256:=b.toNat_lt
def PD (bs:Bl):Nat->Int
 |0=>0
 |k+1=>JP .u64 (PD bs k) (Es .u64 ((bs.getD k 0).toNat:Int) (8*(k:Int)))
def Ri (bs:Bl) (k:Nat):0<=PD bs k/\PD bs k<18446744073709551616:=by
 cases k with
 |zero=>exact⟨Int.le_refl _,by show(0:Int)<_;omega⟩
 |
  succ k=>
  let⟨y,h1,a⟩:=NR (PD bs k) (Es .u64 ((bs.getD k 0).toNat:Int) (8*(k:Int)))
  rw[PD,a];omega
def Aql (j:Base S L) {h:Y} {v:Aa} {n:Nat} {bs:Bl} (r:Rd h v 1 n (Ay bs)) (t:n<=100000000):
 Bk S L 1 263 [v] h λw J=>w=.int .u64 (PD bs n)/\J=h:=
 Cn f263 j λd u x=>by
  obtain⟨c,a,b,rfl,l,m,o⟩:=r;have p:Rd h (.slice a n b) 1 n (Ay bs):=⟨c,a,b,B,l,m,o⟩;have z:bs.length=n:=by rw[A7] at c;omega
  refine⟨λf A g=>g=h/\∃(k:Nat) (y:Int),A=[(3,.int .u64 y),(6,.slice a n b),(7,Vi n),(8,Vi k)]/\k<=n/\f=n-k/\y=PD bs k,
   ⟨_,_,Sq,?_,B,0,0,B,Al _,B,B⟩,?_⟩
  .omega
  rintro f A g ⟨rfl,k,y,rfl,C,rfl,rfl⟩ D;apply Bz<;>intro e
  .let⟨a1,E,q,_,s⟩:=p.at_ G
   cases q;have hb:=Pd (bs.getD k 0);refine⟨G,_,Rd.ld s B (i:=k) (by show _*1=_;omega) (CY G),_,.inl Pq,Pq,G,Pq,?_⟩;refine⟨_,_,Sq,?_,B,k+1,_,B,G,B,B⟩;omega
  .obtain rfl:k=n:=G
   exact⟨B,B⟩
def Adk (a:Base S L) {h:Y} {v w:Aa} {n m:Nat} {bs cs:Bl} (r:Rd h v 1 n (Ay bs)) (q:Rd h w 1 m (Ay cs)):Bk S L 1 110 [v,w] h λu J=>u=.bool (bs==cs)/\J=h:=
 Cn f110 a λd f _=>by
  have b:=FB (τ:=Ax) (s:=62) (d:=9) Kq r;have e:=FB (τ:=Ax) (s:=62) (d:=9) Kq q;obtain⟨_,A,c,rfl,_⟩:=r;obtain⟨_,g,i,rfl,_⟩:=q;refine⟨_,b,_,e,_,B,?_,B⟩;show CU (Gp _ _)=_;rw[J0]
def Akb (m:Base S L) {h:Y} {b:Nat} {l:List Bool} (o:Du h b l):Bk S L 2 184 [AG b 0] h λw J=>AA h J/\∃bs:Bl,bs.length<=300000/\AS J h.nx 5 1 w bs.length (Ay bs):=
 Cn f184 m λd q hL=>by
  let⟨v1,ws,w0,r,w2,w3⟩:=o.2.2.1
  let⟨v2,k0,K⟩:=o.2.2.2
  have aw:=o.len;have ax:ws.length=(l.length+63)/64:=by have:=r.1;simpa using this
  have b1:=Iv (τ:=Ax) (t:=274) (e:=213) (k:=1) Kq (.int .u64 (l.length:Int)) B B (by decide) h.ad;have M:=AA.row h.ad 213 [.int .u64 (l.length:Int)];have s:=Own.row h.ad 213 [.int .u64 (l.length:Int)]
  let⟨a,u⟩:∃a,a=BN h.ad 213 [.int .u64 (l.length:Int)]:=⟨_,B⟩
  have af:Bs Ax 274 1 [(0,.int .u64 (l.length:Int))] h.ad=I (sL h.nx 1 1,a):=by rw[u];exact b1
  rw[←u] at M s;rw[BF] at s;clear b1 u;have O:AA h (h.aa a):=M.aa
  let⟨g,hg⟩:∃g,g=h.aa a:=⟨_,B⟩
  have ow:Own (h.aa a) h.nx 213 [.int .u64 (l.length:Int)]:=s.aa;have ag:Rd (h.aa a).ad (sL h.nx 1 1) 1 1 ([l.length].map λx:Nat=>AL .u64 x):=by
   have:AS (h.aa a) h.nx 213 1 (sL h.nx 1 1) 1 [.int .u64 (l.length:Int)]:=⟨B,.inr ⟨h.nx,1,[],B,Ae _,Ae _,B,ow⟩⟩;exact this.rd
  refine⟨_,B,?_⟩;refine⟨[.w 11],Kq,_,ld B o.c0,_,.inl Pq,_,_,af,?_⟩;refine⟨_,Apv (h:=(h.aa a).ad) (N:=(h.aa a).nx) (bs:=[]) (sz:=4) (n:=0) m (AS.nil _ _ _ _) (Ae _) ag (λ_ _ h=>h) G (by simp;omega) G G d q,?_⟩;rintro P f ⟨Q,q1,v,R,q4⟩;refine⟨R.ag λ_ h=>h,?_⟩;have T:B0 (BY (sN)) (h.aa a) ((h.aa a).aa f):=R.aa;have y:AA h ((h.aa a).aa f):=O.then T λ_ h=>h.elim
  have V:AS ((h.aa a).aa f) (h.aa a).nx 5 1 P (0+4*1) (Ay Q):=v.aa;have z:=O.nx;have W:=T.nx;have ah:=r.ext y;have ai:=w0.ext y;have aj:∀i,BY v1 i->¬BY P i:=λi U c=>by
   have X:=r.aw i U;have z2:=v.ai i c;omega
  refine⟨_,ld B ai,?_⟩;refine⟨_,Apv (h:=((h.aa a).aa f).ad) (N:=(h.aa a).nx) (bs:=Q) (sz:=8) (n:=4) m V W ah aj G w2 G G d q,?_⟩;rintro o2 h3 ⟨ak,r1,r2,C,r4⟩;refine⟨C.dw V,?_⟩;have D:AA h (((h.aa a).aa f).aa h3):=y.then C.aa λi U=>Ao z (v.ai i U)
  have al:AS (((h.aa a).aa f).aa h3) (h.aa a).nx 5 1 o2 (4+8*((l.length+63)/64)) (Ay ak):=r2.aa;have am:=k0.ext D;have ay:=K.ext D;obtain⟨hr,E,F,rfl,an,ao,hA⟩:=K;have az:4+8*((l.length+63)/64)<=140000:=G;refine⟨_,ld B am,?_⟩;refine⟨λμ A c=>∃(k:Nat) (cv:Aa) (cs:Bl),A=[(3,cv),(23,.slice E (((l.length+63)/64+7)/8) F),(24,Vi ((((l.length+63)/64+7)/8:Nat):Int)),(25,Vi k)]/\k<=((l.length+63)/64+7)/8/\μ=((l.length+63)/64+7)/8-k/\
   AS c (h.aa a).nx 5 1 cv (4+8*((l.length+63)/64)+4*k) (Ay cs)/\AA h c/\(h.aa a).nx<=c.nx,
   ⟨_,_,Sq,?_,0,_,_,B,Al _,B,al,D,Ao W C.aa.nx⟩,?_⟩
  .omega
  rintro μ A c ⟨k,cv,cs,rfl,hk,rfl,f1,f2,f3⟩ a0;apply Bz<;>intro e
  .have kk:=(show Rd h (.slice E (((l.length+63)/64+7)/8) F) 1 _ _ from⟨hr,E,F,B,an,ao,hA⟩).ext f2
   let⟨a1,y1,e9,_,p1⟩:=kk.at_ G
   cases e9;have a2:(l.take (512*k)).count Ag<=1048576:=Ao HM (by simp;omega);have ap:((BG (((l.length+63)/64+7)/8)).map λg=>Vi ((l.take (512*g)).count Ag:Nat))[k]?=I (Vi ((l.take (512*k)).count Ag:Nat)):=by
    rw[AX,Jj G];rfl
   have b2:=Iv (τ:=Ax) (t:=274) (e:=213) (k:=1) Kq (.int .u64 ((l.take (512*k)).count Ag:Nat)) B B (by decide) c;have p:=AA.row c 213 [.int .u64 ((l.take (512*k)).count Ag:Nat)];have aa:=Own.row c 213 [.int .u64 ((l.take (512*k)).count Ag:Nat)]
   let⟨j,ab⟩:∃j,j=BN c 213 [.int .u64 ((l.take (512*k)).count Ag:Nat)]:=⟨_,B⟩
   have aq:Bs Ax 274 1 [(0,.int .u64 ((l.take (512*k)).count Ag:Nat))] c=I (sL c.nx 1 1,j):=by rw[ab];exact b2
   rw[←ab] at p aa;have ar:Rd j (sL c.nx 1 1) 1 1 ([(l.take (512*k)).count Ag].map λx:Nat=>AL .u64 x):=by
    have:AS j c.nx 213 1 (sL c.nx 1 1) 1 [.int .u64 ((l.take (512*k)).count Ag:Nat)]:=⟨B,.inr ⟨c.nx,1,[],B,Ae _,Ae _,B,aa⟩⟩;exact this.rd
   have au:=f1.ext p;have a3:=f2.nx;have ad:(h.aa a).nx<=j.nx:=Ao f3 p.nx;refine⟨G,_,Rd.ld p1 B (i:=k) (by show _*1=_;omega) ap,_,.inl Pq,_,_,aq,?_⟩;refine⟨_,Apv (sz:=4) m au ad ar (λi U av=>by have:=f1.aw i av;have:i=c.nx:=U;omega) G (by simp;omega) G G d q,?_⟩;rintro o5 h5 ⟨bs5,t1,t2,t3,t4⟩;refine⟨Pq,_,_,Sq,?_,k+1,o5,bs5,B,G,B,?_,?_,Ao ad t3.nx⟩
   .omega
   .rw[show 4+8*((l.length+63)/64)+4*(k+1)=4+8*((l.length+63)/64)+4*k+4*1 by omega];exact t2
   .exact(f2.trans p).then t3 λi U=>Ao z (f1.ai i U)
  .refine⟨f2,cs,?_,?_⟩
   .have:=f1.len;rw[A7] at this;omega
   .have ae:=f1.len
    rw[A7] at ae;rw[←ae]
    let⟨y1,H⟩:=f1
    refine⟨y1,?_⟩;rcases H with H|⟨b',c',sp,X,z2,z3⟩
    .exact .inl H
    .exact .inr ⟨b',c',sp,X,Ao z z2,z3⟩
def Lh (ws:Bo) (y:Nat):List Bool:=(BG y).map λi=>(ws.getD (i/64) 0).testBit (i%64)
def Ahc {ws:Bo} {y:Nat} (a:ws.length=(y+63)/64) (hb:∀x∈ws,x<18446744073709551616):TX (Lh ws y) ws:=by
 have e:(Lh ws y).length=y:=by simp[Lh]
 refine⟨by rw[e];exact a,hb,λi U=>?_⟩;rw[e] at U;have b:(Lh ws y)[i]?=I ((ws.getD (i/64) 0).testBit (i%64)):=by rw[Lh,AX,Jj U];rfl
 rw[Ak (l:=Lh ws y),b];rfl
def Zo {d:Nat} {z:Int} {n:Nat} (h:z=n):RO d (I (Vi z))=I n:=by
 subst h;rfl
def Awb (g:Base S L) {h:Y} {v:Aa} {n:Nat} {bs:Bl} (r:Rd h v 1 n (Ay bs)) (hn:n<=100000000):
 Bk S L 4 197 [v] h λw J=>AA h J/\(w=.tuple #[.pointer Z,Vi 5]\/∃p l,h.nx<=p/\w=.tuple #[AG p 0,Vi 0]/\Du J p l):=
 Cn f197 g λd av hL=>by
  obtain⟨hr,q,s,rfl,af,ag,hA⟩:=r;have D:Rd h (.slice q n s) 1 n (Ay bs):=⟨hr,q,s,B,af,ag,hA⟩;have aw:bs.length=n:=by rw[A7] at hr;omega
  apply Bz<;>intro e
  .exact⟨AA.refl h,.inl B⟩
  let⟨v4,s1,Q,s3⟩:=D.slice (τ:=Ax) (t:=62) Kq (lo:=Z) (U:=I (Vi 4)) (l:=0) (m:=4) B B G G
  rw[Qg,Ajb,BJ,Ez] at Q;have ad:CN h (C7 Ax 62 (.slice q n s) Z (I (Vi 4)) Z)=I (v4,h):=by rw[s1];rfl
  have ny:=Ri (bs.take 4) 4;refine⟨_,_,ad,_,Aql g Q G d G,?_⟩;rintro _ h ⟨rfl,rfl⟩;apply Bz<;>intro e2
  .exact⟨AA.refl _,.inl B⟩
  refine⟨_,_,ad,_,Aql g Q G d G,?_⟩;rintro _ h ⟨rfl,rfl⟩
  let⟨y,hy⟩:∃y:Nat,PD (bs.take 4) 4=y:=⟨(PD (bs.take 4) 4).toNat,G⟩
  have R:PD (bs.take 4) (4-0)=y:=hy;have ah:y<=1048576:=by rw[R] at e2;omega
  let⟨h1,b1,x1,o1,n1⟩:=H1 Ax 356 (.agg #[Vi y,sN,sN]) h
  have ae:Own h1 h.nx 356 [Vi y,sN,sN]:=o1;refine⟨_,.inl ⟨by rw[R];exact⟨by omega,by omega⟩,R.symm⟩,_,_,b1,_,ld B (ae.cell (i:=0) B),Pq,⟨G,G,G,G⟩,Pq,Pq,?_⟩;apply Bz<;>intro e3
  .exact⟨x1,.inl B⟩
  refine⟨λμ A a=>∃(k:Nat) (ws:Bo) (o:Aa),A=[(0,.slice q n s),(4,AG h.nx 0),(5,Vi (((y+63)/64:Nat):Int)),(34,Vi (((y+63)/64:Nat):Int)),(35,Vi k)]/\k<=(y+63)/64/\μ=(y+63)/64-k/\
   ws.length=k/\(∀x∈ws,x<18446744073709551616)/\AA h a/\Own a h.nx 356 [Vi y,o,sN]/\AS a h1.nx 213 1 o k (ws.map λx:Nat=>AL .u64 x),
   ⟨_,_,Sq,?_,0,[],_,B,Al _,B,B,(by simp),x1,ae,AS.nil _ _ _ _⟩,?_⟩
  .omega
  rintro μ A a ⟨k,ws,o,rfl,hk,rfl,T,V,E,F,H⟩ ax;apply Bz<;>intro e
  .have ay:k<(y+63)/64:=G
   have rk:Rd a.ad (.slice q n s) 1 n (Ay bs):=D.ext (E.trans (AA.ad a))
   let⟨v5,s4,W,s6⟩:=rk.slice (τ:=Ax) (t:=62) Kq (lo:=I (Vi (4+8*(k:Int)))) (U:=I (Vi (12+8*(k:Int)))) (l:=4+8*k) (m:=12+8*k) (Zo G) (Zo G) G G
   rw[BJ,BJ,EA,Ez,show 12+8*k-(4+8*k)=8 by omega] at W;have ai:CN a.ad (C7 Ax 62 (.slice q n s) (I (Vi (4+8*(k:Int)))) (I (Vi (12+8*(k:Int)))) Z)=I (v5,a.ad):=by rw[s4];rfl
   let⟨C,aj⟩:∃C,C=(bs.drop (4+8*k)).take 8:=⟨_,B⟩
   rw[←aj] at W;have nz:=Ri C 8
   let⟨z,hz⟩:∃z:Nat,PD C 8=z:=⟨(PD C 8).toNat,G⟩
   have K:AA a (a.aa a.ad):=(AA.refl a.ad).aa;have ak:=H.ext K;have al:h1.nx<=(a.aa a.ad).nx:=by have:=E.nx;have:=F.1;have:=K.nx;omega
   let⟨M,z1,z2,v',J,z3,X,z5,z6⟩:=Aef (τ:=Ax) (st:=274) (t2:=274) (e:=213) (k:=1) Kq ak (ys:=[.int .u64 z]) B B al G
   have z0:Bs Ax 274 1 [(0,.int .u64 z)] (a.aa a.ad).ad=I (sL ((a.aa a.ad).nx) 1 1,M):=by
    rw[←z1];exact Iv (τ:=Ax) (t:=274) (e:=213) (k:=1) Kq (.int .u64 z) B B (by decide) (a.aa a.ad).ad
   refine⟨[],Kq,_,ld B (F.cell (i:=1) B),Pq,Pq,Pq,Pq,_,_,ai,_,Aql g W G d G,?_⟩;rintro _ _ ⟨rfl,rfl⟩;rw[hz];refine⟨B,_,_,z0,_,_,z3,?_⟩;have c5:=z5.aa;have N:∀i,BY o i->h1.nx<=i:=λi U=>H.ai i U;have am:=((F.ext K).ext z2).ae c5 (λU=>by have:=N _ U;omega)
   let⟨h3,t5,t6,t7⟩:=Own.st (h:=(((a.aa a.ad).aa M).aa J).ad) (τ:=Ax) (t:=274) B (i:=1) (v:=v') am (by show 1<3;decide) (D5 X)
   refine⟨_,t5,Pq,?_⟩;have az:z<18446744073709551616:=G;have an:AS (((a.aa a.ad).aa M).aa J) h1.nx 213 1 v' (k+1) _:=X.aa;have ao:∀i,BY v' i->i≠h.nx:=λi U=>by have:=X.ai i U;omega
   have ap:AA h ((((a.aa a.ad).aa M).aa J).aa h3):=(((E.trans K).trans z2).then c5 λi U=>by have:=N i U;omega).ah t7.aa (Ae _)
   refine⟨_,_,Sq,?_,k+1,ws++[z],v',B,G,B,by simp[T],?_,ap,t6.aa,?_⟩
   .omega
   .intro x c
    rcases List.mem_append.1 c with c|c
    .exact V x c
    .simp at c;omega
   .rw[BS]
    exact an.ah t7.aa ao
  .obtain rfl:k=(y+63)/64:=G
   have e9:(Lh ws y).length=y:=by simp[Lh]
   have N:∀i,BY o i->h1.nx<=i:=λi U=>H.ai i U;have aa:Rd a o 1 ws.length (ws.map λx:Nat=>AL .u64 x):=by rw[T];exact H.rd
   have ab:∀i,BY o i->i≠h.nx:=λi U=>by have:=N i U;omega
   refine cl (Avh g F aa ab V G) ?_;rintro _ b ⟨rfl,k1,cv,k2,k3⟩;have c:AA h b:=E.then k1 (λi U=>by rw[U];omega)
   have u:Du b h.nx (Lh ws y):=by
    refine Afv (by rw[e9];exact ah) (Ahc T V) (by rw[e9];exact k2) (aa.ae k1 ab) k3.rd
   have aq:=aa.ae k1 ab;have ar:Cell b h.nx 1 o:=k2.cell B;refine⟨[],Kq,_,ld B u.c0,G,Ad (λO=>?_) (λO=>?_)⟩
   ·
    have O:¬(y:Int)%64=0:=by rw[e9] at O;simpa using O
    obtain⟨a1,y1,rfl,_,q1⟩:=aq.at_ G;have au:(ws.map λx:Nat=>AL .u64 x)[(y+63)/64-1]?=I (.int .u64 (ws.getD ((y+63)/64-1) 0:Nat)):=by
     rw[AX,Ak,Ab G];rfl
    refine⟨_,ld B ar,Pq,G,_,Rd.ld q1 B (i:=(y+63)/64-1) (by show _*1=_;omega) au,_,ld B u.c0,G,G,?_⟩;apply Ad<;>intro P
    .exact⟨c,.inl B⟩
    .skip
     refine cl (Akb (h:=b.ad) g u) ?_;rintro o5 j ⟨f,bs5,l5,r5⟩;refine⟨f.ag,_,Adk (h:=(b.aa j).ad) g (r5.aa (h:=b)).rd (D.ext ((c.trans f.aa).trans (AA.ad _))) d G,?_⟩;rintro _ _ ⟨rfl,rfl⟩;refine⟨B,_,_,B,Ad (λP=>?_) (λP=>?_)⟩
     .exact⟨c.trans (f.aa.trans (AA.refl (b.aa j).ad).aa),.inl B⟩
     .exact⟨c.trans (f.aa.trans (AA.refl (b.aa j).ad).aa),.inr ⟨h.nx,Lh ws y,Ae _,B,u.ext (f.aa.trans (AA.refl (b.aa j).ad).aa)⟩⟩
   .skip
    refine cl (Akb (h:=b.ad) g u) ?_;rintro o5 j ⟨f,bs5,l5,r5⟩;refine⟨f.ag,_,Adk (h:=(b.aa j).ad) g (r5.aa (h:=b)).rd (D.ext ((c.trans f.aa).trans (AA.ad _))) d G,?_⟩;rintro _ _ ⟨rfl,rfl⟩;refine⟨B,_,_,B,Ad (λP=>?_) (λP=>?_)⟩
    .exact⟨c.trans (f.aa.trans (AA.refl (b.aa j).ad).aa),.inl B⟩
    .exact⟨c.trans (f.aa.trans (AA.refl (b.aa j).ad).aa),.inr ⟨h.nx,Lh ws y,Ae _,B,u.ext (f.aa.trans (AA.refl (b.aa j).ad).aa)⟩⟩
def E1 (ws:Bo) (w i:Nat):Int:=
 if w=0 then 0 else
 let v:=DN .u64 (ws.getD (i*w/64) 0:Nat) ((i*w%64:Nat):Int)
 let v:=if i*w%64+w<=64 then v else JP .u64 v (Es .u64 (ws.getD (i*w/64+1) 0:Nat) (UX 64 ((i*w%64:Nat):Int)))
 D8 .u64 v (UX (Es .u64 1 (w:Int)) 1)
def FM (ws:Bo) (w i:Nat):0<=E1 ws w i/\E1 ws w i<18446744073709551616:=by
 unfold E1;split
 .omega
 .show 0<=D8 .u64 _ _/\D8 .u64 _ _<_
  unfold D8;rw[G8];omega
def BX (h:Y) (b n w:Nat) (ws:Bo):Prop:=Cell h b 0 (.int .i64 n)/\Cell h b 1 (.int .i64 w)/\n<=1048576/\w<=64/\(∃a,Cell h b 2 a/\Rd h a 1 ws.length (ws.map λx:Nat=>AL .u64 x))/\ws.length=(n*w+63)/64/\∀x∈ws,x<18446744073709551616
def BX.ext {w:Nat} (p:BX h b n w ws) (e:AA h J):BX J b n w ws:=by
 let⟨a,c,d,f,⟨g,i,j⟩,k⟩:=p
 exact⟨a.ext e,c.ext e,d,f,⟨g,i.ext e,j.ext e⟩,k⟩
def G5 (a:k<ws.length):(ws.map λx:Nat=>AL .u64 x)[k]?=I (.int .u64 (ws.getD k 0:Nat)):=by
 rw[AX,Ak,Ab a];rfl
def Aqv (l:Base S L) {w:Nat} (p:BX h b n w ws) (U:i<n):
 Bk S L 1 199 [AG b 0,Vi i] h λv J=>v=.int .u64 (E1 ws w i)/\J=h:=
 Cn f199 l λd x _=>by
  let⟨y,a,o,q,⟨z,c,r⟩,s,A⟩:=p
  have C:(i+1)*w<=n*w:=Ci w G;have D:(i+1)*w=i*w+w:=Gq;have E:=Cj o q
  let⟨m,f⟩:∃m,m=i*w:=⟨_,B⟩
  have em:(i:Int)*(w:Int)=(m:Int):=Gq;refine⟨_,ld B a,?_⟩;apply Bz<;>intro e
  .have:w=0:=G
   subst this;exact⟨by rw[E1,Bi B];rfl,B⟩
  have g:w≠0:=G;refine⟨[],Kq,_,ld B a,⟨by rw[em];omega,by rw[em];omega⟩,?_⟩;rw[em];have t:m/64<ws.length:=Gq;obtain⟨a1,F,rfl,_,j⟩:=r.at_ G;have k:(m:Int)%64=((m%64:Nat):Int):=G;refine⟨⟨G,G,G,G⟩,_,ld B a,⟨by rw[em];omega,by rw[em];omega⟩,?_⟩;rw[em];refine⟨G,_,.inl Pq,_,ld B c,G,_,Rd.ld j B (by show((m:Int)/64).toNat*1=_;omega) (G5 t),G,_,.inl Pq,_,ld B a,Pq,?_⟩;apply Bz<;>intro H
  .have u:m/64+1<ws.length:=by rw[s];omega
   refine⟨_,ld B c,Pq,G,_,Rd.ld j B (by show((m:Int)/64+1).toNat*1=_;omega) (G5 u),(by rw[T0 Pq];omega),_,ld B a,_,.inl Pq,G,?_,B⟩;rw[E1,Bm g,←f];simp only[];rw[Bm G,←k];rfl
  .refine⟨_,ld B a,_,.inl Pq,G,?_,B⟩
   rw[E1,Bm g,←f];simp only[];rw[Bi G,←k];rfl
def K3 (a:Base S L) (p:Cell h b 0 (Vi n)):Bk S L 1 120 [AG b 0] h λv J=>v=Vi n/\J=h:=
 Cn f120 a λd c _=>by
  refine⟨_,B,_,ld B p,B,B⟩
def ZZ (a:Base S L) {w:Nat} (p:BX h b n w ws) {i:Int}:
 Bk S L 2 121 [AG b 0,Vi i] h λv J=>v=.tuple #[.int .u64 (if 0<=i/\i<n then E1 ws w i.toNat else 0),.bool (decide (0<=i/\i<n))]/\J=h:=
 Cn f121 a λd f _=>by
  apply Bz<;>intro e
  .rw[Bm G,decide_eq_false G]
   exact⟨B,B⟩
  refine GZ (K3 a p.1 d G) ?_;apply Bz<;>intro g
  .rw[Bm G,decide_eq_false G]
   exact⟨B,B⟩
  obtain⟨k,rfl⟩:∃k:Nat,i=k:=⟨i.toNat,G⟩;refine GZ (Aqv a p G d G) ?_;have c:0<=(k:Int)/\(k:Int)<(n:Int):=G;refine⟨?_,B⟩;rw[Bi c,decide_eq_true c];rfl
def W4 (a b:Int):Nat:=(JP .u64 a b).toNat
def Xu (a b:Int):JP .u64 a b=(W4 a b:Int):=by
 let⟨y,_,h⟩:=NR a b
 rw[W4,h];rfl
def Afj (a b:Int):W4 a b<18446744073709551616:=by
 let⟨y,h1,h⟩:=NR a b
 rw[W4,h];exact h1
def Qr (ws:Bo) (w i:Nat) (v:Int):Bo:=
 if w=0 then ws else
 let a:=ws.set (i*w/64) (W4 (ws.getD (i*w/64) 0:Nat) (Es .u64 v ((i*w%64:Nat):Int)))
 if i*w%64+w<=64 then a else a.set (i*w/64+1) (W4 (a.getD (i*w/64+1) 0:Nat) (DN .u64 v (UX 64 ((i*w%64:Nat):Int))))
def WN (ws:Bo) (w i:Nat) (v:Int):(Qr ws w i v).length=ws.length:=by
 unfold Qr;split
 .rfl
 .simp[]
  split<;>simp
def TS (h:∀x∈ws,x<18446744073709551616) (k:Nat) (a b:Int):∀x∈ws.set k (W4 a b),x<18446744073709551616:=by
 intro x c;rcases BT c with c|rfl
 .exact h x c
 .exact Afj _ _
def Akp (w i:Nat) (v:Int) (h:∀x∈ws,x<18446744073709551616):∀x∈Qr ws w i v,x<18446744073709551616:=by
 unfold Qr;split
 .exact h
 .simp[]
  split
  .exact TS h _ _ _
  .exact TS (TS h _ _ _) _ _ _
def Azu (H:Base S L) {a w:Nat} (g:Cell h b 1 (Vi w)) (q:Cell h b 2 (sL a ws.length ws.length)) (o:Own h a 213 (ws.map λx:Nat=>AL .u64 x)) (r:b≠a)
 (K:n<=1048576) (M:w<=64) (O:ws.length=(n*w+63)/64) (U:i<n) {v:Int}:
 Bk S L 1 241 [AG b 0,Vi i,.int .u64 v] h λu J=>u=.tuple #[]/\B0 (·=a) h J/\Own J a 213 ((Qr ws w i v).map λx:Nat=>AL .u64 x):=
 Cn f241 H λd P _=>by
  have Q:(i+1)*w<=n*w:=Ci w G;have R:(i+1)*w=i*w+w:=Gq;have T:=Cj K M
  let⟨m,l⟩:∃m,m=i*w:=⟨_,B⟩
  have em:(i:Int)*(w:Int)=(m:Int):=by rw[l];simp
  refine⟨_,ld B g,?_⟩;apply Bz<;>intro e
  .have:w=0:=G
   subst this;exact⟨B,(AA.refl h).ae _,by rw[Qr,Bi B];exact o⟩
  have s:w≠0:=G;refine⟨[],Kq,_,ld B g,⟨by rw[em];omega,by rw[em];omega⟩,?_⟩;rw[em];have y:m/64<ws.length:=Gq;have z:(m:Int)%64=((m%64:Nat):Int):=G;refine⟨⟨G,G,G,G⟩,_,ld B g,⟨by rw[em];omega,by rw[em];omega⟩,?_⟩;rw[em];have A:0+((m:Int)/64).toNat*t213.size=m/64:=by show 0+_*1=_;omega
  have C:0+((m:Int)/64+1).toNat*t213.size=m/64+1:=by show 0+_*1=_;omega
  obtain⟨D,N,f,j⟩:=Own.st (τ:=Ax) (t:=213) B (v:=.int .u64 (W4 (ws.getD (m/64) 0:Nat) (Es .u64 v ((m:Int)%64)):Nat)) o (by simpa using y) B;refine⟨G,_,.inl Pq,_,ld B q,G,_,(by rw[A];exact ld B (o.cell (G5 y)):Bw Ax 213 h a (0+((m:Int)/64).toNat*t213.size)=I (.int .u64 (ws.getD (m/64) 0:Nat))),G,G,D,(by rw[A,Xu];exact N),?_⟩;rw[(λk x=>by rw[Cp]:∀k x,(ws.map λx:Nat=>AL .u64 x).set k (.int .u64 (x:Nat))=(ws.set k x).map λx:Nat=>AL .u64 x)] at f;refine⟨_,.inl Pq,_,ld B (g.ah j r),Pq,?_⟩;apply Bz<;>intro V
  .let⟨c,E⟩:∃c,c=ws.set (m/64) (W4 (ws.getD (m/64) 0:Nat) (Es .u64 v ((m:Int)%64))):=⟨_,B⟩
   rw[←E] at f;have F:m/64+1<c.length:=Gq;obtain⟨hb,t5,t6,t7⟩:=Own.st (τ:=Ax) (t:=213) B (v:=.int .u64 (W4 (c.getD (m/64+1) 0:Nat) (DN .u64 v (UX 64 ((m:Int)%64))):Nat)) f (by simpa using F) B;refine⟨_,ld B (q.ah j r),Pq,G,_,(by rw[C];exact ld B (f.cell (G5 F)):Bw Ax 213 D a (0+((m:Int)/64+1).toNat*t213.size)=I (.int .u64 (c.getD (m/64+1) 0:Nat))),(by rw[T0 Pq];omega),G,hb,(by rw[C,Xu];exact t5),B,j.ae.trans t7.ae,?_⟩;have p:Qr ws w i v=c.set (m/64+1) (W4 (c.getD (m/64+1) 0:Nat) (DN .u64 v (UX 64 ((m:Int)%64)))):=by
    rw[Qr,Bm s,←l];simp only[];rw[Bm G,←z,←E]
   rw[p,Cp];exact t6
  .refine⟨B,j.ae,?_⟩
   have p:Qr ws w i v=ws.set (m/64) (W4 (ws.getD (m/64) 0:Nat) (Es .u64 v ((m:Int)%64))):=by
    rw[Qr,Bm s,←l];simp only[];rw[Bi G,←z]
   rw[p];exact f
def bl (x:Nat):Nat:=if x=0 then 0 else Nat.log2 x+1
def Anz (s:Bd):Bool:=Am s.size 256&&(BG 256).all λi=>Am (Cv s i).toNat (bl i)
def FW (a:Anz s=Ag) (b:x<256):((x:Nat):Int)<(s.size:Int):=by
 have:=Af (An ..▸a:_/\_).1;omega
def Hc (b:Anz s=Ag) (c:x<256) {a:Int} {v:Nat} (d:(v:Int)=a+(bl x:Nat)):Vi (a+((Cv s ((x:Nat):Int).toNat).toNat:Nat))=Vi (v:Nat):=by
 have:=Af (List.all_eq_true.1 ((An ..▸b:_/\_).2:(BG 256).all (λi=>Am (Cv s i).toNat (bl i))=Ag) x (List.mem_range.2 c));rw[d,←this];rfl
def Pe (a:x<256):bl x<=8:=by
 unfold bl;split
 .omega
 .have:=(Nat.log2_lt (k:=8) (by assumption)).2 a
  omega
def bl1 (a x:Nat):Nat:=if 256<=x then a+8+bl (x/2^8) else a+bl x
def bl2 (a x:Nat):Nat:=if 65536<=x then bl1 (a+16) (x/2^16) else bl1 a x
def bitLen (x:Nat):Nat:=if 4294967296<=x then bl2 32 (x/2^32) else bl2 0 x
def G2 (b:UInt8):(b.toNat:Int)<=9223372036854775807:=by have:=Pd b;omega
def Lu (b:UInt8) {a:Int} (h:a<=1000):a+(b.toNat:Int)<=9223372036854775807:=by have:=Pd b;omega
def Awc (k:Base S L) (n:x<18446744073709551616):Bk S L 1 240 [.int .u64 x] h λv J=>v=Vi (bitLen x)/\bitLen x<=64/\J=h:=
 Cn f240 k λd o _=>by
  apply Bz<;>intro p
  .let⟨e,g⟩:∃y,y=x/2^32:=⟨_,B⟩
   refine⟨G,?_⟩;rw[(by rw[g];exact Fo B G:DN .u64 (x:Int) 32=(e:Int))];apply Bz<;>intro l
   .let⟨b,f⟩:∃y,y=e/2^16:=⟨_,B⟩
    have m:DN .u64 (e:Int) 16=(b:Int):=by rw[f];exact Fo B G
    refine⟨G,?_⟩;rw[m];refine⟨Jq,?_⟩;apply Bz<;>intro j
    .let⟨a,c⟩:∃y,y=b/2^8:=⟨_,B⟩
     have i:DN .u64 (b:Int) 8=(a:Int):=by rw[c];exact Fo B G
     refine⟨G,?_⟩;rw[i];have hb:=Pe (x:=a) G;have ev:bitLen x=56+bl (a):=by rw[bitLen,Bi G,←g,bl2,Bi G,←f,bl1,Bi G,←c]
     refine⟨Pq,_,.inl Pq,⟨G,FW Kq G⟩,_,.inl ⟨⟨G,G2 _⟩,B⟩,⟨G,Lu _ G⟩,Hc Kq G (by rw[ev];push_cast;omega),G,B⟩
    .have hb:=Pe (x:=b) G
     have ev:bitLen x=48+bl (b):=by rw[bitLen,Bi G,←g,bl2,Bi G,←f,bl1,Bm G]
     refine⟨_,.inl Pq,⟨G,FW Kq G⟩,_,.inl ⟨⟨G,G2 _⟩,B⟩,⟨G,Lu _ G⟩,Hc Kq G (by rw[ev];push_cast;omega),G,B⟩
   .apply Bz<;>intro j
    .let⟨a,c⟩:∃y,y=e/2^8:=⟨_,B⟩
     have i:DN .u64 (e:Int) 8=(a:Int):=by rw[c];exact Fo B G
     refine⟨G,?_⟩;rw[i];have hb:=Pe (x:=a) G;have ev:bitLen x=40+bl (a):=by rw[bitLen,Bi G,←g,bl2,Bm G,bl1,Bi G,←c]
     refine⟨Pq,_,.inl Pq,⟨G,FW Kq G⟩,_,.inl ⟨⟨G,G2 _⟩,B⟩,⟨G,Lu _ G⟩,Hc Kq G (by rw[ev];push_cast;omega),G,B⟩
    .have hb:=Pe (x:=e) G
     have ev:bitLen x=32+bl (e):=by rw[bitLen,Bi G,←g,bl2,Bm G,bl1,Bm G]
     refine⟨_,.inl Pq,⟨G,FW Kq G⟩,_,.inl ⟨⟨G,G2 _⟩,B⟩,⟨G,Lu _ G⟩,Hc Kq G (by rw[ev];push_cast;omega),G,B⟩
  .apply Bz<;>intro l
   .let⟨b,f⟩:∃y,y=x/2^16:=⟨_,B⟩
    refine⟨G,?_⟩;rw[(by rw[f];exact Fo B G:DN .u64 (x:Int) 16=(b:Int))];refine⟨Jq,?_⟩;apply Bz<;>intro j
    .let⟨a,c⟩:∃y,y=b/2^8:=⟨_,B⟩
     have i:DN .u64 (b:Int) 8=(a:Int):=by rw[c];exact Fo B G
     refine⟨G,?_⟩;rw[i];have hb:=Pe (x:=a) G;have ev:bitLen x=24+bl (a):=by rw[bitLen,Bm G,bl2,Bi G,←f,bl1,Bi G,←c]
     refine⟨Pq,_,.inl Pq,⟨G,FW Kq G⟩,_,.inl ⟨⟨G,G2 _⟩,B⟩,⟨G,Lu _ G⟩,Hc Kq G (by rw[ev];push_cast;omega),G,B⟩
    .have hb:=Pe (x:=b) G
     have ev:bitLen x=16+bl (b):=by rw[bitLen,Bm G,bl2,Bi G,←f,bl1,Bm G]
     refine⟨_,.inl Pq,⟨G,FW Kq G⟩,_,.inl ⟨⟨G,G2 _⟩,B⟩,⟨G,Lu _ G⟩,Hc Kq G (by rw[ev];push_cast;omega),G,B⟩
   .apply Bz<;>intro j
    .let⟨a,c⟩:∃y,y=x/2^8:=⟨_,B⟩
     refine⟨G,?_⟩;rw[(by rw[c];exact Fo B G:DN .u64 (x:Int) 8=(a:Int))];have hb:=Pe (x:=a) G;have ev:bitLen x=8+bl (a):=by rw[bitLen,Bm G,bl2,Bm G,bl1,Bi G,←c]
     refine⟨Pq,_,.inl Pq,⟨G,FW Kq G⟩,_,.inl ⟨⟨G,G2 _⟩,B⟩,⟨G,Lu _ G⟩,Hc Kq G (by rw[ev];push_cast;omega),G,B⟩
    .have hb:=Pe (x:=x) G
     have ev:bitLen x=0+bl (x):=by rw[bitLen,Bm G,bl2,Bm G,bl1,Bm G]
     refine⟨_,.inl Pq,⟨G,FW (x:=x) Kq G⟩,_,.inl ⟨⟨G,G2 _⟩,B⟩,⟨G,Lu _ G⟩,Hc (x:=x) Kq G (by rw[ev];push_cast;omega),G,B⟩
def Hz (l:Bo):Nat->Nat
 |0=>0
 |k+1=>W4 (Hz l k:Nat) (l.getD k 0:Nat)
def Aip (l:Bo):∀k,Hz l k<18446744073709551616
 |0=>by show 0<_;omega
 |k+1=>Afj _ _
def H2 (l:Bo) (w:Nat):Nat->Bo
 |0=>AE ((l.length*w+63)/64) 0
 |k+1=>Qr (H2 l w k) w k (l.getD k 0:Nat)
def HK (l:Bo) (w:Nat):∀k,(H2 l w k).length=(l.length*w+63)/64
 |0=>by simp[H2]
 |k+1=>by rw[H2,WN];exact HK l w k
def Vy (l:Bo) (w:Nat):∀k,∀x∈H2 l w k,x<18446744073709551616
 |0=>λx a=>by rw[CH a];omega
 |k+1=>Akp _ _ _ (Vy l w k)
def Fl (h:Y) (N b:Nat):Prop:=N<=b/\∀v,Cell h b 2 v->∀i,BY v i->N<=i
def BX.fr {w:Nat} (p:BX h b n w ws) (g:Fl h N b) (c:B0 W h J) (a:∀i,W i->i<N):BX J b n w ws:=by
 obtain⟨f,j,k,l,⟨d,e,m⟩,o⟩:=p;have hb:¬W b:=λh=>by have:=a b h;have:=g.1;omega
 exact⟨f.ae c hb,j.ae c hb,k,l,⟨d,e.ae c hb,m.ae c λi U q=>by have:=a i q;have:=g.2 d e i U;omega⟩,o⟩
def BX.aa {w:Nat} (p:BX J b n w ws):BX (h.aa J) b n w ws:=by
 obtain⟨a,c,d,e,⟨f,g,i⟩,j⟩:=p;exact⟨a.aa,c.aa,d,e,⟨f,g.aa,i.aa⟩,j⟩
def Fl.aa (v:Fl J N b):Fl (h.aa J) N b:=by
 unfold Fl Cell;rw[CL,DF];exact v
def Aqg (u:Base S L) {l:Bo} (r:Rd h v 1 l.length (l.map λx:Nat=>AL .u64 x)) (hb:∀x∈l,x<18446744073709551616) (hl:l.length<=9223372036854775807):
 Bk S L 2 172 [v] h λw J=>AA h J/\(1048576<l.length/\w=.tuple #[.pointer Z,Vi 2]\/l.length<=1048576/\∃b,h.nx<=b/\w=.tuple #[AG b 0,Vi 0]/\BX J b l.length (bitLen (Hz l l.length)) (H2 l (bitLen (Hz l l.length)) l.length)/\Fl J h.nx b):=
 Cn f172 u λd ae hL=>by
  obtain⟨Q,g,j,rfl,R,T,V⟩:=r;have F:Rd h (.slice g l.length j) 1 l.length (l.map λx:Nat=>AL .u64 x):=⟨Q,g,j,B,R,T,V⟩;apply Bz<;>intro e
  .exact⟨AA.refl h,.inl ⟨G,B⟩⟩
  have o:l.length<=1048576:=G;refine⟨λn A a=>a=h/\∃k:Nat,A=[(0,.slice g l.length j),(4,.int .u64 (Hz l k:Nat)),(13,.slice g l.length j),(14,Vi l.length),(15,Vi k)]/\k<=l.length/\n=l.length-k,
   ⟨_,_,Sq,?_,B,0,B,Al _,B⟩,?_⟩
  .omega
  rintro n A a ⟨rfl,k,rfl,W,rfl⟩ X;apply Bz<;>intro e
  .obtain⟨a1,y1,y,_,C⟩:=F.at_ G
   cases y;refine⟨G,_,Rd.ld C B (i:=k) (by show _*1=_;omega) (G5 G),Pq,_,_,Sq,?_,B,k+1,B,G,B⟩;omega
  obtain rfl:k=l.length:=G;refine cl (Awc u (Aip l l.length)) ?_;rintro _ h ⟨rfl,p,rfl⟩;obtain⟨w,aa⟩:∃w,w=bitLen (Hz l l.length):=⟨_,B⟩;rw[←aa] at p⊢;obtain⟨h1,e1,x1,o1,n1⟩:=H1 Ax 319 (.agg #[Vi l.length,Vi w,sN]) h;have D:=o1;have h4:=Cj o p;obtain⟨m,H⟩:∃m,m=l.length*w:=⟨_,B⟩;have em:(l.length:Int)*(w:Int)=(m:Int):=Gq;obtain⟨q,e2,x2,K,n2⟩:=MA (τ:=Ax) (t:=274) (z:=.int .u64 0) Kq Kq B ((m+63)/64) G .i64 .i64 h1.ad;refine⟨_,_,e1,[],Kq,_,ld B (D.cell B),_,ld B (D.cell B),⟨by rw[em];omega,by rw[em];omega⟩,?_⟩;rw[em];refine⟨Pq,⟨G,G,G,G⟩,?_⟩;rw[(G:((m:Int)+63)/64=(((m+63)/64:Nat):Int))];refine⟨_,_,e2,?_⟩;rw[BF] at K n2;have M:=x2.aa;have ab:=D.ext M;obtain⟨N,s5,s6,O⟩:=Own.st (h:=(h1.aa q).ad) (τ:=Ax) (t:=274) B (v:=sL h1.nx ((m+63)/64) ((m+63)/64)) ab (by show 2<3;decide) B;have o3:=(K.aa:Own (h1.aa q) h1.nx 213 (AE ((m+63)/64) (.int .u64 0))).ah O.aa G;have s:∀k,(H2 l w k).length=(m+63)/64:=λk=>by rw[HK,H]
  refine⟨_,s5,λn A a=>∃k:Nat,A=[(7,AG h.nx 0),(44,.slice g l.length j),(45,Vi l.length),(46,Vi k)]/\k<=l.length/\n=l.length-k/\AA h a/\
   Own a h.nx 319 [Vi l.length,Vi w,sL h1.nx ((m+63)/64) ((m+63)/64)]/\Own a h1.nx 213 ((H2 l w k).map λx:Nat=>AL .u64 x),
   ⟨_,_,Sq,?_,0,B,Al _,B,((x1.trans M).ah O.aa (Ae _):AA h ((h1.aa q).aa N)),(s6.aa:Own ((h1.aa q).aa N) h.nx 319 [Vi l.length,Vi w,sL h1.nx ((m+63)/64) ((m+63)/64)]),?_⟩,?_⟩
  .omega
  .rw[H2,KD,←H];exact o3
  rintro n A a ⟨k,rfl,W,rfl,E,f,P⟩ X;apply Bz<;>intro e
  .have ad:k<l.length:=G
   obtain⟨a1,y1,y,_,C⟩:=(F.ext E).at_ G;cases y;refine⟨G,_,Rd.ld C B (i:=k) (by show _*1=_;omega) (G5 G),_,Azu u (f.cell B) (by rw[s];exact f.cell B:Cell a h.nx 2 (sL h1.nx (H2 l w k).length (H2 l w k).length)) P G o p (by rw[HK]) ad d G,?_⟩;rintro _ h5 ⟨rfl,t1,t2⟩;refine⟨Pq,_,_,Sq,?_,k+1,B,G,B,E.then t1 (λi U=>by rw[U];omega),f.ae t1 G,t2⟩
   omega
  .obtain rfl:k=l.length:=G
   refine⟨E,.inr ⟨o,h.nx,Ae _,B,⟨f.cell B,f.cell B,o,p,⟨_,f.cell B,?_⟩,by rw[HK],Vy _ _ _⟩,Ae _,λv c i U=>?_⟩⟩;rotate_left
   .obtain rfl:=c.inj (f.cell B)
    have:i=h1.nx:=U;omega
   have:AS a h1.nx 213 1 (sL h1.nx ((m+63)/64) ((m+63)/64)) (H2 l w l.length).length ((H2 l w l.length).map λx:Nat=>AL .u64 x):=
    ⟨by simp,.inr ⟨h1.nx,_,[],by rw[s],Ae _,by rw[s];exact Ae _,by simp[s],by simpa using P⟩⟩
   exact this.rd
abbrev nb (h:Y):Y:=h.aa h.ad
def AT (x:AA h0 h):AA h0 (nb h):=x.trans (AA.refl h.ad).aa
def bs5 (a b c d e:Int) (h:Y):Bs Ax 62 5 [(0,.int .u8 a),(1,.int .u8 b),(2,.int .u8 c),(3,.int .u8 d),(4,.int .u8 e)] h=
 I (sL h.nx 5 5,BN h 5 [.int .u8 a,.int .u8 b,.int .u8 c,.int .u8 d,.int .u8 e]):=by
 rfl
def Apt (M:Base S L) {w:Nat} (p:BX h b n w ws):Bk S L 1 180 [AG b 0] h λv J=>AA h J/\∃bs:Bl,bs.length<=10000000/\AS J h.nx 5 1 v bs.length (Ay bs):=
 Cn f180 M λd ag hL=>by
  obtain⟨a,E,N,O,⟨v1,P,Q⟩,R,p8⟩:=p;have h4:=Cj N O;obtain⟨m,T⟩:∃m,m=n*w:=⟨_,B⟩;have em:(n:Int)*(w:Int)=(m:Int):=Gq;obtain⟨c,V⟩:=DH (n:Int);obtain⟨f,W⟩:=DH (DN .i64 (n:Int) 8);obtain⟨j,aa⟩:=DH (DN .i64 (n:Int) 16);obtain⟨l,ab⟩:=DH (DN .i64 (n:Int) 24);obtain⟨o,ad⟩:=DH (w:Int);have F:=AT (AT (AT (AT (AT (AA.refl h)))));obtain⟨X,x⟩:∃X,X=nb (nb (nb (nb (nb h)))):=⟨_,B⟩;rw[←x] at F;have q:=F.trans (AA.row X.ad 5 [.int .u8 c.toNat,.int .u8 f.toNat,.int .u8 j.toNat,.int .u8 l.toNat,.int .u8 o.toNat]).aa;have s:=(Own.row X.ad 5 [.int .u8 c.toNat,.int .u8 f.toNat,.int .u8 j.toNat,.int .u8 l.toNat,.int .u8 o.toNat]).aa (h:=X);have z:=bs5 c.toNat f.toNat j.toNat l.toNat o.toNat X.ad;rw[BF,(by rw[x];simp[nb,CL,BF]:X.nx=h.nx)] at s z;obtain⟨g,hg⟩:∃g,g=BN X.ad 5 [.int .u8 c.toNat,.int .u8 f.toNat,.int .u8 j.toNat,.int .u8 l.toNat,.int .u8 o.toNat]:=⟨_,B⟩;rw[←hg] at q s z;subst x;refine⟨_,B,[],Kq,_,ld B a,_,.inr V.symm,_,ld B a,G,_,.inr W.symm,_,ld B a,G,_,.inr aa.symm,_,ld B a,G,_,.inr ab.symm,_,ld B E,_,.inr ad.symm,_,_,z,?_⟩;have ae:=a.ext q;have af:=E.ext q;refine⟨[],Kq,_,ld B ae,_,ld B af,⟨by rw[em];omega,by rw[em];omega⟩,?_⟩;rw[em];refine⟨Pq,⟨G,G,G,G⟩,?_⟩;rw[(G:((m:Int)+7)/8=(((m+7)/8:Nat):Int))];obtain⟨C,D⟩:∃C,C=(nb (nb (nb (nb (nb h))))).aa g:=⟨_,B⟩;rw[←D] at q s;refine⟨λH A t=>∃(k:Nat) (cv:Aa) (cs:Bl),A=[(0,AG b 0),(3,cv),(46,Vi ((m+7)/8:Nat)),(47,Vi k)]/\k<=(m+7)/8/\H=(m+7)/8-k/\
   AS t h.nx 5 1 cv (5+k) (Ay cs)/\AA h t,
   ⟨_,_,Sq,?_,0,_,_,B,Al _,B,(D▸(⟨B,.inr ⟨h.nx,5,[],B,Ae _,Ae _,B,s⟩⟩:AS C h.nx 5 1 (sL h.nx 5 5) (5+0) (Ay [c,f,j,l,o]))),(D▸q)⟩,?_⟩
  .omega
  rintro H A t ⟨k,cv,cs,rfl,hk,rfl,u,r⟩ ah;apply Bz<;>intro e
  .have hq:k/8<ws.length:=by rw[R,←T];omega
   obtain⟨a1,z1,e9,_,q1⟩:=(Q.ext r).at_ G;cases e9;obtain⟨y,hy⟩:=DH (DN .u64 (ws.getD (k/8) 0:Nat) ((k:Int)%8*8));obtain⟨v',J,t1,t2,t3,t4⟩:=Apn u y r.nx G;refine⟨_,ld B (P.ext r),⟨G,G,G,G⟩,G,_,Rd.ld q1 B (by show((k:Int)/8).toNat*1=_;omega) (G5 hq),G,Pq,_,.inl Pq,G,_,.inr hy.symm,_,_,bsB y t,_,_,t1,Pq,_,_,Sq,?_,k+1,v',_,B,G,B,t2,r.then t3 λi U=>u.ai i U⟩
   omega
  .have K:=u.len
   rw[A7] at K;refine⟨r,cs,G,?_⟩;rw[←K];exact u
def AGg (a:Base S L) {b1 c w:Nat} {x:Int} (p:BX h b n w ws) (e:Cell h b1 0 (AG b 0)) (f:Cell h c 0 (.int .u64 x)) {i:Int} (U:0<=i/\i<n):
 Bk S L 2 265 [Vi i,AG b1 0,AG c 0] h λv J=>v=.bool (decide (x<=E1 ws w i.toNat))/\J=h:=
 Cn f265 a λd g _=>by
  obtain⟨k,rfl⟩:∃k:Nat,i=k:=⟨i.toNat,G⟩;refine⟨[],Kq,_,ld B e,GZ (Aqv (h:=h.ad) a p G d G) ?_⟩;exact⟨B,_,ld B f,B,B⟩
def ACz (a:Base S L) {w:Nat} {x:Int} (p:BX h b n w ws):
 Bk S L 4 200 [AG b 0,.int .u64 x] h λv J=>AA h J/\∃z:Nat,v=Vi z/\z<=n/\(0<z->E1 ws w (z-1)<x)/\(z<n->x<=E1 ws w z):=
 Cn f200 a λd y _=>by
  have A:=p.2.2.1;obtain⟨h1,k,l,o,C⟩:=H1 Ax 125 (AG b 0) h;obtain⟨c,q,e,r,D⟩:=H1 Ax 213 (.int .u64 x) h1;have f:Cell c h.nx 0 (AG b 0):=(o.ext e).cell B;have s:Cell c h1.nx 0 (.int .u64 x):=r.cell B;have g:=l.trans e;have j:=p.ext g;refine⟨_,_,k,_,_,q,_,ld B f,GZ (K3 a j.1 d G) ?_⟩;refine cl (Aup a G ⟨265,#[],#[AG h.nx 0,AG h1.nx 0],B,λi h0 h1=>AGg a j f s ⟨h0,h1⟩⟩) ?_;rintro _ _ ⟨rfl,z,rfl,E,F,t,u⟩;obtain⟨m,rfl⟩:∃m:Nat,z=m:=Jq;refine⟨g,m,B,G,λh0=>?_,λh0=>?_⟩
  .have:=KK (t G)
   rw[show((m:Int)-1).toNat=m-1 by omega] at this;omega
  .have:=Fp (u G)
   exact this
def Oj {a b:Nat} (c:a<4294967296) (hb:b<4294967296):JP .i64 (a:Int) (b:Int)=((a|||b:Nat):Int)/\a|||b<4294967296:=by
 have d:a|||b<2^32:=Zz c hb;refine⟨?_,d⟩;unfold JP;have e:(BitVec.ofInt IntKind.i64.bits (a:Int)|||BitVec.ofInt IntKind.i64.bits (b:Int)).toNat=a|||b:=by
  rw[BitVec.toNat_or];have f:(BitVec.ofInt IntKind.i64.bits (a:Int)).toNat=a:=by
   show(BitVec.ofInt 64 (a:Int)).toNat=a;rw[BitVec.toNat_ofInt];omega
  have g:(BitVec.ofInt IntKind.i64.bits (b:Int)).toNat=b:=by
   show(BitVec.ofInt 64 (b:Int)).toNat=b;rw[BitVec.toNat_ofInt];omega
  rw[f,g]
 rw[e];exact FC Pq
def LY {a n:Nat} {z:Int} (b:z=n) (c:n<=24) (d:a<256):Es .i64 (a:Int) z=((a*2^n:Nat):Int)/\a*2^n<4294967296:=by
 have h1:2^n<=2^24:=Na G c;have f:a*2^n<=255*2^24:=Cj G h1;refine⟨?_,G⟩;subst b;unfold Es;have e:min ((n:Int)).toNat IntKind.i64.bits=n:=by show min n 64=n;omega
 rw[e];have:(a:Int)*2^n=((a*2^n:Nat):Int):=by push_cast;rfl
 rw[this];exact FC Pq
def Fl.to {h J:Y} {M N b n w:Nat} {ws:Bo} (g:Fl h N b) (p:BX h b n w ws) (x:AA h J) (a:M<=N):Fl J M b:=
 ⟨Ao a g.1,λv y i U=>Ao a (g.2 v (by obtain⟨_,y⟩:=y;rw[x.t b p.1.1] at y;exact⟨p.1.1,y⟩) i U)⟩
def Awa (C:Base S L) {h:Y} {v:Aa} {a:Nat} {bs:Bl} (r:Rd h v 1 a (Ay bs)) (hn:a<=100000000):
 Bk S L 3 119 [v] h λw J=>AA h J/\(w=.tuple #[.pointer Z,Vi 5]\/∃p n wd ws,h.nx<=p/\w=.tuple #[AG p 0,Vi 0]/\BX J p n wd ws/\Fl J h.nx p):=
 Cn f119 C λd ba hL=>by
  obtain⟨hr,A0,D,rfl,aq,ar,hA⟩:=r;have rr:Rd h (.slice A0 a D) 1 a (Ay bs):=⟨hr,A0,D,B,aq,ar,hA⟩;have bb:bs.length=a:=by rw[A7] at hr;omega
  apply Bz<;>intro e
  .exact⟨AA.refl h,.inl B⟩
  obtain⟨a1,y1,e9,_,E⟩:=rr.at_ G;cases e9;have hb:=λk=>Pd (bs.getD k 0);obtain⟨s1,l1⟩:=LY (z:=8) (n:=8) B G (hb 1);obtain⟨s2,l2⟩:=LY (z:=16) (n:=16) B G (hb 2);obtain⟨s3,l3⟩:=LY (z:=24) (n:=24) B G (hb 3);obtain⟨t1,m1⟩:=Oj (by have:=hb 0;omega:(bs.getD 0 0).toNat<4294967296) l1;obtain⟨t2,m2⟩:=Oj m1 l2;obtain⟨t3,m3⟩:=Oj m2 l3;refine⟨[],Kq,G,_,Rd.ld E B (i:=0) (by rfl) (CY G),_,.inl ⟨⟨G,G2 _⟩,B⟩,
   G,_,Rd.ld E B (i:=1) (by rfl) (CY G),_,.inl ⟨⟨G,G2 _⟩,B⟩,G,?_⟩
  refine⟨G,_,Rd.ld E B (i:=2) (by rfl) (CY G),_,.inl ⟨⟨G,G2 _⟩,B⟩,G,?_⟩;refine⟨G,_,Rd.ld E B (i:=3) (by rfl) (CY G),_,.inl ⟨⟨G,G2 _⟩,B⟩,G,?_⟩;have xX:AA h (nb (nb (nb (nb (nb h))))):=AT (AT (AT (AT (AT (AA.refl h)))));obtain⟨X,hX⟩:∃X,X=nb (nb (nb (nb (nb h)))):=⟨_,B⟩;have au:X.nx=h.nx:=by rw[hX];simp only[nb,CL,BF]
  rw[←hX] at xX;obtain⟨n,ag⟩:∃n,n=(bs.getD 0 0).toNat|||(bs.getD 1 0).toNat*2^8|||(bs.getD 2 0).toNat*2^16|||(bs.getD 3 0).toNat*2^24:=⟨_,B⟩;obtain⟨w,hw⟩:∃w,w=(bs.getD 4 0).toNat:=⟨_,B⟩;have bc:w<256:=by rw[hw];exact hb 4
  have eN:JP .i64 (JP .i64 (JP .i64 ((bs.getD 0 0).toNat:Int) (Es .i64 ((bs.getD 1 0).toNat:Int) 8)) (Es .i64 ((bs.getD 2 0).toNat:Int) 16)) (Es .i64 ((bs.getD 3 0).toNat:Int) 24)=(n:Int):=by
   rw[s1,t1,s2,t2,s3,t3,ag]
  rw[←ag] at m3;obtain⟨g,b1,x1,o1,n1⟩:=H1 Ax 319 (.agg #[Vi n,Vi w,sN]) X.ad;rw[BF,au] at b1 o1;have P:=xX.trans x1.aa;have Q:Own (X.aa g) h.nx 319 [Vi n,Vi w,sN]:=o1.aa;clear o1 n1 x1;subst hX;have ah:K7 Ax 319 (.agg #[Vi (JP .i64 (JP .i64 (JP .i64 ((bs.getD 0 0).toNat:Int) (Es .i64 ((bs.getD 1 0).toNat:Int) 8)) (Es .i64 ((bs.getD 2 0).toNat:Int) 16)) (Es .i64 ((bs.getD 3 0).toNat:Int) 24)),Vi ((bs.getD 4 0).toNat:Nat),sN]) (nb (nb (nb (nb (nb h))))).ad=I (AG h.nx 0,g):=by rw[eN,←hw];exact b1
  refine⟨G,_,Rd.ld E B (i:=4) (by rfl) (CY G),_,.inl ⟨⟨G,G2 _⟩,B⟩,_,_,ah,?_⟩;clear ah b1;have cn:=Q.cell (i:=0) B;have cw:=Q.cell (i:=1) B;refine⟨[],Kq,_,ld B cn,Bz (λe1=>?_) (λe1=>?_)⟩
  .exact⟨P,.inl B⟩
  have ai:n<=1048576:=G;refine⟨_,ld B cw,Bz (λe2=>?_) (λe2=>?_)⟩
  .exact⟨P,.inl B⟩
  have aj:w<=64:=G;have h4:n*w<=1048576*64:=Cj ai aj;obtain⟨m,hm⟩:∃m,m=n*w:=⟨_,B⟩;have em:(n:Int)*(w:Int)=(m:Int):=by rw[hm];simp
  refine⟨_,ld B cn,_,ld B cw,⟨by rw[em];omega,by rw[em];omega⟩,?_⟩;rw[em];refine⟨Pq,⟨G,G,G,G⟩,Pq,Ad (λe3=>?_) (λe3=>?_)⟩
  .exact⟨P,.inl B⟩
  have e3:(a:Int)=5+((m:Int)+7)/8:=by simpa using e3
  have av:((m:Int)+63)/64=(((m+63)/64:Nat):Int):=G;obtain⟨c,R⟩:∃c,c=(nb (nb (nb (nb (nb h))))).aa g:=⟨_,B⟩;have aw:h.nx<c.nx:=by rw[R];exact Q.1
  obtain⟨F,e4,x2,o2,n2⟩:=MA (τ:=Ax) (t:=274) (e:=213) (z:=.int .u64 0) Kq Kq B ((m+63)/64) G .i64 .i64 c.ad;rw[BF] at o2 e4;have ak:AA c (c.aa F):=x2.aa;have al:Own (c.aa F) c.nx 213 (AE ((m+63)/64) (.int .u64 0)):=o2.aa;have am:=(R▸Q:Own c h.nx 319 _).ext ak;obtain⟨h3,s5,s6,s7⟩:=Own.st (h:=(c.aa F).ad) (τ:=Ax) (t:=274) B (i:=2) (v:=sL c.nx ((m+63)/64) ((m+63)/64)) am (by show 2<3;decide) B;have an:Own ((c.aa F).aa h3) h.nx 319 [Vi n,Vi w,sL c.nx ((m+63)/64) ((m+63)/64)]:=s6.aa;have o3:=al.ah s7.aa G;have x3:AA h ((c.aa F).aa h3):=((R▸P:AA h c).trans ak).ah s7.aa (Ae _);obtain⟨j,ax⟩:∃j,j=c.nx:=⟨_,B⟩;rw[←ax] at e4 s5 an o3 aw;clear o2 n2 al s6 s7 am;subst R;refine⟨[],Kq,_,ld B cn,_,ld B cw,⟨by rw[em];omega,by rw[em];omega⟩,?_⟩;rw[em];refine⟨Pq,⟨G,G,G,G⟩,?_⟩;rw[av];refine⟨_,_,e4,_,s5,?_⟩;obtain⟨v5,r4,r5,r6⟩:=rr.slice (τ:=Ax) (t:=62) Kq (lo:=I (Vi 5)) (U:=Z) (l:=5) (m:=a) B B G G;rw[BJ,BJ,EA,Ez] at r5;obtain⟨cs,ad⟩:∃cs,cs=(bs.drop 5).take (a-5):=⟨_,B⟩;rw[←ad] at r5;have bd:cs.length=a-5:=by rw[ad];simp;omega
  clear ad r6;obtain⟨ay,K,M,rfl,az,a0,a2⟩:=r5;have a3:∀H,CN H (C7 Ax 62 (.slice (I a1) a D) (I (Vi 5)) Z Z)=I (.slice K (a-5) M,H):=λH=>by rw[r4];rfl
  refine⟨_,_,a3 _,?_⟩;refine⟨λN A b=>∃(k:Nat) (ws:Bo),A=[(0,.slice (I a1) a D),(4,AG h.nx 0),(87,.slice K (a-5) M),(88,Vi (a-5:Nat)),(89,Vi k)]/\k<=a-5/\N=a-5-k/\ws.length=(m+63)/64/\(∀x∈ws,x<18446744073709551616)/\AA h b/\
   Own b h.nx 319 [Vi n,Vi w,sL j ((m+63)/64) ((m+63)/64)]/\Own b j 213 (ws.map λx:Nat=>AL .u64 x),
   ⟨_,_,Sq,?_,0,AE ((m+63)/64) 0,B,Al _,B,by simp,λx o=>by rw[CH o];omega,x3,an,by rw[KD];exact o3⟩,?_⟩
  .omega
  rintro N A b ⟨k,ws,rfl,hk,rfl,u,ao,T,s,V⟩ a4;apply Bz<;>intro e
  .have rv:Rd b (.slice K (a-5) M) 1 (a-5) (Ay cs):=(show Rd h (.slice K (a-5) M) 1 (a-5) (Ay cs) from⟨ay,K,M,B,az,a0,a2⟩).ext T
   obtain⟨be,z2,e9,_,q2⟩:=rv.at_ G;cases e9;have hq:k/8<ws.length:=by rw[u];omega
   have bf:=Pd (cs.getD k 0);have W:0+((k:Int)/8).toNat*t213.size=k/8:=by show 0+_*1=_;omega
   have l1:Bw Ax 213 b j (0+((k:Int)/8).toNat*t213.size)=I (.int .u64 (ws.getD (k/8) 0:Nat)):=by rw[W];exact ld B (V.cell (G5 hq))
   obtain⟨y,hy⟩:∃y,y=W4 (ws.getD (k/8) 0:Nat) (Es .u64 ((cs.getD k 0).toNat:Int) ((k:Int)%8*8)):=⟨_,B⟩;obtain⟨h5,u5,O,u7⟩:=Own.st (h:=b) (τ:=Ax) (t:=213) B (i:=k/8) (v:=.int .u64 (y:Nat)) V (by simpa using hq) B;rw[←Cp] at O;refine⟨G,_,Rd.ld q2 B (i:=k) (by show _*1=_;omega) (CY G),_,ld B (s.cell (i:=2) B),⟨G,G,G,G⟩,G,_,l1,_,.inl Pq,G,Pq,_,.inl Pq,G,G,h5,(by rw[W,Xu,←hy];exact u5),Pq,?_⟩;refine⟨_,_,Sq,?_,k+1,_,B,G,B,?_,?_,?_,s.ah u7 G,O⟩
   .omega
   .simp[u]
   .rw[hy];exact TS ao _ _ _
   .exact T.ah u7 G
  obtain rfl:k=a-5:=G;obtain⟨h6,v1,v2,v3,v4⟩:=MA (τ:=Ax) (t:=274) (e:=213) (z:=.int .u64 0) Kq Kq B n G .i64 .i64 b;have bg:=s.1;have bh:=V.1;have y2:AA h h6:=T.trans v2;have pk:BX b h.nx n w ws:=by
   refine⟨s.cell B,s.cell B,ai,aj,⟨_,s.cell B,?_⟩,by rw[u,hm],ao⟩;have:AS b j 213 1 (sL j ((m+63)/64) ((m+63)/64)) ws.length (ws.map λx:Nat=>AL .u64 x):=
    ⟨by simp,.inr ⟨j,_,[],by rw[u],Ae _,by rw[u];exact Ae _,by simp[u],by simpa using V⟩⟩
   exact this.rd
  refine⟨_,ld B (s.cell (i:=0) B),_,_,v1,?_⟩;refine⟨λN A f=>∃(k:Nat) (l:Bo),A=[(0,.slice (I a1) a D),(4,AG h.nx 0),(7,sL b.nx n n),(118,Vi n),(119,Vi k)]/\k<=n/\N=n-k/\l.length=n/\(∀x∈l,x<18446744073709551616)/\B0 (·=b.nx) h6 f/\Own f b.nx 213 (l.map λx:Nat=>AL .u64 x),
   ⟨_,_,Sq,?_,0,AE n 0,B,Al _,B,by simp,λx o=>by rw[CH o];omega,(AA.refl _).ae _,by rw[KD];exact v3⟩,?_⟩
  .omega
  rintro N A f ⟨k,l,rfl,hk,rfl,aa,ap,f1,f2⟩ a4;have x7:AA b f:=v2.then f1 λi U=>by rw[U];omega
  apply Bz<;>intro e
  .have hz:=FM ws w k
   obtain⟨z,a5⟩:∃z:Nat,E1 ws w k=z:=⟨(E1 ws w k).toNat,G⟩;have W:0+((k:Int)).toNat*t213.size=k:=by show 0+_*1=_;omega
   obtain⟨h8,u5,O,u7⟩:=Own.st (h:=f) (τ:=Ax) (t:=213) B (i:=k) (v:=.int .u64 (z:Nat)) f2 (by simp;omega) B;rw[←Cp] at O;refine cl (Aqv C (pk.ext x7) (i:=k) G) ?_;rintro _ f ⟨rfl,rfl⟩;refine⟨G,h8,(by rw[W,a5];exact u5),Pq,?_⟩;refine⟨_,_,Sq,?_,k+1,_,B,G,B,?_,?_,f1.trans u7.ae,O⟩
   .omega
   .simp[aa]
   .intro x o
    rcases BT o with o|rfl
    .exact ap x o
    .omega
  obtain rfl:k=n:=G;have rl:Rd f (sL b.nx k k) 1 l.length (l.map λx:Nat=>AL .u64 x):=by
   have:AS f b.nx 213 1 (sL b.nx k k) l.length (l.map λx:Nat=>AL .u64 x):=
    ⟨by simp,.inr ⟨b.nx,_,[],by rw[aa],Ae _,by rw[aa];exact Ae _,by simp[aa],by simpa using f2⟩⟩
   exact this.rd
  have ab:AA h f:=T.trans x7;refine cl (Aqg C rl ap G) ?_;rintro o9 h9 ⟨x9,⟨_,rfl⟩|⟨_,q,w9,rfl,p9,a6⟩⟩
  .exact⟨ab.trans x9,.inl B⟩
  .have a7:=ab.trans x9
   refine cl (Apt C p9) ?_;rintro bi a8 ⟨ae,bj,bk,a9⟩;have af:=a7.trans ae;refine cl (Adk C a9.rd (rr.ext af)) ?_;rintro _ a8 ⟨rfl,rfl⟩;refine⟨_,_,B,Ad (λe5=>?_) (λe5=>?_)⟩
   .exact⟨af,.inl B⟩
   .exact⟨af,.inr ⟨q,_,_,_,Ao ab.nx w9,B,p9.ext ae,a6.to p9 ae ab.nx⟩⟩
def VG (z:Int):IntKind.wrap .u32 z=z%4294967296:=by simp[IntKind.wrap,IntKind.bits,IntKind.signed]
def T7 (a b:Int):∃y:Nat,y<4294967296/\Oe .u32 a b=(y:Int):=by
 refine⟨(Oe .u32 a b).toNat,?_,?_⟩<;>(unfold Oe;rw[VG];omega)
def Aoi (a:Int):∃y:Nat,y<16/\D8 .u32 a 15=(y:Int):=by
 refine⟨(BitVec.ofInt 32 a&&&BitVec.ofInt 32 15).toNat,?_,?_⟩
 .rw[BitVec.toNat_and]
  exact Ji Apg Jq
 .unfold D8
  rw[VG];show((BitVec.ofInt 32 a&&&BitVec.ofInt 32 15).toNat:Int)%4294967296=_;omega
def Zm (b:a<4294967296):∃y:Nat,y<4294967296/\DN .u32 (a:Int) 4=(y:Int):=by
 refine⟨a/16,G,?_⟩;show(a:Int).fdiv (2^4)=_;rw[Int.fdiv_eq_ediv_of_nonneg _ Jq];omega
def G3 (h:Y):Prop:=∀i,i<16->∃x:Nat,x<4294967296/\Cell h 5 i (.int .u32 x)
def G3.ext (q:G3 h) (e:AA h J):G3 J:=λi U=>by
 obtain⟨x,h1,a⟩:=q i U;exact⟨x,h1,a.ext e⟩
def ADs (u:Base S L) {s:Nat} (q:G3 h) (hs:s<4294967296) (r:Rd h v 1 n (Ay bs)) (hn:n<=100000000):
 Bk S L 1 256 [.int .u32 s,v] h λw J=>(∃x:Nat,x<4294967296/\w=.int .u32 x)/\J=h:=
 Cn f256 u λd ab hL=>by
  obtain⟨j,f,g,rfl,y,C,D⟩:=r;have E:Rd h (.slice f n g) 1 n (Ay bs):=⟨j,f,g,B,y,C,D⟩;have ad:bs.length=n:=by rw[A7] at j;omega
  refine⟨_,_,B,λm A a=>a=h/\∃(k x:Nat),A=[(5,.int .u32 x),(10,.slice f n g),(11,Vi n),(12,Vi k)]/\k<=n/\m=n-k/\x<4294967296,
   ⟨_,_,Sq,?_,B,0,_,B,Al _,B,?_⟩,?_⟩
  .omega
  .exact Je _ Jq
  rintro m A a ⟨rfl,k,x,rfl,hk,rfl,hx⟩ ae;apply Bz<;>intro e
  .obtain⟨a1,y1,F,_,H⟩:=E.at_ G
   cases F;have hb:=Pd (bs.getD k 0);obtain⟨K,M,i⟩:=T7 (x:Int) ((bs.getD k 0).toNat:Int);obtain⟨b,N,O⟩:=Aoi (K:Int);obtain⟨t1,af,P⟩:=q b N;obtain⟨Q,ag,o⟩:=Zm M;obtain⟨R,T,p⟩:=T7 (Q:Int) (t1:Int);obtain⟨c,V,W⟩:=Aoi (R:Int);obtain⟨t2,ah,X⟩:=q c V;obtain⟨w2,ai,e6⟩:=Zm T;obtain⟨t,aa,e7⟩:=T7 (w2:Int) (t2:Int);have f1:D8 .u32 (Oe .u32 (x:Int) ((bs.getD k 0).toNat:Int)) 15=(b:Int):=by rw[i,O]
   have f2:D8 .u32 (Oe .u32 (DN .u32 (Oe .u32 (x:Int) ((bs.getD k 0).toNat:Int)) 4) (t1:Int)) 15=(c:Int):=by rw[i,o,p,W]
   have l1:Bw Ax 301 a 5 (0+(D8 .u32 (Oe .u32 (x:Int) ((bs.getD k 0).toNat:Int)) 15).toNat*t301.size)=I (.int .u32 t1):=by
    rw[f1];show Bw Ax 301 a 5 (0+(b:Int).toNat*1)=_;rw[show 0+(b:Int).toNat*1=b by omega];exact ld B P
   have l2:Bw Ax 301 a 5 (0+(D8 .u32 (Oe .u32 (DN .u32 (Oe .u32 (x:Int) ((bs.getD k 0).toNat:Int)) 4) (t1:Int)) 15).toNat*t301.size)=I (.int .u32 t2):=by
    rw[f2];show Bw Ax 301 a 5 (0+(c:Int).toNat*1)=_;rw[show 0+(c:Int).toNat*1=c by omega];exact ld B X
   refine⟨G,_,Rd.ld H B (by show _*1=_;omega) (CY G),_,.inl ⟨⟨by omega,by omega⟩,B⟩,G,Jq,_,l1,G,Jq,_,l2,Pq,_,_,CG (l:=[(5,_),(10,_),(11,_),(12,_)]) ⟨Cs (λz=>I (AL .u32 z)) (show Oe .u32 (DN .u32 (Oe .u32 (DN .u32 (Oe .u32 (x:Int) ((bs.getD k 0).toNat:Int)) 4) (t1:Int)) 4) (t2:Int)=(t:Int) by rw[i,o,p,e6,e7]),B,B,B,trivial⟩,?_,B,k+1,t,B,G,B,aa⟩;omega
  .exact⟨_,_,B,⟨_,Je _ (by decide),B⟩,B⟩
def ADv (a:Base S L) (q:G3 h) (r:Rd h v 1 n (Ay bs)) (b:n<=100000000):
 Bk S L 2 187 [v] h λw J=>(∃x:Nat,x<4294967296/\w=.int .u32 x)/\J=h:=
 Cn f187 a λd e _=>by
  refine⟨_,ADs (s:=0) a q G r b d G,?_⟩;rintro _ h ⟨⟨x,c,rfl⟩,rfl⟩;exact⟨⟨x,c,B⟩,B⟩
def Rd.bu (r:Rd h v k n xs):MM v=I n:=by
 obtain⟨h1,A,c,rfl,d,b,e⟩:=r;cases A with
 |none=>
  have:=b B;subst this;have:n=0:=G;subst this;rfl
 |some a=>rfl
def Rd.src (r:Rd h v k n xs):MN k h v n=I xs:=by
 obtain⟨h1,A,c,rfl,i,d,e⟩:=r;cases A with
 |
  none=>
  have:=d B;subst this;have:n=0:=G;subst this;simp at h1;subst h1;rfl
 |
  some a=>
  obtain⟨j,l,m,o,lo,U,x,f,g⟩:=e a B;have b:=HQ g;rw[h1] at b;simp[MN,f,b]
def Fa (bs:Bl):(Ay bs).all one=true:=by
 rw[Jf];intro v a;obtain⟨b,_,rfl⟩:=List.mem_map.1 a;rfl
def Z0 (h:Y) (N:Nat) (e:Ai) (v:Aa) (n:Nat) (xs:AH):Prop:=
 (v=.slice Z 0 0/\n=0/\xs=[])\/∃b sp,v=.slice (I ⟨b,0,I 0⟩) n n/\N<=b/\xs.length=n/\Own h b e (xs++sp)
def ACe (g:Base S L) (r:Rd h v 1 n (Ay bs)) (l:n<=100000000):
 Bk S L 1 248 [v] h λw J=>AA h J/\AS J h.nx 5 1 w n (Ay bs):=
 Cn f248 g λd m _=>by
  obtain⟨h1,A,c,rfl,j,e,k⟩:=r;cases A with
  |
   none=>
   have:=e B;subst this;have:n=0:=G;subst this;rw[(by simpa using h1:Ay bs=[])];exact⟨_,B,AA.refl _,AS.nil _ _ _ _⟩
  |
   some a=>
   have r:Rd h (.slice (I a) n c) 1 n (Ay bs):=⟨h1,_,c,B,j,e,k⟩;have b:=AA.row h 5 [];have f:=r.ext b;have o:AS (BN h 5 []) h.nx 5 1 (sL h.nx 0 0) 0 []:=⟨B,.inr ⟨h.nx,0,[],B,Ae _,Ae _,B,Own.row h 5 []⟩⟩;obtain⟨v',J,t1,t2,t3,t4⟩:=UN Kq o f.bu f.src Jq (Fa bs) b.nx G;refine⟨_,B,_,_,B,_,_,t1,b.then t3 (λi U=>by have:i=h.nx:=U;omega),?_⟩
   rw[IW,Ba] at t2;exact t2
def ABf (e:Base S L) (o:AS h N 5 1 v n (Ay bs)) (k:n<=100000000):
 Bk S L 1 247 [v] h λw J=>Z0 h N 5 w n (Ay bs)/\J=h:=
 Cn f247 e λd l _=>by
  obtain⟨a,⟨rfl,rfl⟩|⟨b,c,sp,rfl,f,g,m,i⟩⟩:=o
  .have hb:Ay bs=[]:=by simpa using a
   refine⟨_,_,B,.inl ⟨B,B,hb⟩,B⟩
  .have j:C7 Ax 62 (sL b n c) Z (I (Vi n)) (I (Vi n))=I (.slice (I ⟨b,0,I 0⟩) n n):=by
    show(bif Ar 0 n&&Ar n n&&Ar n c then I (PA (I ⟨b,0+0*1,I 0⟩) (n-0) (n-0)) else Z)=_
    rw[Aq (Al n),Aq (Ae n),Aq g];rfl
   refine⟨_,_,(λH=>by rw[j];rfl:∀H,CN H (C7 Ax 62 (sL b n c) Z (I (Vi n)) (I (Vi n)))=I (.slice (I ⟨b,0,I 0⟩) n n,H)) _,.inr ⟨b,sp,B,f,by simpa using a,i⟩,B⟩
def Azy (a:G1 τ st t2 e 1=Ag) {x:Aa} (o:Z0 h N e v n xs) (c:MM x=I m) (d:MN 1 h x m=I ys)
 (w:ys.length=m) (h1:ys.all one=Ag) (f:N<=h.nx) (y:0<m) (hb:n+m<=1000000000):
 ∃v' J,Bx τ .append [st,t2] [v,x] h=I (v',J)/\AS J N e 1 v' (n+m) (xs++ys)/\AA h J:=by
 obtain⟨rfl,rfl,rfl⟩|⟨b,sp,rfl,A,j,l⟩:=o
 .obtain⟨v',J,t1,t2,t3,t4⟩:=UN a (AS.nil h N e 1) c d Jq h1 f hb
  exact⟨v',J,t1,t2,(AA.refl h).then t3 λi U=>U.elim⟩
 .obtain⟨t1,p,i,z,t3,t4,t5,t6,t7,t8,t9⟩:=In a
  suffices H:∃v' J,Gj τ [st,t2] [.slice (I ⟨b,0,I 0⟩) n n,x] h=I (v',J)/\AS J N e 1 v' (n+m) (xs++ys)/\AA h J by
   obtain⟨v',J,q,r⟩:=H;exact⟨v',J,by simp[Bx,q],r⟩
  have s:Ar (n+m) n=false:=by
   cases t:Ar (n+m) n with
   |false=>rfl
   |true=>have:=Ac t;omega
  obtain⟨C,D,u,g⟩:=l.bx (off:=0) (k:=n*1) Jq;rw[(by rw[Ajb,BJ,←j,List.take_left]:((xs++sp).drop 0).take (n*1)=xs)] at g;unfold Gj;simp only[List.head?_cons,p,I0,t1,t3,c,t4,t5,d,t7,t8,(by rw[h1];rfl:(AD 0 1&&ys.all one&&Am 1 1&&Ag)=Ag),D1,s,M2 hb t9,Bool.and_self,u,(by simp:Am e e=Ag),g];refine⟨_,_,B,⟨Jq,.inr ⟨h.nx,n+m,[],B,f,Ae _,Jq,?_⟩⟩,AA.a4 h e _⟩;rw[Fb];exact Own.a4 h e _
def Z0.ext {e:Ai} (o:Z0 h N e v n xs) (x:AA h J):Z0 J N e v n xs:=by
 obtain h1|⟨b,sp,h1,a,c,d⟩:=o
 .exact .inl h1
 .exact .inr ⟨b,sp,h1,a,c,d.ext x⟩
def Aul (h:Y) (N:Nat) (v:Aa) (n:Nat) (bs:Bl):Prop:=Z0 h N 5 v n (Ay bs)\/AS h N 5 1 v n (Ay bs)
def Awv (o:Aul h N v n bs) (b:UInt8) (c:N<=h.nx) (hb:n+1<=1000000000):
 ∃v' J,Bx Ax .append [62,62] [v,sL h.nx 1 1] (BN h 5 [.int .u8 (b.toNat:Int)])=I (v',J)/\AS J N 5 1 v' (n+1) (Ay (bs++[b]))/\(∀h0,AA h0 h->h0.nx<=N->AA h0 J):=by
 rcases o with o|o
 .have a:=AA.row h 5 [.int .u8 (b.toNat:Int)]
  obtain⟨v',J,t1,t2,t3⟩:=Azy Kq (o.ext a) (x:=sL h.nx 1 1) (ys:=Ay [b]) B
   (by rw[Il (Own.row h 5 [.int .u8 (b.toNat:Int)]) (by show 0+1*1<=1;omega)];rfl) B B (Ao c a.nx) G hb
  rw[←Ee] at t2;exact⟨v',J,t1,t2,λh0 x _=>(x.trans a).trans t3⟩
 .obtain⟨v',J,t1,t2,t3,t4⟩:=Apn o b c hb
  exact⟨v',J,t1,t2,λh0 x d=>x.then t3 λi U=>Ao d (o.ai i U)⟩
def Anq (a b:Int):∃y:UInt8,JP .u8 a b=(y.toNat:Int):=by
 obtain⟨y,c⟩:=DH ((BitVec.ofInt IntKind.u8.bits a|||BitVec.ofInt IntKind.u8.bits b).toNat:Int);exact⟨y,c⟩
def R5 (f:Base S L) (r:Rd h v 1 n (Ay bs)) (i:n<=100000000) (C:x<18446744073709551616):
 Bk S L 2 177 [v,.int .u64 x] h λw J=>AA h J/\∃m,m<=60/\∃cs:Bl,AS J h.nx 5 1 w (n+m) (Ay (bs++cs)):=
 Cn f177 f λd D E=>by
  refine⟨_,ACe f r i d G,?_⟩;rintro F h1 ⟨p,q⟩;refine⟨_,ABf f q i d G,?_⟩;rintro s h1 ⟨H,rfl⟩;refine⟨λj A a=>∃(k y:Nat) (cv:Aa) (cs:Bl),A=[(0,cv),(1,.int .u64 y)]/\y*2^k<=x/\k<=58/\j=58-k/\Aul a h.nx cv (n+k) (bs++cs)/\AA h a,
   ⟨_,_,Sq,?_,0,x,s,[],B,G,G,B,.inl Jq,p⟩,?_⟩
  .omega
  rintro j A a ⟨k,y,cv,cs,rfl,K,M,rfl,o,c⟩ N;apply Bz<;>intro e
  .have O:k<=57:=by
    rcases A8 k 58 with h|h
    .omega
    .have h1:2^58<=2^k:=Na G h
     have t:128*2^58<=y*2^k:=Cj G h1;omega
   obtain⟨c1,g⟩:=DH (y:Int);obtain⟨b,hb⟩:=Anq (c1.toNat:Int) 128;have u:=c.nx;obtain⟨v',J,t1,t2,t3⟩:=Awv o b u G;refine⟨_,.inr g.symm,_,_,(by rw[hb];exact bsB b a:Bs Ax 62 1 [(0,.int .u8 (JP .u8 (c1.toNat:Int) 128))] a=I (sL a.nx 1 1,BN a 5 [.int .u8 (b.toNat:Int)])),_,_,t1,G,_,_,CG (l:=[(0,_),(1,_)]) ⟨B,Cs (λz=>I (AL .u64 z)) (Fo (m:=7) B (by omega)),trivial⟩,?_,k+1,y/2^7,v',cs++[b],B,?_,G,B,.inr ?_,t3 h c (Ae _)⟩
   .omega
   .have h1:y/2^7*2<=y:=G
    have t:y/2^7*2*2^k<=y*2^k:=Ci _ h1;rw[(by rw[Nat.pow_succ,UI]:2^(k+1)=2*2^k),←Ajd];omega
   .rw[←KA];exact t2
  .obtain⟨c1,g⟩:=DH (y:Int)
   obtain⟨v',J,t1,t2,t3⟩:=Awv o c1 c.nx G;refine⟨_,.inr g.symm,_,_,bsB c1 a,_,_,t1,t3 h c Jq,k+1,G,cs++[c1],?_⟩;rw[←KA];exact t2
def Zp (s:Bd):MN 1 h (.string s) s.size=I (Ay s.data.toList):=by
 show(bif Am 1 1 then I ((s.data.toList.take s.size).map λb=>AL .u8 b.toNat) else Z)=_
 have:s.data.toList.take s.size=s.data.toList:=Bj (by rw[EZ];exact Ae _);rw[this];rfl
def Avn (a:Base S L) (r:Rd h v 1 n (Ay bs)) (e:n<=100000000) (f:s.size<=100000000):
 Bk S L 3 178 [v,.string s] h λw J=>AA h J/\∃m,m<=60+s.size/\∃cs:Bl,AS J h.nx 5 1 w (n+m) (Ay (bs++cs)):=
 Cn f178 a λd g _=>by
  refine⟨_,.inl Pq,_,R5 a r e G d G,?_⟩;rintro j h1 ⟨b,m,k,cs,c⟩;obtain⟨v',J,t1,t2,t3,t4⟩:=UN Kq c B (Zp s) (by simp[Ay]) (Fa _) b.nx G;refine⟨_,_,t1,b.then t3 λi U=>c.ai i U,m+s.size,G,cs++s.data.toList,?_⟩
  rw[←KA,Ee (bs++cs),←DD];exact t2
def bs4 (a b c d:Int) (h:Y):Bs Ax 62 4 [(0,.int .u8 a),(1,.int .u8 b),(2,.int .u8 c),(3,.int .u8 d)] h=
 I (sL h.nx 4 4,BN h 5 [.int .u8 a,.int .u8 b,.int .u8 c,.int .u8 d]):=by
 rfl
def Auy (f:Base S L) (q:G3 h) (r:Rd h v 1 n (Ay bs)) (g:n<=100000000):
 Bk S L 3 111 [v] h λw J=>AA h J/\∃cs:Bl,AS J h.nx 5 1 w 4 (Ay cs):=
 Cn f111 f λd m _=>by
  refine⟨_,ADv f q r g d G,?_⟩;rintro _ h ⟨⟨x,o,rfl⟩,rfl⟩;obtain⟨a,i⟩:=DH (x:Int);obtain⟨b,j⟩:=DH (DN .u32 (x:Int) 8);obtain⟨c,k⟩:=DH (DN .u32 (x:Int) 16);obtain⟨e,l⟩:=DH (DN .u32 (x:Int) 24);refine⟨_,.inr i.symm,G,_,.inr j.symm,G,_,.inr k.symm,G,_,.inr l.symm,_,_,bs4 _ _ _ _ _,AA.row h 5 (Ay [a,b,c,e]),[a,b,c,e],B,.inr ⟨h.nx,4,[],B,Ae _,Ae _,B,Own.row h 5 (Ay [a,b,c,e])⟩⟩
def Avs (g:Base S L) (r:Rd h v 1 n (Ay bs)) (l:n<=100000000):
 Bk S L 1 189 [v] h λw J=>AA h J/\AS J h.nx 5 1 w n (Ay bs):=
 Cn f189 g λd m _=>by
  obtain⟨h1,A,c,rfl,j,e,k⟩:=r;cases A with
  |
   none=>
   have:=e B;subst this;have:n=0:=G;subst this;rw[(by simpa using h1:Ay bs=[])];exact⟨_,B,AA.refl _,AS.nil _ _ _ _⟩
  |
   some a=>
   have r:Rd h (.slice (I a) n c) 1 n (Ay bs):=⟨h1,_,c,B,j,e,k⟩;have b:=AA.row h 5 [];have f:=r.ext b;have o:AS (BN h 5 []) h.nx 5 1 (sL h.nx 0 0) 0 []:=⟨B,.inr ⟨h.nx,0,[],B,Ae _,Ae _,B,Own.row h 5 []⟩⟩;obtain⟨v',J,t1,t2,t3,t4⟩:=UN Kq o f.bu f.src Jq (Fa bs) b.nx G;refine⟨_,B,_,_,B,_,_,t1,b.then t3 (λi U=>by have:i=h.nx:=U;omega),?_⟩
   rw[IW,Ba] at t2;exact t2
def ADt (b:Base S L):Bk S L 1 315 [.int .i32 z] h λw J=>w=.bool (decide (z<97\/122<z))/\J=h:=
 Cn f315 b λd c _=>by
  refine Bz (λe=>?_) (λe=>?_)
  .refine⟨?_,B⟩
   rw[decide_eq_true Jq];rfl
  .refine⟨?_,B⟩
   by_cases a:122<z
   .rw[decide_eq_true (show z<97\/122<z from .inr a)]
    show CU (decide (122<z))=_;rw[decide_eq_true a]
   .rw[decide_eq_false (show¬(z<97\/122<z) by omega)]
    show CU (decide (122<z))=_;rw[decide_eq_false a]
def BK (h:Y) (b off:Nat) (xs:AH):Prop:=b<h.nx/\∃c n e lo U x,h.t.get b=I (.cells c n e lo U x)/\∀i u,xs[i]?=I u->c.get (off+i)=I u
def BK.ae (c:BK h b off xs) (e:B0 W h J) (a:¬W b):BK J b off xs:=by
 obtain⟨hb,y⟩:=c;exact⟨AC hb e.nx,by rw[e.t b hb a];exact y⟩
def BK.ext (c:BK h b off xs) (e:AA h J):BK J b off xs:=c.ae (e.ae λ_=>False) λh=>h
def Own.cells {e:Ai} (o:Own h b e xs):BK h b 0 xs:=by
 obtain⟨hb,c,x,h1,a⟩:=o;exact⟨hb,c,_,_,_,_,_,h1,λi u d=>by rw[Ba];exact a i u d⟩
def Rd.el (r:Rd h v k n xs) (U:i<n):∃a c,v=.slice (I a) n c/\n<=c/\BK h a.block (a.off+i*k) ((xs.drop (i*k)).take k):=by
 obtain⟨h1,A,c,rfl,d,e,f⟩:=r;cases A with
 |none=>have:=e B;omega
 |
  some a=>
  obtain⟨g,l,m,o,lo,p,x,q,s⟩:=f a B;refine⟨a,c,B,d,g,l,m,o,lo,p,x,q,λj u b=>?_⟩;rw[DD];refine s _ u ?_;rw[LS] at b;split at b
  .rw[Eg] at b;exact b
  .cases b
def ZX (τ:Bb) (t k:Nat):Bool:=match τ.ds.get t,τ.aj.get t with
 |some d,I i=>J5 d&&Am i.size k
 |_,_=>Ah
def EQ {t:Nat} (a:ZX τ t k=Ag) (c:BK h b off xs) (f:xs.length=k):Bw τ t h b off=I (.agg ⟨xs⟩):=by
 unfold ZX at a;split at a
 .rename_i d i g U
  rw[An] at a;obtain⟨_,l,n,e,lo,m,x,h1,j⟩:=c;have:=HQ j;rw[f,←Af a.2] at this;unfold Bw;simp[h1,g,a.1,D1,U,this]
 .cases a
def Own.bD {t:Nat} (a:ZX τ t k=Ag) {e:Ai} (o:Own h b e xs) (c:vs.length=k) (f:i+k<=xs.length) (h1:vs.all one=Ag):
 ∃J,BA τ t h b i (.agg ⟨vs⟩)=I J/\Own J b e (I2 xs i vs)/\Er b h J:=by
 unfold ZX at a;split at a
 .rename_i d n p U
  rw[An] at a;obtain⟨J,g,j,l⟩:=o.bb (by rw[c];exact f) h1;refine⟨J,?_,j,l⟩;unfold BA;have m:AJ (.agg ⟨vs⟩)=vs:=rfl;simp only[U,m,c,Af a.2,g];simp
 .cases a
structure DQ where
 nm:Bd
 dv:Aa
 db:Bl
def Fj (p:DQ):AH:=[.string p.nm,p.dv]
def EC (h:Y) (v:Aa) (ps:List DQ):Prop:=Rd h v 2 ps.length (ps.flatMap Fj)/\∀p∈ps,p.nm.size<=100000000/\p.db.length<=16777216/\Rd h p.dv 1 p.db.length (Ay p.db)
def EC.ext {ps:List DQ} (p:EC h v ps) (e:AA h J):EC J v ps:=
 ⟨p.1.ext e,λq a=>⟨(p.2 q a).1,(p.2 q a).2.1,(p.2 q a).2.2.ext e⟩⟩
def Vo (ps:List DQ) {p:DQ} (U:ps[i]?=I p):((ps.flatMap Fj).drop (i*2)).take 2=Fj p:=by
 induction ps generalizing i with
 |nil=>cases U
 |
  cons q ps a=>
  cases i with
  |zero=>cases U;rfl
  |
   succ i=>
   have:=a Jq;rw[show(i+1)*2=i*2+2 by omega];exact this
def U9 (h:Y) (p:DQ) (c:one p.dv=Ag):∃h1,K7 Ax 203 (.agg #[.string ⟨#[]⟩,.slice Z 0 0]) h=I (AG h.nx 0,h1)/\h1.nx=h.nx+1/\AA h h1/\∃a,BA Ax 203 h1 h.nx 0 (.agg ⟨Fj p⟩)=I a/\AA h a/\Own a h.nx 203 (Fj p):=by
 obtain⟨h1,d,b,e,f⟩:=H1 Ax 203 (.agg #[.string ⟨#[]⟩,.slice Z 0 0]) h;obtain⟨a,g,i,j⟩:=e.bD Kq (vs:=Fj p) B (by show 0+2<=2;decide) (by show(one _&&(one p.dv&&Ag))=Ag;rw[c];rfl);exact⟨h1,d,f,b,a,g,b.ah j (Ae _),i⟩
def Rd.one (r:Rd h v k n xs):one v=true:=by
 obtain⟨_,A,c,rfl,_⟩:=r;rfl
def AS.mono {M:Nat} {e:Ai} (o:AS h N e k v n xs) (d:M<=N):AS h M e k v n xs:=by
 obtain⟨h1,a|⟨b,c,sp,a,f,g⟩⟩:=o
 .exact⟨h1,.inl a⟩
 .exact⟨h1,.inr ⟨b,c,sp,a,Ao d f,g⟩⟩
def ACf (j:Base S L) {ps:List DQ} (p:EC h v ps) (P:ps.length<=1000000):
 Bk S L 2 116 [v,.string s] h λw J=>AA h J/\(w=.tuple #[.slice Z 0 0,.bool Ah]\/∃q∈ps,∃o,w=.tuple #[o,.bool Ag]/\AS J h.nx 5 1 o q.db.length (Ay q.db)):=
 Cn f116 j λd Q R=>by
  obtain⟨r,u⟩:=p;obtain⟨x,b,c,rfl,y,z,C⟩:=r;have D:Rd h (.slice b ps.length c) 2 ps.length (ps.flatMap Fj):=⟨x,b,c,B,y,z,C⟩;refine⟨λl A f=>∃k:Nat,A=[(1,.string s),(8,.slice b ps.length c),(9,Vi ps.length),(10,Vi k)]/\k<=ps.length/\l=ps.length-k/\AA h f,
   ⟨_,_,Sq,?_,0,B,Al _,B,AA.refl _⟩,?_⟩
  .omega
  rintro l A f ⟨k,rfl,T,rfl,g⟩ V;apply Bz<;>intro e
  .have m:k<ps.length:=G
   have i:=Ab m;obtain⟨q,E⟩:∃q,q=ps[k]:=⟨_,B⟩;rw[←E] at i;have n:=AZ i;obtain⟨W,X,t⟩:=u q n;obtain⟨a1,y1,F,_,H⟩:=(D.ext g).el m;cases F;rw[Vo ps i] at H;obtain⟨h1,t2,t3,t4,h2,t5,t6,t7⟩:=U9 f q t.one;have a:=g.trans t6;refine⟨G,_,EQ Kq Jq B,_,_,t2,_,t5,_,ld B (t7.cell B),_,B,Ad (λK=>?_) (λK=>?_)⟩
   .refine⟨_,ld B (t7.cell B),_,Avs j (t.ext a) G d G,?_⟩
    rintro M h5 ⟨N,O⟩;refine⟨a.trans N,.inr ⟨q,n,M,B,O.mono a.nx⟩⟩
   .refine⟨Pq,_,_,Sq,?_,k+1,B,G,B,a⟩
    omega
  .exact⟨g,.inl B⟩
def Aux (a:Base S L) (p:Cell h b 0 (Vi n)):Bk S L 1 165 [AG b 0] h λv J=>v=Vi n/\J=h:=
 Cn f165 a λd c _=>by
  refine⟨_,B,_,ld B p,B,B⟩
def Ajv (c:Base S L) (p:Cell h b 0 (Vi n)) {i:Int}:Bk S L 2 186 [AG b 0,Vi i] h λv J=>v=.bool (decide (0<=i/\i<n))/\J=h:=
 Cn f186 c λd f _=>by
  refine Bz (λe=>?_) (λe=>?_)
  .refine GZ (Aux c p d G) ?_
   refine⟨?_,B⟩;by_cases a:i<n
   .rw[decide_eq_true (show 0<=i/\i<(n:Int) from⟨e,a⟩)]
    show CU (decide (i<(n:Int)))=_;rw[decide_eq_true a]
   .rw[decide_eq_false (show¬(0<=i/\i<(n:Int)) by omega)]
    show CU (decide (i<(n:Int)))=_;rw[decide_eq_false a]
  .refine⟨?_,B⟩
   rw[decide_eq_false Jq];rfl
def Awp (b:Base S L) {i:Int}:Bk S L 1 185 [Vi i] h λv J=>v=.bool (decide (0<=i/\i<=30000))/\J=h:=
 Cn f185 b λd c _=>by
  refine Bz (λe=>?_) (λe=>?_)
  .refine⟨?_,B⟩
   by_cases a:i<=30000
   .rw[decide_eq_true (show 0<=i/\i<=30000 from⟨e,a⟩)]
    show CU (decide (i<=30000))=_;rw[decide_eq_true a]
   .rw[decide_eq_false (show¬(0<=i/\i<=30000) by omega)]
    show CU (decide (i<=30000))=_;rw[decide_eq_false a]
  .refine⟨?_,B⟩
   rw[decide_eq_false Jq];rfl
def C9 (a b:Int):Value:=.agg #[.int .i64 a,.int .i64 b]
def Xs (a b c d:Int):IZ Ax Op.maxDepth 298 (C9 a b) (C9 c d)=I (a==c&&b==d):=by
 rw[(by rfl:IZ Ax Op.maxDepth 298 (C9 a b) (C9 c d)=(match I (a==c) with|some Ag=>(match I (b==d) with|some Ag=>I Ag|some Ah=>I Ah|none=>Z)|some Ah=>I Ah|none=>Z))]
 cases a==c<;>cases b==d<;>rfl
def Np (l:GX) (a b:Int):Option Int:=match l with
 |[]=>Z
 |p::l=>if a==p.1.1&&b==p.1.2 then I p.2 else Np l a b
def Kd (k v:Aa):∀(es:List Ap) (ck lo:Nat),Fc ck lo es=Ag->lo<=ck->Fc (ck+1) lo (es++[⟨k,v,ck⟩])=Ag
 |
  [],ck,lo,_,a=>by
  show(Ar lo ck&&AD ck (ck+1)&&Ag)=Ag;rw[Aq a,show AD ck (ck+1)=Ag by rw[AK];omega];rfl
 |
  e::es,ck,lo,h,a=>by
  simp only[Fc,An,AK] at h;show(Ar lo e.born&&AD e.born (ck+1)&&Fc (ck+1) (A3 e.born) (es++[⟨k,v,ck⟩]))=Ag;rw[h.1.1,show AD e.born (ck+1)=Ag by rw[AK];omega,Kd k v es ck _ h.2 G];rfl
def Kc {f:Ap->Ap} (a:∀e,(f e).born=e.born):∀(es:List Ap) (j ck lo:Nat),Fc ck lo es=Ag->Fc ck lo (Cu es j f)=Ag
 |[],_,_,_,_=>rfl
 |e::es,0,ck,lo,h=>by simpa[Cu,Fc,a] using h
 |
  e::es,j+1,ck,lo,h=>by
  simp[Cu,Fc,An] at h⊢;exact⟨h.1,Kc a es j ck _ h.2⟩
def Amb:∀{es:List Ap} {lo a:Nat},Fc ck lo es=Ag->a<=lo->Fc ck a es=Ag
 |[],_,_,_,_=>rfl
 |
  e::es,lo,a,h,b=>by
  simp only[Fc,An] at h⊢;exact⟨⟨Aq (by have:=Ac h.1.1;omega),h.1.2⟩,h.2⟩
def Zc:∀(es:List Ap) (j ck lo:Nat),Fc ck lo es=Ag->Fc ck lo (es.eraseIdx j)=Ag
 |[],_,_,_,h=>h
 |
  e::es,0,ck,lo,h=>by
  simp only[Fc,An] at h;exact Amb h.2 (by have:=Ac h.1.1;omega)
 |
  e::es,j+1,ck,lo,h=>by
  simp[W6,Fc,An] at h⊢;exact⟨h.1,Zc es j ck _ h.2⟩
def Aen (l:GX):Prop:=l.Pairwise λp q=>p.1≠q.1
def HE (h:Y) (r:Nat) (l:GX):Prop:=r<h.nx/\∃es ck,h.t.get r=I (.map es ck)/\es.map (λe=>(e.key,e.val))=l.map (λp=>(C9 p.1.1 p.1.2,AL .i64 p.2))/\Fc ck 0 es=Ag/\Aen l
def HE.ae {l:GX} (c:HE h r l) (e:B0 W h J) (a:¬W r):HE J r l:=by
 obtain⟨hb,y⟩:=c;exact⟨AC hb e.nx,by rw[e.t r hb a];exact y⟩
def HE.ext {l:GX} (c:HE h r l) (e:AA h J):HE J r l:=c.ae (e.ae λ_=>False) λh=>h
def Adt (a b:Int):∀(es:List Ap) (l:GX) (i:Nat),es.map (λe=>(e.key,e.val))=l.map (λp=>(C9 p.1.1 p.1.2,Vi p.2))->
 (CE Ax 298 (C9 a b) es i=I Z/\Np l a b=Z)\/∃j e c,CE Ax 298 (C9 a b) es i=I (I (j,e))/\e.val=Vi c/\Np l a b=I c
 |[],[],i,_=>.inl ⟨B,B⟩
 |[],_::_,_,h=>by cases h
 |_::_,[],_,h=>by cases h
 |
  e::es,p::l,i,h=>by
  simp[Bp,List.cons.injEq,Prod.mk.injEq] at h;obtain⟨⟨h1,f⟩,d⟩:=h;rw[CE,h1,Xs,Np];cases g:(a==p.1.1&&b==p.1.2) with
  |true=>exact .inr Jq
  |false=>simpa using Adt a b es l (i+1) d
def Vk (h:Y) (b n:Nat) (df:Int) (l:GX):Prop:=Cell h b 0 (.int .i64 n)/\Cell h b 1 (.int .i64 df)/\∃r,Cell h b 2 (.map (I r))/\HE h r l
def Vk.ext {l:GX} (m:Vk h b n df l) (e:AA h J):Vk J b n df l:=by
 obtain⟨a,c,r,d,f⟩:=m;exact⟨a.ext e,c.ext e,r,d.ext e,f.ext e⟩
def Mz (n:Nat) (df:Int) (l:GX) (a b:Int):Int:=
 if(0<=a/\a<n)/\(0<=b/\b<n) then(Np l a b).getD df else 30000
def ADb (i:Base S L) {l:GX} (m:Vk h p n df l) {a b:Int}:Bk S L 3 162 [AG p 0,Vi a,Vi b] h λv J=>v=Vi (Mz n df l a b)/\J=h:=
 Cn f162 i λd y _=>by
  obtain⟨o,w,r,q,z,es,ck,s,m6,_⟩:=m;refine GZ (Ajv i o d G) ?_;refine⟨_,_,B,Ad (λe=>?_) (λe=>?_)⟩
  .have e:¬(0<=a/\a<(n:Int)):=λf=>by rw[decide_eq_true f] at e;cases e
   exact⟨by rw[Mz,Bm (λf=>e f.1)];rfl,B⟩
  refine GZ (Ajv i o d G) ?_;refine⟨_,_,B,Ad (λg=>?_) (λg=>?_)⟩
  .have g:¬(0<=b/\b<(n:Int)):=λf=>by rw[decide_eq_true f] at g;cases g
   exact⟨by rw[Mz,Bm (λf=>g f.2)];rfl,B⟩
  have x:Mz n df l a b=(Np l a b).getD df:=by rw[Mz,Bi ⟨(by simpa using e:0<=a/\a<(n:Int)),(by simpa using g:0<=b/\b<(n:Int))⟩]
  rw[x];have t:Ax.ds.get 294=I (.map 298 3):=by rfl
  have u:Do Ax 5 298 (C9 a b)=true:=by rfl
  rcases Adt a b es l 0 m6 with⟨f1,f2⟩|⟨j,A,c,f1,f2,f3⟩
  .have k:BW Ax 294 (.map (I r)) (C9 a b) Ag h=I (.tuple #[Vi 0,.bool Ah]):=by
    unfold BW;simp only[t,u,D1,s,f1,(by rfl:CP Ax 3=I (Vi 0))];rfl
   refine⟨_,ld B q,_,_,Cs (CN h) k,_,ld B w,?_,B⟩;rw[f2];rfl
  .have k:BW Ax 294 (.map (I r)) (C9 a b) Ag h=I (.tuple #[Vi c,.bool Ag]):=by
    unfold BW;simp only[t,u,D1,s,f1,f2];rfl
   refine⟨_,ld B q,_,_,Cs (CN h) k,?_,B⟩;rw[f3];rfl
def ML (l:GX) (a b c:Int):GX:=match l with
 |[]=>[((a,b),c)]
 |p::l=>if a==p.1.1&&b==p.1.2 then((a,b),c)::l else p::ML l a b c
def Ago (a b:Int):Cy (C9 a b) (C9 a b)=true:=by
 rw[(by rfl:Cy (C9 a b) (C9 a b)=((Ag&&decide (a=a))&&((Ag&&decide (b=b))&&Ag)))];simp
def Afe (a b c:Int):∀(es:List Ap) (l:GX) (i:Nat) (ck:Nat),es.map (λe:Ap=>(e.key,e.val))=l.map (λp=>(C9 p.1.1 p.1.2,Vi p.2))->
 (CE Ax 298 (C9 a b) es i=I Z/\(es++[({key:=C9 a b,val:=Vi c,born:=ck}:Ap)]).map (λe:Ap=>(e.key,e.val))=(ML l a b c).map (λp=>(C9 p.1.1 p.1.2,Vi p.2)))\/
 ∃j e,CE Ax 298 (C9 a b) es i=I (I (i+j,e))/\Cy e.key (C9 a b)=Ag/\(Cu es j λe=>{e with key:=C9 a b,val:=Vi c}).map (λe:Ap=>(e.key,e.val))=(ML l a b c).map (λp=>(C9 p.1.1 p.1.2,Vi p.2))
 |[],[],i,ck,_=>.inl ⟨B,B⟩
 |[],_::_,_,_,h=>by cases h
 |_::_,[],_,_,h=>by cases h
 |
  e::es,p::l,i,ck,h=>by
  simp[Bp,List.cons.injEq,Prod.mk.injEq] at h;obtain⟨⟨h1,f⟩,g⟩:=h;rw[CE,h1,Xs,ML];cases d:(a==p.1.1&&b==p.1.2) with
  |
   true=>
   refine .inr ⟨0,e,B,?_,?_⟩
   .rw[h1]
    simp[An,beq_iff_eq] at d;rw[←d.1,←d.2];exact Ago a b
   .simp[Cu,g]
  |
   false=>
   rcases Afe a b c es l (i+1) ck g with⟨f1,f2⟩|⟨j,k,f1,f2,f3⟩
   .refine .inl ⟨f1,?_⟩
    simpa[h1,f] using f2
   .refine .inr ⟨j+1,k,?_,f2,?_⟩
    .rw[show i+(j+1)=i+1+j by omega];exact f1
    .simp only[Cu,Bp,h1,f,f3];rfl
def Wj {a b c:Int}:∀{l:GX} {q:(Int×Int)×Int},q∈ML l a b c->q.1=(a,b)\/q∈l
 |[],q,h=>.inl (by rw[List.mem_singleton.1 h])
 |
  p::l,q,h=>by
  rw[ML] at h;split at h
  .rcases List.mem_cons.1 h with rfl|h
   .exact .inl B
   .exact .inr Jq
  .rcases List.mem_cons.1 h with rfl|h
   .exact .inr Av
   .exact(Wj h).imp Jq Jq
def OH {a b c:Int}:∀{l:GX},Aen l->Aen (ML l a b c)
 |[],_=>List.pairwise_singleton _ _
 |
  p::l,h=>by
  have J:=List.pairwise_cons.1 h;rw[ML];split
  .rename_i d
   simp[An,beq_iff_eq] at d;exact List.pairwise_cons.2 Jq
  .rename_i d
   refine List.pairwise_cons.2 ⟨λq f=>?_,OH J.2⟩;rcases Wj f with e|e
   .intro g
    rw[e] at g;exact d Jq
   .exact J.1 q e
def ABt {l:GX} (m:HE h r l) (a b c:Int):∃J,BH Ax 294 (.map (I r)) (C9 a b) (Vi c) h=I J/\HE J r (ML l a b c)/\Er r h J:=by
 obtain⟨d,es,ck,g,m6,i,m8⟩:=m;have k:Ax.ds.get 294=I (.map 298 3):=by rfl
 have n:Do Ax 5 298 (C9 a b)=true:=by rfl
 rcases Afe a b c es l 0 ck m6 with⟨f1,f2⟩|⟨j,e,f1,f2,f3⟩
 .refine⟨h.put r (.map (es++[({key:=C9 a b,val:=Vi c,born:=ck}:Ap)]) (ck+1)),?_,⟨by rw[Cc];exact d,_,_,by rw[BQ,Bi B],f2,Kd _ _ es ck 0 i (Al _),OH m8⟩,Er.put _ _ _⟩
  unfold BH;simp[k,n,D1,g,f1]
 .rw[Ba] at f1
  refine⟨h.put r (.map (Cu es j λe=>{e with key:=C9 a b,val:=Vi c}) ck),?_,⟨by rw[Cc];exact d,_,_,by rw[BQ,Bi B],f3,Kc (f:=λe=>{e with key:=C9 a b,val:=Vi c}) (λ_=>rfl) es j ck 0 i,OH m8⟩,Er.put _ _ _⟩
  unfold BH;simp[k,n,D1,g,f1,f2]
def Nh (l:GX) (a b:Int):GX:=match l with
 |[]=>[]
 |p::l=>if a==p.1.1&&b==p.1.2 then l else p::Nh l a b
def Anl (a b:Int):∀(es:List Ap) (l:GX) (i:Nat),es.map (λe:Ap=>(e.key,e.val))=l.map (λp=>(C9 p.1.1 p.1.2,Vi p.2))->
 (CE Ax 298 (C9 a b) es i=I Z/\Nh l a b=l)\/
 ∃j e,CE Ax 298 (C9 a b) es i=I (I (i+j,e))/\(es.eraseIdx j).map (λe:Ap=>(e.key,e.val))=(Nh l a b).map (λp=>(C9 p.1.1 p.1.2,Vi p.2))
 |[],[],i,_=>.inl ⟨B,B⟩
 |[],_::_,_,h=>by cases h
 |_::_,[],_,h=>by cases h
 |
  e::es,p::l,i,h=>by
  simp[Bp,List.cons.injEq,Prod.mk.injEq] at h;obtain⟨⟨h1,d⟩,c⟩:=h;rw[CE,h1,Xs,Nh];cases g:(a==p.1.1&&b==p.1.2) with
  |true=>exact .inr ⟨0,e,B,by simpa using c⟩
  |
   false=>
   rcases Anl a b es l (i+1) c with⟨f1,f2⟩|⟨j,f,f1,f3⟩
   .refine .inl ⟨f1,?_⟩
    simp[f2]
   .refine .inr ⟨j+1,f,?_,?_⟩
    .rw[show i+(j+1)=i+1+j by omega];exact f1
    .simp only[W6,Bp,h1,d,f3];rfl
def Vw (a b:Int):∀l:GX,(Nh l a b).Sublist l
 |[]=>.slnil
 |
  p::l=>by
  rw[Nh];split
  .exact List.sublist_cons_self _ _
  .exact List.Sublist.cons_cons _ (Vw a b l)
def AEn {l:GX} (m:HE h r l) (a b:Int):∃J,Bx Ax .delete [294,298] [.map (I r),C9 a b] h=I (.tuple #[],J)/\HE J r (Nh l a b)/\Er r h J:=by
 obtain⟨c,es,ck,d,m6,f,m8⟩:=m;have g:Ax.ds.get 294=I (.map 298 3):=by rfl
 have i:Do Ax 5 298 (C9 a b)=true:=by rfl
 suffices H:∃J,II Ax [294,298] [.map (I r),C9 a b] h=I J/\HE J r (Nh l a b)/\Er r h J by
  obtain⟨J,k,n⟩:=H;exact⟨J,by simp[Bx,k],n⟩
 rcases Anl a b es l 0 m6 with⟨f1,f2⟩|⟨j,e,f1,f3⟩
 .refine⟨h.put r (.map es ck),?_,⟨by rw[Cc];exact c,_,_,by rw[BQ,Bi B],by rw[f2];exact m6,f,by rw[f2];exact m8⟩,Er.put _ _ _⟩
  unfold II;simp[g,i,D1,d,f1]
 .rw[Ba] at f1
  refine⟨h.put r (.map (es.eraseIdx j) ck),?_,⟨by rw[Cc];exact c,_,_,by rw[BQ,Bi B],f3,Zc es j ck 0 f,m8.sublist (Vw a b l)⟩,Er.put _ _ _⟩;unfold II;simp[g,i,D1,d,f1]
def F6 (h:Y) (b n:Nat) (df:Int) (r:Nat) (l:GX):Prop:=b≠r/\Cell h b 0 (.int .i64 n)/\Cell h b 1 (.int .i64 df)/\Cell h b 2 (.map (I r))/\HE h r l
def F6.ext {l:GX} (m:F6 h b n df r l) (e:AA h J):F6 J b n df r l:=
 ⟨m.1,m.2.1.ext e,m.2.2.1.ext e,m.2.2.2.1.ext e,m.2.2.2.2.ext e⟩
def P9 {l:GX} (m:HE J r l):HE (h.aa J) r l:=by
 obtain⟨a,b⟩:=m;exact⟨by rw[CL];exact a,by rw[DF];exact b⟩
def Da {l l':GX} (u:Er r h J) (m:F6 h b n df r l) (m':HE J r l'):F6 J b n df r l':=
 ⟨m.1,m.2.1.ah u m.1,m.2.2.1.ah u m.1,m.2.2.2.1.ah u m.1,m'⟩
def Avy (j:Base S L) {l:GX} (m:F6 h b n df r l) {x y:Int}:Bk S L 3 109 [AG b 0,Vi x,Vi y,Vi z] h λw J=>
 B0 (·=r) h J/\((w=Vi 6/\¬((0<=x/\x<n)/\(0<=y/\y<n)/\(0<=z/\z<=30000))/\F6 J b n df r l)\/(w=Vi 0/\(0<=x/\x<n)/\(0<=y/\y<n)/\(0<=z/\z<=30000)/\F6 J b n df r (if z=df then Nh l x y else ML l x y z))):=
 Cn f109 j λd H _=>by
  obtain⟨K,u,M,N,O⟩:=m;have o:F6 h b n df r l:=Jq;have q:B0 (·=r) h h:=(AA.refl h).ae _;refine⟨_,B,GZ (Ajv j u d G) ?_⟩;refine⟨_,_,B,Ad (λe=>?_) (λe=>?_)⟩
  .have e:¬(0<=x/\x<(n:Int)):=λa=>by rw[decide_eq_true a] at e;cases e
   exact⟨q,.inl ⟨B,λa=>e a.1,o⟩⟩
  have e:0<=x/\x<(n:Int):=Gq;refine GZ (Ajv j u d G) ?_;refine⟨_,_,B,Ad (λc=>?_) (λc=>?_)⟩
  .have c:¬(0<=y/\y<(n:Int)):=λa=>by rw[decide_eq_true a] at c;cases c
   exact⟨q,.inl ⟨B,λa=>c a.2.1,o⟩⟩
  have c:0<=y/\y<(n:Int):=Gq;refine GZ (Awp j d G) ?_;refine⟨_,_,B,Ad (λf=>?_) (λf=>?_)⟩
  .have f:¬(0<=z/\z<=30000):=λa=>by rw[decide_eq_true a] at f;cases f
   exact⟨q,.inl ⟨B,λa=>f a.2.2,o⟩⟩
  have f:0<=z/\z<=30000:=Gq;obtain⟨h1,b1,v,A,P⟩:=H1 Ax 298 (C9 0 0) h;obtain⟨p,C,D,E⟩:=(A:Own h1 h.nx 298 [Vi 0,Vi 0]).bD (k:=2) Kq (i:=0) (vs:=[Vi x,Vi y]) B Jq B;have s:=v.ah E Jq;have lp:Bw Ax 298 p h.nx 0=I (C9 x y):=EQ Kq (D:Own p h.nx 298 [Vi x,Vi y]).cells B;have g:=o.ext s;refine⟨_,_,b1,_,C,_,ld B g.2.2.1,Bz (λt=>?_) (λt=>?_)⟩
  .obtain⟨F,t1,t2,t3⟩:=AEn (h:=p.ad) g.2.2.2.2 x y
   exact⟨[],Kq,_,ld B g.2.2.2.1,_,lp,_,_,t1,(s.ae _).trans t3.aa.ae,.inr ⟨B,e,c,f,by rw[Bi t];exact Da t3.aa g (P9 t2)⟩⟩
  .obtain⟨F,t1,t2,t3⟩:=ABt (h:=p.ad) g.2.2.2.2 x y z
   exact⟨[],Kq,_,ld B g.2.2.2.1,_,lp,_,_,Cs Nb t1,(s.ae _).trans t3.aa.ae,.inr ⟨B,e,c,f,by rw[Bm t];exact Da t3.aa g (P9 t2)⟩⟩
def Avx (g:Base S L) {n:Int}:Bk S L 2 108 [Vi n,Vi df] h λw J=>AA h J/\
 ((w=.tuple #[.pointer Z,Vi 6]/\¬((1<=n/\n<=64)/\(0<=df/\df<=30000)))\/((1<=n/\n<=64)/\(0<=df/\df<=30000)/\∃b r,h.nx<=b/\h.nx<=r/\w=.tuple #[AG b 0,Vi 0]/\F6 J b n.toNat df r [])):=
 Cn f108 g λd m _=>by
  refine Bz (λe=>?_) (λe=>?_)
  .exact⟨AA.refl h,.inl ⟨B,G⟩⟩
  apply Bz<;>intro o
  .exact⟨AA.refl h,.inl ⟨B,G⟩⟩
  refine GZ (Awp g d G) ?_;refine⟨_,_,B,Ad (λa=>?_) (λa=>?_)⟩
  .have a:¬(0<=df/\df<=30000):=λf=>by rw[decide_eq_true f] at a;cases a
   exact⟨AA.refl h,.inl ⟨B,λf=>a f.2⟩⟩
  obtain⟨p,i,j,k,l⟩:=H1 Ax 296 (.agg #[Vi n,Vi df,.map (I h.nx)]) (h.new (.map [] 0));have c:=k;rw[Ck] at i c l;refine⟨_,_,i,(AA.new h (.map [] 0)).trans j,.inr ⟨G,Jq,h.nx+1,h.nx,G,G,B,G,?_,c.cell B,c.cell B,HE.ext ⟨by rw[Ck];omega,[],0,by rw[CK,Bi B],B,B,.nil⟩ j⟩⟩;rw[←(G:n=(n.toNat:Int))];exact c.cell rfl
def Awz (a:Base S L) {x:Int}:Bk S L 1 279 [Vi x] h λw J=>w=.bool Ah/\J=h:=
 Cn f279 a λd b _=>by
  refine⟨?_,B⟩;show CU (!decide (x=x))=_;simp
def Dx (x y:Int):Int:=if x<y then-1 else if y<x then 1 else 0
def Qo (a:Base S L) {x y:Int}:Bk S L 2 213 [Vi x,Vi y] h λw J=>w=Vi (Dx x y)/\J=h:=
 Cn f213 a λd c _=>by
  refine GZ (Awz a d G) ?_;refine GZ (Awz a d G) ?_;apply Bz<;>intro e
  .exact⟨by rw[Dx,Bi e];rfl,B⟩
  apply Bz<;>intro b
  .exact⟨by rw[Dx,Bm e,Bi b];rfl,B⟩
  exact⟨by rw[Dx,Bm e,Bm b];rfl,B⟩
def Avd (a:Base S L) (r:Rd h v k n xs):Bk S L 1 394 [v] h λw J=>w=Vi n/\J=h:=
 Cn f394 a λd b _=>by
  obtain⟨_,A,c,rfl,_⟩:=r;exact⟨B,B⟩
def Hm (n w:Nat) (ws:Bo) (i:Int):Int:=if 0<=i/\i<n then min (E1 ws w i.toNat) 1073741824 else 0
def Im (n w:Nat) (ws:Bo) (i:Int):0<=Hm n w ws i/\Hm n w ws i<=1073741824:=by
 have:=FM ws w i.toNat;unfold Hm;split<;>omega
def Xo (a:Base S L) {w:Nat} (p:BX h b n w ws) {i:Int}:Bk S L 3 201 [AG b 0,Vi i] h λv J=>v=Vi (Hm n w ws i)/\J=h:=
 Cn f201 a λd g _=>by
  refine GZ (ZZ a p d G) ?_;intro z c;have e:z=Hm n w ws i:=by
   rw[Hm];by_cases f:0<=i/\i<(n:Int)
   .rw[Bi f] at c⊢;omega
   .rw[Bm f] at c⊢;omega
  have j:=Im n w ws i;refine⟨_,.inl Pq,?_,B⟩;rw[e];rfl
def AGe (a:Base S L) {w:Nat} (p:BX h b n w ws) {i e:Int} (U:0<=i/\i<=9223372036854775806):Bk S L 4 268 [AG b 0,Vi i,Vi e] h λv J=>v=.tuple #[Vi (Hm n w ws i),Vi (if i+1<n then Hm n w ws (i+1) else e)]/\J=h:=
 Cn f268 a λd f _=>by
  refine⟨Pq,GZ (K3 a p.1 d G) ?_⟩;apply Bz<;>intro c
  .refine⟨Pq,GZ (Xo a p d G) ?_⟩
   refine GZ (Xo a p d G) ?_;rw[Bi c];exact⟨B,B⟩
  .refine GZ (Xo a p d G) ?_
   rw[Bm c];exact⟨B,B⟩
def AR (l:BZ):AH:=l.map Value.string
def Dl {l:BZ} (a:k<l.length):(AR l)[k]?=I (.string l[k]):=by
 unfold AR;rw[AX,Ab a];rfl
def CJ {a b:Bd}:Gp a.data.toList b.data.toList=Ag↔a=b:=by
 rw[J0,beq_iff_eq];constructor
 .intro h
  cases a with|mk a=>cases b with|mk b=>cases a with|mk a=>cases b with|mk b=>simp at h;rw[h]
 .rintro rfl;rfl
end
section
variable(m:Bool) (τ:Bb) (call:Be)
def YN (sz:Nat):List Tmp->AH->As->Option As
 |[],[],A=>I A
 |p::ps,v::vs,A=>bif AD p sz then YN sz ps vs ((p,v)::A) else Z
 |_,_,_=>Z
def Ki (l:Nat) (b:LoopState->Option DC->HB) (a:Option DC) (Q:Aa->Y->Prop) (_:As) (h:Y):Prop:=
 ∃st p,h.t.get l=I (b st p)/\Q (.bool a.isNone) (h.put l (b (match a with|none=>.ready|some _=>.done) a))
def Um (L:Nat) (l:Nat) (a:LoopState->Option DC->HB) (sz:Nat) (ps:List Tmp) (c d:DC) (e:AH) (A:As) (h:Y) (Q:Aa->Y->Prop):Prop:=
 match YN sz ps e A with
 |some f=>J2 τ call L sz c (kp (λg b=>b.t.get l=I (a .ready Z)/\
  J2 τ call L sz d (kp (Ki l a Z Q) (λid=>Ki l a (I (.exit id)) Q) (Ki l a (I .ret) Q)) g (b.put l (a .busy Z))) (λ_ _ _=>False) (λ_ _=>False)) f h
 |none=>False
end
section
variable{τ:Bb} {call:Be}
def Pt {sz:Nat}:∀(ps:List Tmp) (vs:AH) (A b:As) (a:T Aa) (ds:List Hh),YN sz ps vs A=I b->Gx A ⟨a,sz,ds⟩->∃c,JY sz ps vs a=I c/\Gx b ⟨c,sz,ds⟩
 |[],[],A,b,a,ds,h,r=>by cases h;exact⟨a,B,r⟩
 |[],_::_,A,b,a,ds,h,r=>by cases h
 |_::_,[],A,b,a,ds,h,r=>by cases h
 |
  p::ps,v::vs,A,b,a,ds,h,r=>by
  rw[YN] at h;cases hb:AD p sz with
  |false=>rw[hb] at h;cases h
  |
   true=>
   rw[hb] at h;obtain⟨c,f,g⟩:=Pt ps vs ((p,v)::A) b (a.ins p v) ds h (λx u d=>by
    show(a.ins p v).get x=I u;rw[GC] at d;rw[T.dA];split at d
    .rename_i e;subst e;rw[Bi rfl];exact d
    .rename_i e;rw[Bm (λh=>e h.symm)];exact r _ _ d)
   exact⟨c,by rw[JY,hb];exact f,g⟩
def Ahr {S:A9} {L n l:Nat} {st:LoopState} {o:Option DC} {f:T Aa} {sz:Nat} {ps:List Tmp} {a b:DC} {d:Nat} {i:AH} {A:As} {h:Y} {Q:Aa->Y->Prop}
 (s:h.t.get l=I (.loop st o f sz ps a b d)) (r:Gx A ⟨f,sz,[]⟩) (c:Um τ (B8 τ S L n) L l (λst p=>.loop st p f sz ps a b d) sz ps a b i A h Q):Cd (B8 τ S L (n+1)) (.yield l) i h Q:=by
 unfold Um at c;split at c
 case h_2=>cases c
 rename_i u v;obtain⟨w,x,z⟩:=Pt ps i A u f [] v r;have Da:∀(j:Option DC) (fr:Fr) (h:Y) (_:Unit) (A:As),fr.sz=sz->fr.ds=[]->Gx A fr->Ki l (λst p=>.loop st p f sz ps a b d) j Q A h->P1 Q λy=>Fy l j y.1 fr h:=λj fr h _ A _ d2 _ ⟨_,_,C,D⟩=>⟨_,_,D,λk kp=>by simp only[Fy,d2,IJ,C];cases j<;>rfl⟩
 suffices H:P1 Q λy=>B7 τ (B8 τ S L n) L (I l) a (.mk (λfr g=>
  (match fr.ds,g.t.get l with
   |
    [],I (.loop .ready Z _ _ _ _ _ _)=>(match IJ g l .busy Z with
    |some E=>B7 τ (B8 τ S L n) L (I l) b (.mk (Fy l Z y.1) (λid=>Fy l (I (.exit id)) y.1) (Fy l (I .ret) y.1) (λ_ _ _=>Z)) fr E
    |none=>Z)
   |_,_=>Z))
  (λ_ _ _=>Z) (λ_ _=>Z) (λ_ _ _=>Z)) ⟨w,sz,[]⟩ h from H.imp λ_ h=>h.imp λ_ ⟨q,e⟩=>⟨q,λk kp=>Eq.trans (by
   show Ll τ (B8 τ S L n) L l i _ k=_;unfold Ll;rw[s];simp only[x];rfl) (e k kp)⟩
 refine La W0 R3 L sz a _ _ _ () _ h c z B B ⟨λfr g _ A F d1 K ⟨m,c1⟩=>?_,λ_ _ _ _ _ _ _ _ c=>c.elim,λ_ _ _ _ _ _ _ c=>c.elim,λ_ _ _ _ _ _ _ _ c=>c.elim⟩;have M:IJ g l .busy Z=I (g.put l (.loop .busy Z f sz ps a b d)):=by
  unfold IJ;rw[m]
 simp only[d1,m,M];exact La W0 R3 L sz b _ _ A () fr _ c1 K F d1 ⟨Da Z,λid=>Da (I (.exit id)),Da (I .ret),λ_ _ _ _ _ _ _ _ c=>c.elim⟩
def JM {k:Y->Prop}:∀(D:Bo) {h:Y},D.Nodup->(∀b∈D,h.t.get b=I (.aq Ah))->(∀J,J.nx=h.nx->B0 (·∈D) h J->k J)->Og D k h
 |[],h,_,_,H=>H h B ((AA.refl h).ae _)
 |
  b::D,h,d,f,H=>by
  refine⟨f b Av,JM D (List.nodup_cons.1 d).2 (λc a=>?_) λJ g a=>H J (by rw[g,Cc]) ?_⟩
  .have j:c≠b:=λe=>(List.nodup_cons.1 d).1 (e▸a)
   rw[BQ,Bm j];exact f c (Az _ a)
  .exact(((Er.put h b (.aq Ag)).ae).mono (λi U=>by rw[U];exact Av)).trans (a.mono λi U=>Az _ U)
def Arm (l:Nat) (b:LoopState->Option DC->HB) (K:KG Bo) (A:As) (D:Bo) (h:Y):Prop:=
 ∃st a,h.t.get l=I (b st a)/\st≠.busy/\(match a with
  |none=>K.n A D (h.put l (b .exhausted a))
  |some .ret=>K.r A D (h.put l (b .exhausted a))
  |some (.exit id)=>K.x id A D (h.put l (b .exhausted a))
  |_=>False)
def XI {f:Au} {fn:BC} (h:τ.fn.get f=I fn) (hb:fn.body.isSome=Ag):(match τ.fn.get f with|some fn=>fn.body.isSome=Ag|none=>False):=by rw[h];exact hb
def T3 {m:Bool} {S:A9} {L n sz:Nat} {ps:Array Tmp} {e g:DC} {K:KG Bo} {A:As} {D:Bo} {h:Y} {f:Au} {first cap:Array Aa}
 (H:∀(i:LoopState->Option DC->HB),(∀(d:Nat) (j:As) (l:AH) (k:Y) (Q:Aa->Y->Prop),Sub j A->k.t.get (A3 h.nx)=I (i .ready Z)->
  Um τ (B8 τ S L d) L (A3 h.nx) i sz ps.toList e g l j k Q->Cd (B8 τ S L (d+1)) (.yield (A3 h.nx)) l k Q)->
  JW m (B8 τ S L n) (.func f) (first.toList++[.func (.yield (A3 h.nx)) #[] #[]]++cap.toList) ((h.new (.aq Ah)).new (i .ready Z)) (λ_ a=>Arm (A3 h.nx) i K A (h.nx::D) a)):
 ∀b,Gx A ⟨b,sz,[]⟩->JW m (B8 τ S L n) (.func f) (first.toList++[.func (.yield (A3 h.nx)) #[] #[]]++cap.toList) ((h.new (.aq Ah)).new (.loop .ready Z b sz ps.toList e g h.nx)) (λ_ a=>Anx (A3 h.nx) K A (h.nx::D) a):=by
 intro b r;obtain⟨Q,c,o⟩:=H (λst p=>.loop st p b sz ps.toList e g h.nx) (λm j l k Q q s c=>Ahr s (A:=j) (λt v u=>r t v (q t v u)) c);refine⟨Q,c,λv a w=>?_⟩;obtain⟨st,x,y,z,C⟩:=o v a w;exact⟨st,x,b,sz,ps.toList,e,g,h.nx,y,z,C⟩
end
section
variable{S:A9} {L:Nat}
section
variable {h J h0 h1 H:Y} {v fv nv pv cv ev lv u v':Aa} {xs args vs ys:AH} {b N i k e r j x m c q d a p t2 st sb mo ck lp rm b0 sz off:Nat} {t:Ai} {f:Au} {fn:BC} {s:Bd} {bs:Bl} {ws:Bo} {W:Nat->Prop} {Q:Aa->Y->Prop} {A:Option BD} {z df day:Int} {ss:BZ} {τ:Bb}
def P7 (l:List Bool) (c:Bool) {i j:Nat} (h:i<=j):(l.take i).count c<=(l.take j).count c:=by
 have:l.take i=(l.take j).take i:=by rw[List.take_take];congr 1;omega
 rw[this];exact(Ajl i (l.take j)).count_le c
def Akm (l:List Bool) (c:Bool) (i:Nat):(l.take (i+1)).count c<=(l.take i).count c+1:=by
 rw[List.take_add_one,K0];have:(l[i]?.toList).count c<=(l[i]?.toList).length:=HM;have a:(l[i]?.toList).length<=1:=by cases l[i]?<;>simp
 omega
def Oi:∀l:List Bool,l.count Ag+l.count Ah=l.length
 |[]=>rfl
 |
  b::l=>by
  have:=Oi l;cases b<;>simp<;>omega
def XB (l:List Bool) (c:Bool) (i:Nat):(l.take i).count c<=l.count c:=(Ajl i l).count_le c
def Afh (l:List Bool) {i:Nat} (U:i<=l.length):(l.take i).count Ag+(l.take i).count Ah=i:=by
 rw[Oi,Cg];omega
def Ahm {l:List Bool} (h0:l[0]?=I Ag) (h1:l[1]?=I Ah) {z:Nat} (c:1<(l.take (z+1)).count Ag):2<=z/\1<=(l.take z).count false:=by
 match l,h0,h1 with
 |
  a::b::r,h0,h1=>
  simp only[CO,B5,Option.some.injEq] at h0 h1;subst h0 h1
  match z,c with
  |0,c=>simp at c
  |1,c=>simp at c
  |z+2,c=>exact⟨G,by simp⟩
structure En where
 bits:List Bool
 is:List Bool
 lb:Bl
 ni:Nat
 wi:Nat
 cq:Bo
 nd:Bo
def En.n (t:En):Nat:=t.lb.length+1
def En.Ok (t:En):Prop:=t.bits.length=2*t.n+1/\t.bits.count Ag=t.n/\t.bits[0]?=I Ag/\t.bits[1]?=I Ah/\t.wi<=15/\t.n<=524287/\t.nd.length<=20000/\
 ∃a:Nat->Nat,(∀c z,1<=c->(t.bits.take z).count Ag<=c->c<(t.bits.take (z+1)).count Ag->(t.bits.take z).count Ah-1<t.n/\a ((t.bits.take z).count Ah-1)+1=a c)/\
  ∀x∈t.nd,x<t.n/\a x<=256
def Bn (l:Bo):AH:=l.map λx:Nat=>AL .i64 x
def HO (l:Bo):(Bn l).length=l.length:=by simp[Bn]
def GH {l:Bo} {k:Nat} (a:k<l.length):(Bn l)[k]?=I (Vi (l.getD k 0:Nat)):=by
 unfold Bn;rw[AX,Ak,Ab a];rfl
def DE (h:Y) (b:Nat) (t:En):Prop:=t.Ok/\(∃p,Cell h b 0 (AG p 0)/\Du h p t.bits)/\(∃p,Cell h b 1 (AG p 0)/\Du h p t.is)/\(∃v,Cell h b 2 v/\Rd h v 1 t.lb.length (Ay t.lb))/\
 (∃p,Cell h b 3 (AG p 0)/\BX h p t.ni t.wi t.cq)/\∃v,Cell h b 4 v/\Rd h v 1 t.nd.length (Bn t.nd)
def DE.ext {h J:Y} {b:Nat} {t:En} (T:DE h b t) (e:AA h J):DE J b t:=by
 obtain⟨a,⟨c,a0,b0⟩,⟨d,a1,b1⟩,⟨f,g,i⟩,⟨j,k,l⟩,m,n,o⟩:=T;exact⟨a,⟨c,a0.ext e,b0.ext e⟩,⟨d,a1.ext e,b1.ext e⟩,⟨f,g.ext e,i.ext e⟩,⟨j,k.ext e,l.ext e⟩,m,n.ext e,o.ext e⟩
def Aba {l:List Bool} {n k b c:Nat} (f:l.length=2*n+1) (g:l.count Ag=n) (h0:l[0]?=I Ag) (i:b<l.length) (j:c<l.length) (m:(l.take b).count Ah<=k) (o:k<(l.take (b+1)).count Ah)
 (p:(l.take c).count Ah<=k+1) (q:k+1<(l.take (c+1)).count Ah):b+1<=c/\1<=(l.take (b+1)).count Ag/\(l.take (b+1)).count Ag+c-(b+1)=(l.take c).count Ag/\(l.take (b+1)).count Ag<=(l.take c).count Ag/\(l.take c).count Ag<=n:=by
 have s:=Akm l Ah b;have d:b+1<=c:=by
  rcases A8 b c with h|h
  .exact h
  .have:=P7 l Ah (show c+1<=b+1 by omega);omega
 have t:=P7 l Ah d;have e:=P7 l Ag d;have u:=Afh l (show b+1<=l.length by omega);have v:=Afh l (show c<=l.length by omega);have a1:=XB l Ag c;have f1:1<=(l.take (b+1)).count true:=by
  have:=P7 l Ag (show 1<=b+1 by omega);have h1:(l.take 1).count Ag=1:=by
   match l,h0 with
   |a::r,h0=>simp only[CO,Option.some.injEq] at h0;subst h0;simp
  omega
 refine⟨d,f1,G,e,G⟩
def ADz {a b:Int} {x y:Nat} (h1:a=x) (c:b=y):C4 #[Vi a,Vi b]=.tuple #[Vi (x:Int),Vi (y:Int)]:=by rw[h1,c]
def Awe (a:Base S L) {h:Y} {b:Nat} {t:En} (T:DE h b t) {k:Nat} (A:k<t.n):
 Bk S L 6 320 [AG b 0,Vi k] h λw J=>AA h J/\∃x y:Nat,w=.tuple #[Vi x,Vi y]/\1<=x/\x<=y/\y<=t.n:=
 Cn f320 a λd C _=>by
  obtain⟨⟨l,m,o,D,E,k6,F,k8⟩,⟨p,f,g⟩,_⟩:=T;have H:t.bits.count Ah=t.n+1:=by have:=Oi t.bits;omega
  refine⟨_,ld B f,_,Aqx a g Ah (k:=k) G d G,?_⟩;rintro K h1 ⟨i,⟨hb,_⟩|⟨c,rfl,a1,M,N⟩⟩
  .omega
  refine⟨Pq,_,ld B (f.ext i),Pq,_,Aqx a (g.ext i) Ah (k:=(k:Int)+1) G d G,?_⟩;rintro O q ⟨r,⟨hb,_⟩|⟨s,rfl,b1,P,Q⟩⟩
  .omega
  have j:=i.trans r;obtain⟨R,u,V,v,z⟩:=Aba l m o a1 b1 (G:(t.bits.take c).count Ah<=k) G G G;refine⟨_,ld B (f.ext j),_,ZW a (g.ext j) Ag ((c:Int)+1) G d G,?_⟩;rintro _ q ⟨rfl,rfl⟩;have e:((c:Int)+1).toNat=c+1:=G;rw[e];refine⟨Pq,Pq,j,_,_,ADz B (G:_=(((t.bits.take s).count Ag:Nat):Int)),u,v,z⟩
def Arz (a b:Int) (hb:0<=b/\b<18446744073709551616):D8 .u64 a b<=b/\0<=D8 .u64 a b:=by
 have e:(BitVec.ofInt 64 a&&&BitVec.ofInt 64 b).toNat<=(BitVec.ofInt 64 b).toNat:=by rw[BitVec.toNat_and];exact Apg
 have d:(BitVec.ofInt 64 b).toNat=b.toNat:=by rw[BitVec.toNat_ofInt];omega
 have c:D8 .u64 a b=IntKind.wrap .u64 ((BitVec.ofInt 64 a&&&BitVec.ofInt 64 b).toNat:Int):=rfl;rw[c,G8];omega
def Aks (ws:Bo) {w:Nat} (b:w<=15) (i:Nat):E1 ws w i<=32767:=by
 obtain⟨q,a⟩:∃q,q=2^w:=⟨_,B⟩;have h1:1<=q:=by rw[a];exact Nat.one_le_two_pow
 have f:q<=2^15:=by rw[a];exact Na G b
 have c:Es .u64 1 (w:Int)=(q:Int):=by
  unfold Es;have e:min ((w:Int)).toNat IntKind.u64.bits=w:=by show min w 64=w;omega
  rw[e];have:(1:Int)*2^w=(q:Int):=by rw[a];push_cast;omega
  rw[this];exact FC Pq
 have d:UX (Es .u64 1 (w:Int)) 1=(q:Int)-1:=by rw[c];exact T0 Pq
 unfold E1;split
 .omega
 .show D8 .u64 _ _<=_
  rw[d];exact Int.le_trans (Arz _ _ G).1 G
def Avr (a:Base S L) {h:Y} {b:Nat} {t:En} (T:DE h b t) {k:Nat} (n:k<=1048576):
 Bk S L 3 267 [AG b 0,Vi k] h λw J=>AA h J/\∃(x:Nat) (f:Bool),w=.tuple #[Vi x,.bool f]/\x<=32767:=
 Cn f267 a λd o _=>by
  obtain⟨⟨r,s,u,v,g,k6,y,k8⟩,⟨p,z,A⟩,⟨C,c1,c⟩,_,⟨D,c3,j⟩,_⟩:=T;refine⟨_,ld B c1,_,Acw a c (i:=k) d G,?_⟩;rintro _ h ⟨rfl,rfl⟩;refine⟨_,_,B,Ad (λe=>?_) (λe=>?_)⟩
  .exact⟨AA.refl _,0,Ah,B,G⟩
  refine⟨[],Kq,_,ld B c3,_,ld B c1,_,ZW (h:=h.ad) a c Ag k G d G,?_⟩;rintro _ _ ⟨rfl,rfl⟩;refine⟨B,_,ZZ (h:=(nb h).ad) a (show BX (nb h) _ _ _ _ from j.ext (AT (AA.refl h))) d G,?_⟩;rintro _ _ ⟨rfl,rfl⟩;refine⟨B,?_⟩;have E:=FM t.cq t.wi (((t.bits.take 0).count Ag:Nat):Int).toNat;obtain⟨q,l,m⟩:∃q:Nat,(if(0:Int)<=((t.is.take (k:Int).toNat).count Ag:Nat)/\(((t.is.take (k:Int).toNat).count Ag:Nat):Int)<t.ni then E1 t.cq t.wi (((t.is.take (k:Int).toNat).count Ag:Nat):Int).toNat else 0)=(q:Int)/\q<=32767:=by
   split
   .have h1:=FM t.cq t.wi (((t.is.take (k:Int).toNat).count Ag:Nat):Int).toNat
    have F:=Aks t.cq g (((t.is.take (k:Int).toNat).count Ag:Nat):Int).toNat;exact⟨(E1 t.cq t.wi (((t.is.take (k:Int).toNat).count Ag:Nat):Int).toNat).toNat,G,G⟩
   .exact⟨0,B,G⟩
  rw[l];refine⟨_,.inl Pq,AT (AT (AA.refl h)),q,Ag,B,m⟩
def c91 (a:Base S L) {h:Y} {b:Nat} {t:En} (T:DE h b t):Bk S L 1 91 [AG b 0] h λw J=>w=Vi t.nd.length/\J=h:=
 Cn f91 a λd f _=>by
  obtain⟨_,_,_,_,_,v,c4,e⟩:=T;obtain⟨_,A,c,rfl,_⟩:=e;exact⟨_,B,_,ld B c4,B,B⟩
end
end
section
variable {h J h0 h1 H:Y} {v fv nv pv cv ev lv u v':Aa} {xs args vs ys:AH} {n b N i k e r j x m c q d a p t2 st sb mo ck lp rm b0 sz off:Nat} {t:Ai} {f:Au} {fn:BC} {s:Bd} {bs:Bl} {ws:Bo} {W:Nat->Prop} {Q:Aa->Y->Prop} {A:Option BD} {z df day:Int} {ss:BZ} {τ:Bb}
variable{S:A9} {L:Nat}
def Aus (f:Base S L) {t:En} (T:DE h b t) (r:k<t.n) {c:Int}:
 Bk S L 7 266 [AG b 0,Vi k,.int .u8 c] h λw J=>AA h J/\∃(x:Nat) (s:Bool),w=.tuple #[Vi x,.bool s]/\(s=Ag->x<t.n):=
 Cn f266 f λd W X=>by
  have v:=T;obtain⟨⟨k1,k2,k3,k4,k5,k6,k7,k8⟩,_,_,⟨v2,z,C⟩,_⟩:=T;have hn:t.n=t.lb.length+1:=rfl;refine cl (Awe f v r) ?_;rintro _ h1 ⟨H,x,y,rfl,K,D,M⟩;refine⟨λE A F=>∃x y:Nat,A=[(0,AG b 0),(1,Vi k),(2,.int .u8 c),(8,Vi x),(9,Vi y)]/\1<=x/\x<=y/\y<=t.n/\E=y-x/\AA h F,
   ⟨_,_,Sq,?_,x,y,B,K,D,M,B,H⟩,?_⟩
  .omega
  rintro E A F ⟨x,y,rfl,hx,D,N,rfl,g⟩ aa;apply Bz<;>intro e
  .obtain⟨m,O,ab,ad⟩:∃m:Nat,((x:Int)+y)/2=m/\x<=m/\m<y:=⟨(x+y)/2,G,G,G⟩
   obtain⟨a1,P,rfl,_,j⟩:=C.at_ G;have Q:=λi u l=>(j i u l).ext g;refine⟨Pq,_,Awi ⟨G,Pq⟩,?_⟩;rw[O];refine⟨_,ld B (z.ext g),Pq,G,_,Rd.ld Q B (i:=m-1) (by show((m:Int)-1).toNat*1=_;omega) (CY G),Ad (λo=>?_) (λo=>?_)⟩
   .refine⟨Pq,_,_,Sq,?_,m+1,y,B,G,G,N,B,g⟩
    omega
   .refine⟨_,_,Sq,?_,x,m,B,G,G,G,B,g⟩
    omega
  refine cl (Awe f (v.ext g) r) ?_;rintro _ h2 ⟨R,p,q,rfl,ae,af,ag⟩;have a:=g.trans R;refine⟨[],Kq,Bz (λo=>?_) (λo=>?_)⟩
  .obtain⟨a1,P,rfl,_,j⟩:=C.at_ G
   have V:=z.ext a;exact⟨_,ld B V,Pq,G,_,Rd.ld (λi u l=>(j i u l).ext a) B (i:=x-1) (by show((x:Int)-1).toNat*1=_;omega) (CY G),a,x,_,B,λ_=>G⟩
  .exact⟨a,x,Ah,B,λh=>by cases h⟩
def ADk (f:Base S L) {t:En} (T:DE h b t) (q:s.size<=100000000):
 Bk S L 8 269 [AG b 0,Sg s] h λw J=>AA h J/\∃(x:Nat) (a:Bool),w=.tuple #[Vi x,.bool a]/\(a=Ag->x<t.n):=
 Cn f269 f λd r u=>by
  have v:t.n=t.lb.length+1:=rfl;refine⟨λi A j=>∃(k x:Nat) (a:Bool),A=[(0,AG b 0),(1,Sg s),(6,Vi x),(7,.bool a),(8,Vi k)]/\k<=s.size/\i=s.size-k/\(a=Ag->x<t.n)/\AA h j,
   ⟨_,_,Sq,?_,0,0,Ag,B,Al _,B,λ_=>G,AA.refl _⟩,?_⟩
  .omega
  rintro i A j ⟨k,x,a,rfl,z,rfl,c,g⟩ C;apply Bz<;>intro e
  .apply Ad<;>intro l
   .refine⟨G,_,Aus f (T.ext g) (c l) d G,?_⟩
    rintro _ h1 ⟨m,y,o,rfl,p⟩;refine⟨Pq,_,_,Sq,?_,k+1,y,o,B,G,B,p,g.trans m⟩;omega
   .exact⟨g,x,a,B,c⟩
  .exact⟨g,x,a,B,c⟩
def ABs (c:Base S L) {t:En} (T:DE h b t) (i:s.size<=100000000):
 Bk S L 9 209 [AG b 0,Sg s] h λw J=>AA h J/\∃(x:Nat) (a:Bool),w=.tuple #[Vi x,.bool a]/\x<=32767:=
 Cn f209 c λd o _=>by
  have k6:=T.1.2.2.2.2.2.1;refine⟨_,B,Ad (λe=>?_) (λe=>?_)⟩
  .exact⟨AA.refl _,0,Ah,B,G⟩
  refine cl (ADk c T i) ?_;rintro _ h1 ⟨f,y,a,rfl,j⟩;refine⟨_,_,B,Ad (λg=>?_) (λg=>?_)⟩
  .exact⟨f,0,Ah,B,G⟩
  have k:a=true:=by cases a<;>first|rfl|cases g
  have:=j k;refine cl (Avr c (T.ext f) G) ?_;rintro _ p ⟨l,z,m,rfl,n⟩;exact⟨f.trans l,z,m,B,n⟩
def Vt (l:List (Nat×Nat)):AH:=l.flatMap λp=>[.int .i64 p.1,.int .i64 p.2]
def ABu (l:Base S L) {t:En} (T:DE h b t) (a:s.size<=100000000):
 Bk S L 8 205 [AG b 0,Sg s] h λw J=>AA h J/\∃a:List (Nat×Nat),AS J h.nx 326 2 w a.length (Vt a)/\(∀p∈a,p.1<=32767)/\a.length<=s.size:=
 Cn f205 l λd O P=>by
  have Q:t.n=t.lb.length+1:=rfl;have k6:=T.1.2.2.2.2.2.1;refine⟨_,B,λC A m=>∃(k x:Nat) (cv:Aa) (a:List (Nat×Nat)),A=[(0,AG b 0),(1,Sg s),(5,cv),(6,Vi x),(14,Vi s.size),(15,Vi k)]/\k<=s.size/\C=s.size-k/\x<t.n/\AA h m/\
   AS m h.nx 326 2 cv a.length (Vt a)/\(∀p∈a,p.1<=32767)/\a.length<=k,
   ⟨_,_,Sq,?_,0,0,_,[],B,Al _,B,G,AA.refl _,AS.nil _ _ _ _,(λp c=>by cases c),Ae _⟩,?_⟩
  .omega
  rintro C A m ⟨k,x,cv,f,rfl,R,rfl,H,g,o,hb,V⟩ W;apply Bz<;>intro e
  .refine⟨G,_,Aus l (T.ext g) H d G,?_⟩
   rintro _ h1 ⟨q,y,D,rfl,j⟩;have r:=g.trans q;refine⟨_,_,B,Ad (λE=>?_) (λE=>?_)⟩
   .exact⟨r,f,o.ext q,hb,G⟩
   have K:D=true:=by cases D<;>first|rfl|cases E
   have j:=j K;refine cl (Avr l (T.ext r) G) ?_;rintro _ M ⟨F,z,X,rfl,N⟩;have u:=r.trans F;have v:=(o.ext q).ext F;apply Ad<;>intro e3
   .obtain⟨v',J,t1,t2,t3,t4⟩:=Tz Kq v (ys:=[Vi z,Vi ((k:Int)+1)]) B B u.nx G
    refine⟨Pq,_,_,Iv (τ:=Ax) (t:=323) (k:=2) Kq (.agg #[Vi z,Vi ((k:Int)+1)]) B B (by decide) M,_,_,t1,Pq,_,_,Sq,?_,k+1,y,v',f++[(z,k+1)],B,G,B,j,u.then t3 λi U=>v.ai i U,?_,?_,?_⟩
    .omega
    .have:Vt (f++[(z,k+1)])=Vt f++[Vi z,Vi ((k:Int)+1)]:=by simp[Vt]
     rw[this,Aj];exact t2
    .intro p c
     rcases List.mem_append.1 c with c|c
     .exact hb p c
     .rw[List.mem_singleton.1 c];exact N
    .simp;omega
   .refine⟨Pq,_,_,Sq,?_,k+1,y,cv,f,B,G,B,j,u,v,hb,G⟩
    omega
  .exact⟨g,f,o,hb,G⟩
def Aew {z:Aa} (a:CP τ t=I z) (h:Y):∃h1,(∀A,D9 τ A h (.alloc t)=I (AG h.nx 0,h1))/\AA h h1/\Own h1 h.nx t (AJ z)/\h1.nx=h.nx+1:=by
 obtain⟨h1,b,c⟩:=H1 τ t z h;exact⟨h1,λA=>by show(match CP τ t with|some z=>K7 τ t z h|none=>Z)=_;rw[a];exact b,c⟩
def Arj (o:Own h p 286 (Ay bs)) (d:bs.length=256) (e:a<=256):∃v,C7 Ax 286 (AG p 0) (I (Vi a)) Z Z=I v/\Rd h v 1 (256-a) (Ay (bs.drop a)):=by
 refine⟨.slice (I ⟨p,0+a*1,I 0⟩) (256-a) (256-a),?_,?_⟩
 .show(bif Ar a 256&&Ar 256 256 then I (PA (I ⟨p,0+a*1,I 0⟩) (256-a) (256-a)) else Z)=_
  rw[Aq e];rfl
 .obtain⟨h1,c,x,f,g⟩:=o
  refine⟨by rw[A7,AV,d];omega,_,_,B,Ae _,(λh=>by cases h),λa' j=>?_⟩;cases j;refine⟨h1,c,_,_,_,_,_,f,λi u b=>g _ u ?_⟩;rw[←EA,Eg] at b;rw[show 0+a*1+i=a+i by omega];exact b
def ZR:List Bool->Nat->Nat
 |[],_=>0
 |true::_,0=>0
 |true::l,x+1=>ZR l x+1
 |false::l,x=>ZR l x+1
def Ui:∀(l:List Bool) (x z:Nat),(l.take z).count Ag<=x->x<(l.take (z+1)).count Ag->ZR l x=z
 |[],x,z,_,h=>by simp at h
 |
  b::l,x,0,h1,h=>by
  cases b with
  |
   true=>
   obtain rfl:x=0:=by simp at h;omega
   rfl
  |false=>simp at h
 |
  b::l,x,z+1,h1,h=>by
  rw[List.take_succ_cons] at h1 h;cases b with
  |
   true=>
   rw[List.count_cons_self] at h1 h;obtain⟨y,rfl⟩:∃y,x=y+1:=⟨x-1,G⟩;rw[ZR,Ui l y z G G]
  |
   false=>
   rw[List.count_cons_of_ne (by decide)] at h1 h;rw[ZR,Ui l x z h1 h]
def Awd (t:En) (x:Nat):Nat:=(t.bits.take (ZR t.bits x)).count Ah-1
def U2 (t:En):Nat->Nat->Bl->Bl
 |0,_,a=>a
 |f+1,x,a=>if x=0 then a else U2 t f (Awd t x) (t.lb.getD (x-1) 0::a)
def Sv (t:En) (k:Int):Bd:=if 0<=k/\k<(t.nd.length:Int) then EY (U2 t 256 (t.nd.getD k.toNat 0) []) else⟨#[]⟩
def c92 (m:Base S L) {t:En} (T:DE h b t) {k:Int}:
 Bk S L 6 92 [AG b 0,Vi k] h λw J=>AA h J/\∃(s:Bd) (ok:Bool),w=.tuple #[Sg s,.bool ok]/\s.size<=256/\s=Sv t k:=
 Cn f92 m λd ae hL=>by
  have aa:=T;obtain⟨⟨k1,k2,k3,k4,k5,k6,k7,j,k8,k9⟩,⟨p0,c0,O⟩,_,⟨v2,c2,r2⟩,_,v4,c4,r4⟩:=T;have hn:t.n=t.lb.length+1:=rfl;apply Ad<;>intro e
  .exact⟨AA.refl _,⟨#[]⟩,Ah,B,by decide,by rw[Sv,Bm (by have:=Fp e;omega)]⟩
  refine GZ (c91 m aa d G) ?_;apply Ad<;>intro r
  .exact⟨AA.refl _,⟨#[]⟩,Ah,B,by decide,by rw[Sv,Bm (by have:=Fp r;omega)]⟩
  have e:=KK e;have r:=KK r;obtain⟨q,rfl⟩:∃q:Nat,k=q:=⟨k.toNat,G⟩;obtain⟨h1,z1,y,o1,n1⟩:=Aew (z:=.agg ⟨AE 256 (.int .u8 0)⟩) Kq h;obtain⟨a4,y4,rfl,_,q4⟩:=r4.at_ G;have ab:t.nd.getD q 0∈t.nd:=by
   rw[Ak,Ab G];exact Bu _
  obtain⟨P,C⟩:=k9 _ ab;obtain⟨l,D⟩:∃l,l=t.nd.getD q 0:=⟨_,B⟩;rw[←D] at P C;refine⟨_,_,z1 _,_,ld B (c4.ext y),G,_,Rd.ld (λi u E=>(q4 i u E).ext y) B (i:=q) (by show((q:Int)).toNat*1=_;omega) (GH G),?_⟩;rw[←D];refine⟨λQ A F=>∃(x a:Nat) (bs:Bl),A=[(0,AG b 0),(6,AG h.nx 0),(7,Vi a),(8,Vi x)]/\x<t.n/\a+j l=256+j x/\j x<=256/\a<=256/\Q=j x/\bs.length=256/\Own F h.nx 286 (Ay bs)/\AA h F/\∃f,j x<=f/\U2 t f x (bs.drop a)=U2 t 256 l [],
   ⟨_,_,Sq,?_,l,256,AE 256 0,B,P,B,C,G,B,by simp,by rw[Ay,KD];exact o1,y,256,C,by simp⟩,?_⟩
  .omega
  rintro Q A F ⟨x,a,bs,rfl,hx,ha,af,ad,rfl,R,o,g,f,hf,V⟩ ag;apply Bz<;>intro e3
  .obtain⟨a2,y2,rfl,_,q2⟩:=r2.at_ G
   have ah:1<=j x:=by
    have hz:∃z,(t.bits.take z).count Ag<=x/\x<(t.bits.take (z+1)).count true:=by
     have Cw:∀n,x<(t.bits.take n).count Ag->∃z,(t.bits.take z).count Ag<=x/\x<(t.bits.take (z+1)).count true:=by
      intro n
      induction n with
      |zero=>intro h;simp at h
      |
       succ n ih=>
       intro h;rcases A8 x ((t.bits.take n).count Ag) with h1|h1
       .exact ih h1
       .exact⟨n,h1,h⟩
     exact Cw t.bits.length (by rw[CS];exact (G:x<t.bits.count Ag))
    obtain⟨z,h1,K⟩:=hz;have:=(k8 x z G h1 K).2;omega
   obtain⟨p,u5,u6,u7⟩:=Own.st (τ:=Ax) (t:=5) B (i:=a-1) (v:=.int .u8 ((t.lb.getD (x-1) 0).toNat:Int)) o (by rw[A7];omega) B;have u8:Own p h.nx 286 (Ay (bs.set (a-1) (t.lb.getD (x-1) 0))):=by
    have:Ay (bs.set (a-1) (t.lb.getD (x-1) 0))=(Ay bs).set (a-1) (.int .u8 ((t.lb.getD (x-1) 0).toNat:Int)):=by simp[Ay,Cp]
    rw[this];exact u6
   have M:=g.ah u7 (Ae _);have W:=c0.ext M;have v5:=O.ext M;refine⟨Pq,_,ld B (c2.ext g),Pq,G,_,Rd.ld (λi u E=>(q2 i u E).ext g) B (i:=x-1) (by show((x:Int)-1).toNat*1=_;omega) (CY G),G,p,(by rw[(by show 0+_*1=_;omega:0+((a:Int)-1).toNat*t5.size=a-1)];exact u5),[],Kq,_,ld B W,_,ld B W,_,Aqx (h:=p.ad) m v5 Ag G d G,?_⟩;rintro o2 K ⟨N,⟨hb,_⟩|⟨z,rfl,b1,b2,b3⟩⟩
   .omega
   have X:=M.trans N.aa;obtain⟨f1,f2⟩:=Ahm k3 k4 (z:=z) G;obtain⟨f3,f4⟩:=k8 x z G G G;have v6:=O.ext X;refine⟨N.ag,GZ (ZW (h:=(p.aa K).ad) m v6 Ah z G d G) ?_⟩;have ez:((z:Int)).toNat=z:=rfl;rw[ez];refine⟨B,Pq,_,_,Sq,?_,(t.bits.take z).count Ah-1,a-1,_,B,f3,G,G,G,B,?_,u8.ext (N.aa.trans (AT (AA.refl _))),AT X,f-1,G,?_⟩
   .omega
   .simp[R]
   .obtain⟨f',rfl⟩:∃f',f=f'+1:=⟨f-1,G⟩
    rw[←V,U2,Bm G,Awd,Ui t.bits x z G G,List.drop_set,Bm G,Nat.sub_self,Di G,List.set_cons_zero,show a-1+1=a by omega,Nat.add_sub_cancel]
  .obtain⟨v,s1,s2⟩:=Arj o R ad
   have s3:=FB (τ:=Ax) (s:=62) (d:=9) Kq s2;obtain⟨_,A,c,rfl,_⟩:=s2;refine⟨_,_,(λH=>by rw[s1];rfl:∀H,CN H (C7 Ax 286 (AG h.nx 0) (I (Vi a)) Z Z)=I (.slice A (256-a) c,H)) _,_,s3,g,_,Ag,B,?_,?_⟩
   .show(bs.drop a).length<=256
    rw[AV];omega
   .obtain rfl:x=0:=G
    rw[Sv,Bi G,show((q:Int)).toNat=q from B,←D,←V];cases f<;>rfl
def Ajr (q:Base S L) {w:Aa} {cs:Bl} (o:AS h N 5 1 v n (Ay bs)) (g:N<=h.nx) (r:Rd h w 1 m (Ay cs)) (s:∀i,BY w i->¬BY v i) (Q:n<=100000000) (R:m<=100000000):
 Bk S L 1 183 [v,w] h λu J=>∃t:Bl,AS J N 5 1 u (n+4+m) (Ay t)/\B0 (BY v) h J/\Grw h v u:=
 Cn f183 q λd T _=>by
  obtain⟨y,j,k,rfl,z,A,C⟩:=r;have D:Rd h (.slice j m k) 1 m (Ay cs):=⟨y,j,k,B,z,A,C⟩;obtain⟨b,E⟩:=DH (m:Int);obtain⟨c,F⟩:=DH (DN .i64 (m:Int) 8);obtain⟨e,H⟩:=DH (DN .i64 (m:Int) 16);obtain⟨f,K⟩:=DH (DN .i64 (m:Int) 24);have a:=AA.row h 5 (Ay [b,c,e,f]);obtain⟨V,h1,t1,t2,t3,t4⟩:=UN Kq (o.ext a) (x:=sL h.nx 4 4) (ys:=Ay [b,c,e,f]) B
   (by rw[Il (Own.row h 5 (Ay [b,c,e,f])) (by show 0+4*1<=4;decide)];rfl) B B (Ao g a.nx) G
  have l:=(D.ext a).ae t3 s;obtain⟨W,X,M,p,O,P⟩:=UN Kq t2 l.bu l.src Jq (Fa cs) (Ao (Ao g a.nx) t3.nx) G;rw[←Ee,←Ee] at p;have hx:=a.nx;have aa:=t3.nx;refine⟨_,.inr E.symm,G,_,.inr F.symm,G,_,.inr H.symm,G,_,.inr K.symm,_,_,bs4 _ _ _ _ h,_,_,t1,_,_,M,_,p,((a.ae _).trans t3).then O λi U=>?_,λi U=>?_⟩
  .rcases t4 i U with h|h
   .exact .inl h
   .right;omega
  .rcases P i U with h|h
   .rcases t4 i h with h|h
    .exact .inl h
    .right;omega
   .right;omega
def Aqp (a:Base S L) {t:En} (T:DE h b t):Bk S L 3 103 [AG b 0] h λw J=>AA h J/\∃bs:Bl,bs.length<=12000000/\AS J h.nx 5 1 w bs.length (Ay bs):=
 Cn f103 a λd P _=>by
  have k6:=T.1.2.2.2.2.2.1;have Q:t.n=t.lb.length+1:=rfl;obtain⟨R,⟨V,x,y⟩,⟨W,c1,z⟩,⟨X,A,q⟩,⟨p3,c3,C⟩,_⟩:=T;refine⟨_,B,_,ld B x,_,Akb a y d G,?_⟩;rintro o1 h1 ⟨r,b1,l1,D⟩;refine⟨_,Ajr a (AS.nil h1 h.nx 5 1) r.nx D.rd (bs:=[]) (λi _ h=>h.elim) G G d G,?_⟩;rintro u1 h2 ⟨e1,j,E,w1⟩;have e:=r.then E λi U=>U.elim
  refine⟨_,ld B (A.ext e),_,Ajr a j e.nx (q.ext e) (λi U c=>by have:=q.aw i U;have:=j.ai i c;omega) G G d G,?_⟩;rintro u2 h3 ⟨e2,k,F,w2⟩;have f:=e.then F λi U=>j.ai i U
  refine⟨_,ld B (c1.ext f),_,Akb a (z.ext f) d G,?_⟩;rintro o4 h4 ⟨l,H,l4,s⟩;refine⟨_,Ajr a (k.ext l) (Ao f.nx l.nx) s.rd (λi U c=>by have:=s.ai i U;have:=k.aw i c;omega) G G d G,?_⟩;rintro u3 h5 ⟨e3,m,K,w3⟩;have g:=(f.trans l).then K λi U=>k.ai i U
  refine⟨_,ld B (c3.ext g),_,Apt a (C.ext g) d G,?_⟩;rintro o6 h6 ⟨o,M,l6,u⟩;refine⟨_,Ajr a (m.ext o) (Ao g.nx o.nx) u.rd (λi U c=>by have:=u.ai i U;have:=m.aw i c;omega) G G d G,?_⟩;rintro u4 h7 ⟨v,p,N,w4⟩;have O:0+4+b1.length+4+t.lb.length+4+H.length+4+M.length=v.length:=by have:=p.len;rw[A7] at this;exact this
  rw[O] at p;exact⟨(g.trans o).then N λi U=>m.ai i U,v,G,p⟩
end
end
end Go.Ev
