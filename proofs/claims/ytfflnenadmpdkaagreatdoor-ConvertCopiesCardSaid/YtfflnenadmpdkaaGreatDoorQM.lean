/-
  words.Nodes on the chapter's text, in all orders of its map.
-/
import Derived.Test.YtfflnenadmpdkaaGreatDoorA1
set_option maxRecDepth 100000
set_option maxHeartbeats 40000000
set_option linter.all false
open Bool renaming false->Ah,true->Ag,rec->B1,or_eq_true->Dm,and_eq_true->An,true_and->gT,or_eq_false_iff->Iy,and_true->Mh
open Go renaming Addr->BD,BinOp->CT,Code->DC,Deferred->Hh,Func->BC,FuncId->Au,IntKind->Cq,MapEntry->Ap,Oper->C0,Operand->BU,TypeDesc->eT,TypeId->Ai,TypeInfo->KR,Value->Aa
open Option renaming none->Z,some->I,getD_some->EN
open List renaming rec->Hg,getElem?_eq_getElem->Ab,all_eq_true->Jf,mem_cons_of_mem->Az,getElem?_append_left->AB,mem_cons_self->Av,cons_append->KB,length_cons->AO,getElem?_set_self->O4,getElem?_set_ne->fT,length_singleton->Br,drop_eq_getElem_cons->Di,length_append->Aj,length_drop->AV,drop_zero->dQ,append_nil->Fb,replicate->AE,length_take->Cg,getElem?_take->LS,getElem?_drop->Eg,range->BG,sum_cons->gv,count_le_length->HM,map_cons->Bp,map_map->O5,count_append->K0,ext_getElem->kh,length_map->A4,getElem_map->EU,getElem_range->kP,getD_eq_getElem?_getD->Ak,take_of_length_le->Bj,getElem?_map->AX,getElem?_range->Jj,mem_of_getElem?->AZ,take_length->CS,getElem_mem->Bu,getElem?_eq_none->CD,take_succ_eq_append_getElem->A5,map_append->BS,sum_append->PC,range_succ->fU,eq_of_mem_replicate->CH,mem_or_eq_of_mem_set->BT,length_set->B4,getElem?_set->Iu,map_set->Cp,map_replicate->KD,nil_append->IW,append_assoc->KA,eraseIdx_cons_succ->W6,take_sublist->kM,getElem?_cons_zero->CO,getElem?_cons_succ->B5
open Nat renaming beq->Am,blt->AD,succ->A3,blt_eq->AK,eq_of_beq_eq_true->Af,le_refl->Ae,zero_add->Ba,not_lt_zero->F5,ble->Ar,ble_eq_true_of_le->Aq,le_of_ble_eq_true->Ac,lt_of_not_le->BB,lt_or_ge->A8,le_trans->Ao,lt_of_lt_of_le->AC,mul_le_mul->Cj,le_of_eq->A2,add_mul->Dw,mul_le_mul_right->Ci,zero_mul->Qg,add_assoc->DD,add_zero->UL,add_comm->UK,mul_one->BJ,rec->UE,div->Qe,mod->Zy,testBit_and->Tt,testBit_two_pow_mul_add->IX,lt_of_le_of_lt->Ji,and_le_left->Ms,mul_add->EG,mul_assoc->gO,mod_lt->Je,and_two_pow_sub_one_eq_mod->EH,add_mul_mod_self_left->WY,mod_eq_of_lt->JQ,eq_zero_or_pos->KQ,zero_le->Al,or_lt_two_pow->Zz,pow_lt_pow_right->kR,pow_le_pow_right->Na,and_le_right->ke,mul_comm->UI
open Int renaming ofNat->AQ,toNat_of_nonneg->UQ,ofNat_eq_natCast->M9
open Go.Region renaming before->Df
open Go.Value renaming slice->PA,int->AL,bool->CU,tuple->C4
open Array renaming length_toList->EZ
namespace Go.Ev
open Go Go.Proofs Tryz
noncomputable section
def dZ (τ:Bb) (a:Be) (f:Au) (M:E2) (pl:Bo):Bool:=match a (.func f) M.args (Ia τ M) (λv h=>I [.val v h]) (λ_ _=>Z) with
 |some l=>l.all λo=>match o with|.val v h=>Ub τ M pl v h|_=>Ah
 |none=>Ah
def kZ:dZ Ax (QJ Ax lI 1000000 200) 56 jv [120]=Ag:=by kernel_rfl
end
end Go.Ev
