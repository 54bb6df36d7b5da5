/-
  ConvertFits of the given statements, proved of the program: the call returns true, its arguments stay. Conditions: none beside those of the statement.
-/
import Derived.Test.YtcooopkognhciaaGreatDoorB3
import Derived.ProofKit
import Derived.Lay
import Derived.LaidMore
import Derived.SevenTiedAt
import Derived.JoinedOf
import Derived.Carry
import Derived.ChangeOld
import Derived.Test.YtcooopkognhciaaGreatDoorCards
import Derived.Test.YtcooopkognhciaaGreatDoorTie
set_option linter.all false
open Bool renaming false->Ah,true->Ag
open Go renaming DataW->JO,Func->BC,FuncId->Au,MemPlace->IY,TypeId->Ai,Value->Aa,World->AM
open Option renaming none->Z,some->I,eq_some_of_isSome->eS
open Nat renaming lt_or_ge->A8
open Array renaming getElem?_eq_none->Dr
open Go.Value renaming okWide->gR
open List renaming mem_of_getElem?->AZ,append_nil->Fb
open Go.Ev (B Bm Fp KK Kq)
namespace Go.Proofs.YtcooopkognhciaaGreatDoor
open Go.Proofs.Tryz (prog)
open Rows renaming convertFitsRow->Rx,convertFitsSpec->Px
open Go.ChangeShapes Go.WideShapes Go.ChangeAt Go.RowKit
theorem kU:ownKnob prog.godebug=none:=Kq
theorem Ald {W:AM} (a:W.ShapedOpen prog):Ev.Ax.a<=W.heap.size:=by
 obtain⟨cs,h⟩:=Ev.NT a (g:=9) (eS Kq);have:9<W.heap.size:=by
  rcases A8 9 W.heap.size with J|J
  .exact J
  .rw[Dr J] at h;cases h
 exact this
theorem WH {W a:AM} (h:Ev.QR W a):Below W.heap.size W a:=⟨h.os,h.tape,h.out,h.size,h.same⟩
theorem kQ {W T:AM} (h:Ev.QR W T) (c:IY->Prop):W.keptBut T c:=by
 refine⟨h.os,h.out,λi U=>?_⟩;rw[h.same i U];split
 .rename_i b a;rw[b] at a;cases a;exact⟨rfl,rfl,rfl,λ_ _=>rfl⟩
 .rename_i b a;rw[b] at a;cases a;exact .inr ⟨rfl,rfl⟩
 .rfl
section
variable{H:Type} {Cr:Ai×Aa->H}
theorem NZ {a:Assume} {C:Checked} {os:Os} {f:Au} {fn:BC} {s:ChangeSpec} {h:List PathCond} {d l m n:Bool} {X:AM->Array Aa->Prop}
 (q:∀(w w':AM) (b:Array Aa),w.heap=w'.heap->X w b->X w' b)
 (kU:ownKnob C.prog.godebug=Z) (r:os.Started) (u:C.prog.inits.idxOf? f=Z) (x:C.prog.funcs[f]?=I fn)
 (y:∃(w:AM) (c:Tape) (i:Input),w.os=os/\(w.forCall c i).Shaped C.prog/\i.vars=[]/\Input.okWide C.prog (w.forCall c i) .any w.heap.size f i/\
  ((s.pre Cr C.prog fn h d (w.forCall c i).memory i.args/\X (w.forCall c i).memory i.args)/\sizedMet Cr C.prog fn (OpenSpec.ofChange s) d (w.forCall c i).memory i.args)/\a.holds C.prog (lone (Frame.enter C.prog f i.args .normal) [] (w.forCall c i)))
 (z:∀(W:AM) (base:Nat) (b:Array Aa) (ds g:List (JO H)) (k:List IY),
  (∀(j:Nat) t v,fn.params[j]?=I t->b[j]?=I v->gR C.prog W .any base t v)->
  DataW.Whole Cr C.prog fn.params.toList s.vars d W b.toList ds g k->
  h.all (PathCond.test C.prog ⟨fn.params.toList,ds,s.plain.varTypes C.prog,g⟩)=Ag->
  (DataW.weightsEach C.prog (fn.params.toList++s.plain.varTypes C.prog) (ds++g)).all (·<=reachBytes)=Ag->X W b->W.ShapedOpen C.prog->
  a.holds C.prog (lone (Frame.enter C.prog f b .normal) [] W)->
  Calls C.prog f b W λe o=>∃v,e=.returned v/\s.post Cr C.prog fn d l m n W b v o):
 ReturnsInHanded a C os f .any (λw b=>(s.pre Cr C.prog fn h d w b/\X w b)/\sizedMet Cr C.prog fn (OpenSpec.ofChange s) d w b) (s.post Cr C.prog fn d l m n):=by
 refine returnsInHanded_of_calls kU r u y ?_;intro w c i _ A _ D E F;obtain⟨_,_,_,K,L,_,_,_,_,M⟩:=D;have e:K=fn:=Option.some.inj (L.symm.trans x);subst e;obtain⟨⟨⟨ds,g,k,p,N⟩,O⟩,P⟩:=E;have Q:=DataW.Whole.of_heap (w':=w.forCall c i) (by rfl) p;refine(z (w.forCall c i) w.heap.size i.args ds g k M Q N (P.weights p) (q _ _ _ (by rfl) O) A F).mono λe o ⟨v,R,S⟩=>?_;subst R;exact ChangeSpec.post_blind S
end
theorem Sf (os:Os) (a:Array Aa):laidMetH prog Rx.laid ((World.laidAll prog os Rx.laid).forCall (λ_ _=>0) ⟨#[],a,[]⟩).memory:=by
 rw[MakeChecks.laidMetH_plain _ _ _ Kq];exact laidMet_laidAll a Kq Kq
theorem Zk:laidOutB prog=true:=Kq
theorem mapsRowed:Go.mapsRowed prog=true:=Kq
theorem Ahh:prog.mayEnter=true:=Kq
theorem AAh:prog.funcs.any Func.goes=false:=Kq
theorem Pu:prog.unfollowed 3=true:=Kq
theorem Agt:prog.inPlace 3=Rx.inPlace:=Kq
theorem Yj:prog.varsNamed 3=Rx.named:=Kq
theorem Aau:prog.recurses 3=true:=by unfold Program.recurses;rw[Pu];rfl
theorem Arx:joinedFacts prog 3 Tryz.f3 Px Rx=true:=by
 unfold joinedFacts;rw[Zk,mapsRowed,Agt,Pu,Aau,Yj,Ahh];kernel_rfl
theorem Aav {W:AM} (a:W.ShapedOpen prog) (b:laidMet prog Rx.laid W):Ev.H9 prog W Ev.W5:=by
 exact⟨⟨_,_,B,Kq,Ev.FK a b (AZ (i:=8) B) (g:=0) (n:=4) Kq (eS Kq) Kq⟩,⟨⟨_,_,B,Kq,Ev.FK a b (AZ (i:=4) B) (g:=1) (n:=4) Kq (eS Kq) Kq⟩,⟨⟨_,_,B,Kq,Ev.FK a b (AZ (i:=5) B) (g:=2) (n:=4) Kq (eS Kq) Kq⟩,⟨⟨_,_,B,Kq,Ev.FK a b (AZ (i:=6) B) (g:=3) (n:=4) Kq (eS Kq) Kq⟩,⟨⟨_,_,B,Kq,Ev.FK a b (AZ (i:=0) B) (g:=4) (n:=4) Kq (eS Kq) Kq⟩,⟨⟨_,_,B,Kq,Ev.FK a b (AZ (i:=7) B) (g:=5) (n:=4) Kq (eS Kq) Kq⟩,⟨⟨_,_,B,Kq,Ev.FK a b (AZ (i:=3) B) (g:=7) (n:=4) Kq (eS Kq) Kq⟩,trivial⟩⟩⟩⟩⟩⟩⟩
set_option maxRecDepth 100000 in
theorem O3 (os:Os) (m:os.Started) (H:Type) (Cr:Ai×Aa->H):
 ReturnsInHanded {} Tryz.checked os 3 .any (λw args=>(Px.pre Cr prog Tryz.f3 [] Ah w args/\laidMetH prog Rx.laid w)/\sizedMet Cr prog Tryz.f3 (OpenSpec.ofChange Px) Ah w args)
  (Px.post Cr prog Tryz.f3 Ah Ag Ah Ah):=by
 refine NZ (C:=Tryz.checked) (X:=λw _=>laidMetH prog Rx.laid w) (λ_ _ _ n h=>h.of_heap n) kU m Kq Tryz.func3
  (ChangeSpec.witness_at (enc:=Cr) (C:=Tryz.checked) (os:=os) (X:=λw _=>laidMetH prog Rx.laid w) Ah (World.laidAll prog os Rx.laid) #[.agg #[.slice Z 0 0,.int .i64 0,.slice Z 0 0,.slice Z 0 0,.string .empty,.slice Z 0 0,.slice Z 0 0],.int .i64 0,.slice Z 0 0] 8 (World.laidAll_os _ _ _) Kq Kq Kq Kq Kq (Sf os _)) ?_
 intro W base args ds o Q r c _ _ s d _;have u:laidMet prog Rx.laid W:=by
  have h:laidMetH prog Rx.laid W:=s;rw[MakeChecks.laidMetH_plain _ _ _ Kq] at h;exact h
 have f:∀(j:Nat) t v,Tryz.f3.params[j]?=I t->args[j]?=I v->gR prog W .any base t v:=r;have g:=c;obtain⟨p,q,y,z,rfl,R,S⟩:=c;have i:DataW.TrodAll Cr prog W 0 (λ_=>Ag) Ag Tryz.f3.params.toList args.toList ds p:=y;have A:DataW.TrodVars Cr prog W (λ_=>Ag) [] o q:=z;rw[Tryz.params3] at i f;obtain⟨D,D1,D2,d0,d1,d2,p0,p1,p2,rfl,rfl,rfl,a,a1,a2⟩:=trodAll_three i;obtain⟨rfl,rfl⟩:=trodVars_none A;have k:=Aav d u;obtain⟨y1,rfl,rfl,rfl,hy⟩:=open_int Tryz.underlying3 (f 1 3 D1 B B) a1
 obtain⟨x,rfl,F,L,K,M⟩:=Ev.Ahx (f 0 30 D B B) a k;obtain⟨m,E2⟩:=id a2;rw[show D2.cells.toList=[D2] by have q:Cell.okWide prog W .any base 31 D2:=f 2 31 D2 B B;unfold Cell.okWide at q;rw[Tryz.underlying31] at q;unfold Cell.ok at q;rw[Tryz.underlying31] at q;cases D2<;>first|rfl|cases q] at E2;obtain⟨w2,r2,v2,_⟩:=Ev.Ip (encA:=Ev.Zey) (k:=2) Tryz.underlying31 Kq Ev.WWb (λ_=>⟨B,B⟩) (by decide) (f 2 31 D2 B B) E2 k
 simp only[Fb] at g;have b:Px.fn H ([d0,.lit (.int .i64 y1),d2]++[])={results:=[.lit (.bool Ag)],args:=[d0,.lit (.int .i64 y1),d2]}:=by simp[Px]
 refine(callsIn_wide.1 (Ev.Yn k (Ald d) K M F r2 v2)).mono λe T ⟨N,l⟩=>?_;subst N;have hb:=WH l;obtain⟨O,P⟩:=id a;have a0:=Below.trod Zk Kq (Fp Kq) a hb (DataW.trod_lt O 30 _ _ P);obtain⟨O,P⟩:=id a2;have a2:=Below.trod Zk Kq (Fp Kq) a2 hb (DataW.trod_lt O 31 _ _ P);refine⟨_,B,_,_,_,[],p0++([]++p2),[],g,?_,?_,?_,kQ l _,λh=>by cases h⟩
 .rw[b];exact trodAll_mk1 (shut_bool Tryz.underlying4 Ag)
 .rw[b];exact trodAll_mk3 a0 (shut_int Tryz.underlying3 hy) a2
 .rw[b];rfl
theorem PN:Rows.ConvertFitsSaid:=
 OpenClaim.holds_of_wide 3 Tryz.f3 B B B B B B B ⟨B,B,B,B,B⟩ B B B B B Kq Tryz.func3 Arx
  (Fp Kq) (by unfold Func.isWrapper;rw[Bm (KK Kq)];exact⟨B,B⟩)
  (λos a H Cr _=>O3 os a H Cr)
theorem Art:Ag=prog.looks []:=Kq
theorem Ala:prog.mainIs=I (Ag,"14122b40d2f1bf31082c3b0e623da28f0951793d70a8035478cfc71776344869".toList):=Kq
theorem zJ:Ah=Rx.goesBy prog:=Ev.Aby AAh rfl
theorem wa:Rx.wfByText (OpenSpec.ofChange Px)=true:=Kq
theorem convertFits_card:Rows.ConvertFitsCardSaid:=
 Claim7.holds_tied_plain_at .later [] [.data,.data,.data,.data,.data,.widerDeep,.wider,.widerDeep,.pinned] Ag (Ag,"14122b40d2f1bf31082c3b0e623da28f0951793d70a8035478cfc71776344869") Ag
  PN (λ_ h=>by cases h) wa (λ_ h=>by cases h) convertFits_row_tie B ⟨B,B⟩ Ala B
  (λf fn b c=>by
   obtain rfl:f=3:=Option.some.inj ((show prog.funcNamed Rx.func=I 3 from Kq).symm.trans b)|>.symm;obtain rfl:fn=Tryz.f3:=(Option.some.inj (Tryz.func3.symm.trans c)).symm;exact⟨Art,λj t a=>by
    rw[Tryz.params3] at a;rcases j with _|_|_|j<;>simp at a
    .subst a;exact(show prog.wantsStandIn 30=Ah from Kq)
    .subst a;exact(show prog.wantsStandIn 3=Ah from Kq)
    .subst a;exact(show prog.wantsStandIn 31=Ah from Kq)⟩)
  zJ
end Go.Proofs.YtcooopkognhciaaGreatDoor
