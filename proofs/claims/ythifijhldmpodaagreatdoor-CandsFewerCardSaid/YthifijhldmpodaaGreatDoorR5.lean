/-
  CandsFewer of the given statements, proved of the program: the call returns true, its arguments stay. Conditions: none beside those of the statement.
-/
import Derived.Test.YthifijhldmpodaaGreatDoorR4
import Derived.ProofKit
import Derived.Lay
import Derived.LaidMore
import Derived.SevenTiedAt
import Derived.JoinedOf
import Derived.Carry
import Derived.ChangeOld
import Derived.Test.YthifijhldmpodaaGreatDoorCards
import Derived.Test.YthifijhldmpodaaGreatDoorTie
set_option linter.all false
open Bool renaming false->Ah,true->Ag
open Go renaming DataW->JO,Func->BC,FuncId->Au,MemPlace->IY,TypeId->Ai,Value->Aa,World->AM
open Option renaming none->Z,some->I
open Nat renaming lt_or_ge->A8
open Array renaming getElem?_eq_none->Dr
open Go.Value renaming okWide->Acg
open List renaming mem_of_getElem?->AZ,append_nil->Fb
open Go.Ev (B Bm Fp KK)
namespace Go.Proofs.YthifijhldmpodaaGreatDoor
open Go.ChangeShapes Go.WideShapes Go.ChangeAt Go.RowKit
theorem own:ownKnob Tryz.prog.godebug=none:=by kernel_rfl
theorem Ald {W:AM} (a:W.ShapedOpen Tryz.prog):Ev.Ax.ng<=W.heap.size:=by
 obtain⟨cs,h⟩:=Ev.NT a (g:=9) (Tryz.prog.globals[9]?.eq_some_of_isSome (by kernel_rfl));have:9<W.heap.size:=by
  rcases A8 9 W.heap.size with J|J
  .exact J
  .rw[Dr J] at h;cases h
 exact this
theorem WH {W a:AM} (h:Ev.QR W a):Below W.heap.size W a:=⟨h.os,h.tape,h.out,h.size,h.same⟩
section
variable{H:Type} {Cr:Ai×Aa->H}
theorem NZ {a:Assume} {C:Checked} {os:Os} {f:Au} {fn:BC} {s:ChangeSpec} {h:List PathCond} {d l m n:Bool} {X:AM->Array Aa->Prop}
 (q:∀(w w':AM) (b:Array Aa),w.heap=w'.heap->X w b->X w' b)
 (own:ownKnob C.prog.godebug=Z) (r:os.Started) (u:C.prog.inits.idxOf? f=Z) (x:C.prog.funcs[f]?=I fn)
 (y:∃(w:AM) (c:Tape) (i:Input),w.os=os/\(w.forCall c i).Shaped C.prog/\i.vars=[]/\Input.okWide C.prog (w.forCall c i) .any w.heap.size f i/\
  ((s.pre Cr C.prog fn h d (w.forCall c i).memory i.args/\X (w.forCall c i).memory i.args)/\sizedMet Cr C.prog fn (OpenSpec.ofChange s) d (w.forCall c i).memory i.args)/\a.holds C.prog (lone (Frame.enter C.prog f i.args .normal) [] (w.forCall c i)))
 (z:∀(W:AM) (base:Nat) (b:Array Aa) (ds g:List (JO H)) (k:List IY),
  (∀(j:Nat) t v,fn.params[j]?=I t->b[j]?=I v->Acg C.prog W .any base t v)->
  DataW.Whole Cr C.prog fn.params.toList s.vars d W b.toList ds g k->
  h.all (PathCond.test C.prog ⟨fn.params.toList,ds,s.plain.varTypes C.prog,g⟩)=Ag->
  (DataW.weightsEach C.prog (fn.params.toList++s.plain.varTypes C.prog) (ds++g)).all (·<=reachBytes)=Ag->X W b->W.ShapedOpen C.prog->
  a.holds C.prog (lone (Frame.enter C.prog f b .normal) [] W)->
  Calls C.prog f b W λe o=>∃v,e=.returned v/\s.post Cr C.prog fn d l m n W b v o):
 ReturnsInHanded a C os f .any (λw b=>(s.pre Cr C.prog fn h d w b/\X w b)/\sizedMet Cr C.prog fn (OpenSpec.ofChange s) d w b) (s.post Cr C.prog fn d l m n):=by
 refine returnsInHanded_of_calls own r u y ?_;intro w c i _ A _ D E F;obtain⟨_,_,_,K,L,_,_,_,_,M⟩:=D;have e:K=fn:=Option.some.inj (L.symm.trans x);subst e;obtain⟨⟨⟨ds,g,k,p,N⟩,O⟩,P⟩:=E;have Q:=DataW.Whole.of_heap (w':=w.forCall c i) (by rfl) p;refine(z (w.forCall c i) w.heap.size i.args ds g k M Q N (P.weights p) (q _ _ _ (by rfl) O) A F).mono λe o ⟨v,R,S⟩=>?_;subst R;exact ChangeSpec.post_blind S
end
theorem Sf (os:Os) (a:Array Aa):laidMetH Tryz.prog Rows.candsFewerRow.laid ((World.laidAll Tryz.prog os Rows.candsFewerRow.laid).forCall (λ_ _=>0) ⟨#[],a,[]⟩).memory:=by
 rw[MakeChecks.laidMetH_plain _ _ _ (by kernel_rfl)];exact laidMet_laidAll a (by kernel_rfl) (by kernel_rfl)
theorem Zk:laidOutB Tryz.prog=true:=by kernel_rfl
theorem mapsRowed:Go.mapsRowed Tryz.prog=true:=by kernel_rfl
theorem Ahh:Tryz.prog.mayEnter=true:=by kernel_rfl
theorem AAh:Tryz.prog.funcs.any Func.goes=false:=by kernel_rfl
theorem Pu:Tryz.prog.unfollowed 5=true:=by kernel_rfl
theorem Agt:Tryz.prog.inPlace 5=Rows.candsFewerRow.inPlace:=by kernel_rfl
theorem Yj:Tryz.prog.varsNamed 5=Rows.candsFewerRow.named:=by kernel_rfl
theorem Aau:Tryz.prog.recurses 5=true:=by unfold Program.recurses;rw[Pu];rfl
theorem Arx:joinedFacts Tryz.prog 5 Tryz.f5 Rows.candsFewerSpec Rows.candsFewerRow=true:=by
 unfold joinedFacts;rw[Zk,mapsRowed,Agt,Pu,Aau,Yj,Ahh];kernel_rfl
theorem Aav {W:AM} (a:W.ShapedOpen Tryz.prog) (b:laidMet Tryz.prog Rows.candsFewerRow.laid W):Ev.H9 Tryz.prog W Ev.W5:=by
 exact⟨⟨_,_,B,by kernel_rfl,Ev.FK a b (AZ (i:=8) B) (g:=0) (n:=4) (by kernel_rfl) (Tryz.prog.globals[0]?.eq_some_of_isSome (by kernel_rfl)) (by kernel_rfl)⟩,⟨⟨_,_,B,by kernel_rfl,Ev.FK a b (AZ (i:=4) B) (g:=1) (n:=4) (by kernel_rfl) (Tryz.prog.globals[1]?.eq_some_of_isSome (by kernel_rfl)) (by kernel_rfl)⟩,⟨⟨_,_,B,by kernel_rfl,Ev.FK a b (AZ (i:=5) B) (g:=2) (n:=4) (by kernel_rfl) (Tryz.prog.globals[2]?.eq_some_of_isSome (by kernel_rfl)) (by kernel_rfl)⟩,⟨⟨_,_,B,by kernel_rfl,Ev.FK a b (AZ (i:=6) B) (g:=3) (n:=4) (by kernel_rfl) (Tryz.prog.globals[3]?.eq_some_of_isSome (by kernel_rfl)) (by kernel_rfl)⟩,⟨⟨_,_,B,by kernel_rfl,Ev.FK a b (AZ (i:=7) B) (g:=4) (n:=4) (by kernel_rfl) (Tryz.prog.globals[4]?.eq_some_of_isSome (by kernel_rfl)) (by kernel_rfl)⟩,⟨⟨_,_,B,by kernel_rfl,Ev.FK a b (AZ (i:=0) B) (g:=5) (n:=4) (by kernel_rfl) (Tryz.prog.globals[5]?.eq_some_of_isSome (by kernel_rfl)) (by kernel_rfl)⟩,⟨⟨_,_,B,by kernel_rfl,Ev.FK a b (AZ (i:=3) B) (g:=7) (n:=4) (by kernel_rfl) (Tryz.prog.globals[7]?.eq_some_of_isSome (by kernel_rfl)) (by kernel_rfl)⟩,trivial⟩⟩⟩⟩⟩⟩⟩
set_option maxRecDepth 100000 in
theorem O3 (os:Os) (m:os.Started) (H:Type) (Cr:Ai×Aa->H):
 ReturnsInHanded {} Tryz.checked os 5 .any (λw args=>(Rows.candsFewerSpec.pre Cr Tryz.prog Tryz.f5 [] Ah w args/\laidMetH Tryz.prog Rows.candsFewerRow.laid w)/\sizedMet Cr Tryz.prog Tryz.f5 (OpenSpec.ofChange Rows.candsFewerSpec) Ah w args)
  (Rows.candsFewerSpec.post Cr Tryz.prog Tryz.f5 Ah Ag Ah Ah):=by
 refine NZ (C:=Tryz.checked) (X:=λw _=>laidMetH Tryz.prog Rows.candsFewerRow.laid w) (λ_ _ _ n h=>h.of_heap n) own m (by kernel_rfl) Tryz.func5
  (ChangeSpec.witness_at (enc:=Cr) (C:=Tryz.checked) (os:=os) (X:=λw _=>laidMetH Tryz.prog Rows.candsFewerRow.laid w) Ah (World.laidAll Tryz.prog os Rows.candsFewerRow.laid) #[.agg #[.slice Z 0 0,.int .i64 0,.slice Z 0 0,.slice Z 0 0,.string .empty,.slice Z 0 0,.slice Z 0 0,.int .i64 0,.int .i64 0,.int .i64 0,.int .i64 0,.int .i64 0,.int .i64 0],.int .u8 0] 8 (World.laidAll_os _ _ _) (by kernel_rfl) (by kernel_rfl) (by kernel_rfl) (by kernel_rfl) (by kernel_rfl) (Sf os _)) ?_
 intro W base args ds o Q r c _ _ s d _;have u:laidMet Tryz.prog Rows.candsFewerRow.laid W:=by
  have h:laidMetH Tryz.prog Rows.candsFewerRow.laid W:=s;rw[MakeChecks.laidMetH_plain _ _ _ (by kernel_rfl)] at h;exact h
 have f:∀(j:Nat) t v,Tryz.f5.params[j]?=I t->args[j]?=I v->Acg Tryz.prog W .any base t v:=r;have g:=c;obtain⟨p,q,y,z,rfl,R,S⟩:=c;have i:DataW.TrodAll Cr Tryz.prog W 0 (λ_=>Ag) Ag Tryz.f5.params.toList args.toList ds p:=y;have A:DataW.TrodVars Cr Tryz.prog W (λ_=>Ag) [] o q:=z;rw[Tryz.params5] at i f;obtain⟨D,D1,d0,d1,p0,p1,rfl,rfl,rfl,a,a2⟩:=trodAll_two i;obtain⟨rfl,rfl⟩:=trodVars_none A;have E:=a;have k:=Aav d u;obtain⟨z,rfl,rfl,rfl,hz⟩:=open_int Tryz.underlying5 (f 1 5 D1 B B) a2;have U:0<=z/\z<=255:=(Bool.and_eq_true_iff.1 hz).imp of_decide_eq_true of_decide_eq_true
 obtain⟨m,rfl⟩:∃m:Nat,z=m:=⟨z.toNat,by omega⟩;obtain⟨x,rfl,F,L,K,M⟩:=Ev.Ahx (f 0 34 D B B) a k;simp only[Fb] at g;have b:Rows.candsFewerSpec.fn H ([d0,.lit (.int .u8 m)]++[])={results:=[.lit (.bool Ag)],args:=[d0,.lit (.int .u8 m)]}:=by simp[Rows.candsFewerSpec]
 refine(callsIn_wide.1 (Ev.Yn k (Ald d) (by omega) K M F)).mono λe T ⟨N,l⟩=>?_;subst N;have hb:=WH l;obtain⟨O,P⟩:=a;have a0:=Below.trod Zk (by kernel_rfl) (Fp (by kernel_rfl)) E hb (DataW.trod_lt O 34 _ _ P);refine⟨_,B,_,_,_,[],p0++[],[],g,?_,?_,?_,l.kept _,λh=>by cases h⟩
 .rw[b];exact trodAll_mk1 (shut_bool Tryz.underlying4 Ag)
 .rw[b];exact trodAll_mk2 a0 (shut_int Tryz.underlying5 hz)
 .rw[b];rfl
theorem PN:Rows.CandsFewerSaid:=
 OpenClaim.holds_of_wide 5 Tryz.f5 B B B B B B B ⟨B,B,B,B,B⟩ B B B B B (by kernel_rfl) Tryz.func5 Arx
  (Fp (by kernel_rfl)) (by unfold Func.isWrapper;rw[Bm (KK (by kernel_rfl))];exact⟨B,B⟩)
  (λos a H Cr _=>O3 os a H Cr)
theorem Art:Ag=Tryz.prog.looks []:=by kernel_rfl
theorem Ala:Tryz.prog.mainIs=I (Ag,"d9249dffe06d0e76af2bedbe60333f2ec6e25a4cf81b6b1110759d9bf517cf2c".toList):=by kernel_rfl
theorem Azb:Ah=Rows.candsFewerRow.goesBy Tryz.prog:=Ev.Aby AAh rfl
theorem wf5:Rows.candsFewerRow.wfByText (OpenSpec.ofChange Rows.candsFewerSpec)=true:=by kernel_rfl
theorem candsFewer_card:Rows.CandsFewerCardSaid:=
 Claim7.holds_tied_plain_at .later [] [.data,.data,.data,.data,.data,.widerDeep,.wider,.widerDeep,.pinned] Ag (Ag,"d9249dffe06d0e76af2bedbe60333f2ec6e25a4cf81b6b1110759d9bf517cf2c") Ag
  PN (λ_ h=>by cases h) wf5 (λ_ h=>by cases h) candsFewer_row_tie B ⟨B,B⟩ Ala B
  (λf fn b c=>by
   obtain rfl:f=5:=Option.some.inj ((show Tryz.prog.funcNamed Rows.candsFewerRow.func=I 5 by kernel_rfl).symm.trans b)|>.symm;obtain rfl:fn=Tryz.f5:=(Option.some.inj (Tryz.func5.symm.trans c)).symm;exact⟨Art,λj t a=>by
    rw[Tryz.params5] at a;rcases j with _|_|j<;>simp at a
    .subst a;exact(show Tryz.prog.wantsStandIn 34=Ah by kernel_rfl)
    .subst a;exact(show Tryz.prog.wantsStandIn 5=Ah by kernel_rfl)⟩)
  Azb
end Go.Proofs.YthifijhldmpodaaGreatDoor
