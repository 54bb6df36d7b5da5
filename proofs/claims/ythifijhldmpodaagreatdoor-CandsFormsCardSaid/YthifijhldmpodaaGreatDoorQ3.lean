/-
  A part of the proof.
-/
import Derived.Shelf.SlGeneric
import Derived.Ground.NamesProg
import Derived.Ground.SlsfProg
import Derived.Shelf.SlLaysF0
import Derived.Shelf.Slices.In.SortAlone
import Derived.KernelRfl
import Derived.Test.YthifijhldmpodaaGreatDoorProg
open Bool renaming false->Ah
open Go renaming Func->BC,Program->AN
open Option renaming some->I
namespace Go.Proofs
open Go.Shelf
def Auz (P:AN) (i:Nat):String:=match P.funcs[i]? with|some f=>f.name|none=>""
theorem P6 {P:AN} {i:Nat} {a:BC} (b:(Auz P i=="runtime.NumGoroutine")=Ah) (c:P.funcs[i]?=I {a with name:=Auz P i}):Bears P i a:=⟨_,b,c⟩
def Tryz.bR:Go.Shelf.Ren:=⟨λ|6=>137|15=>211|14=>210|28=>278|29=>240|20=>270|21=>271|22=>272|23=>273|24=>274|25=>275|26=>276|27=>277|46=>321|47=>322|48=>323|49=>324|50=>325|57=>350|n=>n,λ|22=>78|24=>93|25=>244|3=>3|39=>303|0=>0|53=>301|55=>213|4=>4|46=>384|45=>383|50=>91|5=>5|9=>9|66=>418|70=>421|76=>441|77=>380|n=>n,λ|n=>n⟩
theorem Tryz.dg:Go.Proofs.SlLaysF0.n6 Tryz.prog Tryz.bR:=by
 constructor<;>first|exact P6 (by kernel_rfl) (by kernel_rfl)|(intro w;kernel_rfl)|kernel_rfl
def Tryz.bT:Go.Shelf.Ren:=⟨λ|6=>167|15=>211|14=>237|28=>278|29=>240|20=>297|21=>298|22=>299|23=>300|24=>301|25=>302|26=>303|27=>304|46=>340|47=>322|48=>323|49=>341|50=>342|57=>359|n=>n,λ|22=>24|24=>114|25=>268|3=>3|39=>303|0=>0|53=>301|55=>213|4=>4|46=>384|45=>383|50=>91|5=>5|9=>9|66=>418|70=>421|76=>441|77=>380|n=>n,λ|n=>n⟩
theorem Tryz.c9:Go.Proofs.SlLaysF0.n6 Tryz.prog Tryz.bT:=by
 constructor<;>first|exact P6 (by kernel_rfl) (by kernel_rfl)|(intro w;kernel_rfl)|kernel_rfl
def Tryz.bY:Go.Shelf.Ren:=⟨λ|6=>317|15=>211|14=>348|28=>278|29=>240|20=>361|21=>362|22=>363|23=>364|24=>365|25=>366|26=>367|27=>368|46=>373|47=>322|48=>323|49=>374|50=>375|57=>376|n=>n,λ|22=>292|24=>298|25=>366|3=>3|39=>303|0=>0|53=>301|55=>213|4=>4|46=>384|45=>383|50=>91|5=>5|9=>9|66=>418|70=>421|76=>441|77=>380|n=>n,λ|n=>n⟩
theorem Tryz.da:Go.Proofs.SlLaysF0.n6 Tryz.prog Tryz.bY:=by
 constructor<;>first|exact P6 (by kernel_rfl) (by kernel_rfl)|(intro w;kernel_rfl)|kernel_rfl
def Tryz.ca:Go.Shelf.Ren:=⟨λ|190=>173|125=>211|258=>242|128=>278|129=>240|302=>305|303=>306|304=>307|305=>308|306=>309|307=>310|308=>311|309=>312|310=>313|333=>343|329=>322|330=>323|334=>344|335=>345|336=>280|344=>360|n=>n,λ|31=>55|9=>9|3=>3|46=>303|0=>0|51=>301|53=>213|4=>4|183=>384|182=>383|131=>91|5=>5|218=>418|222=>421|228=>441|229=>380|n=>n,λ|n=>n⟩
theorem Tryz.b7:Go.Proofs.Lays.n190 Tryz.prog Tryz.ca:=by
 constructor<;>first|exact P6 (by kernel_rfl) (by kernel_rfl)|(intro w;kernel_rfl)|kernel_rfl
end Go.Proofs
