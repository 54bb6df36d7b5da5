/-
  words.Nodes on the chapter's text, in all orders of its map.
-/
import Derived.Test.YtcooopkognhciaaGreatDoorA1
set_option maxRecDepth 100000
set_option maxHeartbeats 40000000
set_option linter.all false
open Bool renaming false->Ah,true->Ag
open Go renaming FuncId->Au
open Option renaming none->Z,some->I
namespace Go.Ev
open Go Go.Proofs Tryz
noncomputable section
def dZ (τ:Bb) (a:Be) (f:Au) (M:E2) (pl:Bo):Bool:=match a (.func f) M.args (Ia τ M) (λv h=>I [.val v h]) (λ_ _=>Z) with
 |some l=>l.all λo=>match o with|.val v h=>Ub τ M pl v h|_=>Ah
 |none=>Ah
def kZ:dZ Ax (QJ Ax lI 1000000 200) 59 jv [120]=Ag:=by kernel_rfl
end
end Go.Ev
