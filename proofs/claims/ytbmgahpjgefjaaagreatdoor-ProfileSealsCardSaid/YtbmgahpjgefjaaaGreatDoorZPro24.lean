/-
  The profiles: Open, where it is told that the key and the usage are valid: its runs.
-/
import Derived.Test.YtbmgahpjgefjaaaGreatDoorPk18
namespace Go.Proofs.YtbmgahpjgefjaaaGreatDoor.Aes
open Go.Sim
open Go.Proofs
variable {α:Type}
set_option maxRecDepth 1000000
noncomputable def ogN (t:Sl) (g:Int):Int:=(t.n:Int) - g
noncomputable def ocS (t:Sl) (g:Int):Sl:=⟨t.X,t.N,t.o,(ogN t g).toNat,false,(ogN t g).toNat⟩
noncomputable def otS (t:Sl) (g:Int):Sl:=⟨t.X,t.N,t.o+(ogN t g).toNat * 1,(t.n:Int).toNat - (ogN t g).toNat,false,(t.n:Int).toNat - (ogN t g).toNat⟩
section
variable (F:HashF) (E D:CtsF) (v u sp sv:Int) (k t:Sl) (m m2:Nat)
end
end Go.Proofs.YtbmgahpjgefjaaaGreatDoor.Aes
