/-
  RouteHolds: its end.
-/
import Derived.Test.YtbhlngmhgplepaaDoorZhHol3a
import Derived.Test.YtbhlngmhgplepaaDoorZhHol3b
import Derived.Test.YtbhlngmhgplepaaDoorZhHol3c
namespace Go.Proofs.YtbhlngmhgplepaaDoor.Aes
noncomputable section
open Go.Sim
open Go.Proofs
open Go.Bfs
variable {α:Type}
set_option maxRecDepth 1000000
section
variable (V:Nat->Value) (N n k:Nat) (x y:ByteArray) (w:Int) (X Y:ByteArray) (J:zaQ) (z:Nat->Nat->Nat) (mn o:Bool) (es:List MapEntry) (c:Nat) (q:Pth) (d kz kw:Bool) (i j:Nat)
theorem jpl (v hn:Bool) {rk u:Nat} (hr:rk<4) (hu:u<4):zaq [] (hfC V N n k x y w X Y false rk es c q hn kz kw i) [] (hfS V N n k x y w X Y J false rk es c q hn kz kw i none) (false::app (dHt u) (dPe v rk)) z=(hfZ x y kz i hn::cHt es X Y u (cPe x y q v es c rk),q9c):=by
 rcases (show rk=0\/rk=1\/rk=2\/rk=3 by omega) with rfl | rfl | rfl | rfl <;> rcases (show u=0\/u=1\/u=2\/u=3 by omega) with rfl | rfl | rfl | rfl
 . exact j9k V N n k x y w X Y J z es c q kz kw i v hn
 . exact jal V N n k x y w X Y J z es c q kz kw i v hn
 . exact jbl V N n k x y w X Y J z es c q kz kw i v hn
 . exact jcl V N n k x y w X Y J z es c q kz kw i v hn
 . exact jdl V N n k x y w X Y J z es c q kz kw i v hn
 . exact jel V N n k x y w X Y J z es c q kz kw i v hn
 . exact jfl V N n k x y w X Y J z es c q kz kw i v hn
 . exact jgl V N n k x y w X Y J z es c q kz kw i v hn
 . exact jhl V N n k x y w X Y J z es c q kz kw i v hn
 . exact jil V N n k x y w X Y J z es c q kz kw i v hn
 . exact jjl V N n k x y w X Y J z es c q kz kw i v hn
 . exact jkl V N n k x y w X Y J z es c q kz kw i v hn
 . exact jll V N n k x y w X Y J z es c q kz kw i v hn
 . exact jml V N n k x y w X Y J z es c q kz kw i v hn
 . exact jnl V N n k x y w X Y J z es c q kz kw i v hn
 . exact jol V N n k x y w X Y J z es c q kz kw i v hn
end
end
end Go.Proofs.YtbhlngmhgplepaaDoor.Aes
