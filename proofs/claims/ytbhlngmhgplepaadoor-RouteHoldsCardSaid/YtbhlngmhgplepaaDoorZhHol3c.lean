/-
  RouteHolds: its end.
-/
import Derived.Test.YtbhlngmhgplepaaDoorZhHol3a
namespace Go.Proofs.YtbhlngmhgplepaaDoor.Aes
noncomputable section
open Go.Sim
open Go.Proofs
open Go.Bfs
variable {α:Type}
set_option maxRecDepth 1000000
section
variable (V:Nat->Value) (N n k:Nat) (x y:ByteArray) (w:Int) (X Y:ByteArray) (J:zaQ) (z:Nat->Nat->Nat) (mn o:Bool) (es:List MapEntry) (c:Nat) (q:Pth) (d kz kw:Bool) (i j:Nat)
theorem jai (v hn:Bool):zas (fun rk=>zaq [] (hfC V N n k x y w X Y false rk es c q hn kz kw i) [] (hfS V N n k x y w X Y J false rk es c q hn kz kw i none) (false::app (dHt 4) (dPe v rk)) z) (qqa 4 0)=zas (fun rk=>(hfZ x y kz i hn::cHt es X Y 4 (cPe x y q v (tiK es c X Y) (c+1) rk),q9c)) (qqa 4 0):=by cases v <;> cases hn <;> cases kz <;> cases kw <;> kernel_rfl
theorem jbi (v hn:Bool):zas (fun rk=>zas (fun u=>zaq [] (hfC V N n k x y w X Y true rk es c q hn kz kw i) [] (hfS V N n k x y w X Y J true rk es c q hn kz kw i none) (false::app (dHn u) (dPe v rk)) z) (qqa 2 0)) (qqa 4 0)=zas (fun rk=>zas (fun u=>(hfZ x y kz i hn::cHn X Y u (cPe x y q v [] 0 rk),q9c)) (qqa 2 0)) (qqa 4 0):=by cases v <;> cases hn <;> cases kz <;> cases kw <;> kernel_rfl
theorem jci (v hn:Bool):zas (fun rk=>zaq [] (hfC V N n k x y w X Y true rk es c q hn kz kw i) [] (hfS V N n k x y w X Y J true rk es c q hn kz kw i none) (false::app (dHn 2) (dPe v rk)) z) (qqa 4 0)=zas (fun rk=>(hfZ x y kz i hn::cHn X Y 2 (cPe x y q v (zeY X Y) 1 rk),q9c)) (qqa 4 0):=by cases v <;> cases hn <;> cases kz <;> cases kw <;> kernel_rfl
end
end
end Go.Proofs.YtbhlngmhgplepaaDoor.Aes
