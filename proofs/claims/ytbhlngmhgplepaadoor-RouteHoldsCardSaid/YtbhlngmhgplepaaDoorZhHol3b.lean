/-
  RouteHolds: its end.
-/
import Derived.Test.YtbhlngmhgplepaaDoorZhHol3a
namespace Go.Proofs.YtbhlngmhgplepaaDoor.Aes
noncomputable section
open Go.Sim
open Go.Proofs
open Go.Bfs
variable {α:Type}
set_option maxRecDepth 1000000
section
variable (V:Nat->Value) (N n k:Nat) (x y:ByteArray) (w:Int) (X Y:ByteArray) (J:zaQ) (z:Nat->Nat->Nat) (mn o:Bool) (es:List MapEntry) (c:Nat) (q:Pth) (d kz kw:Bool) (i j:Nat)
theorem jhl (v hn:Bool):zaq [] (hfC V N n k x y w X Y false 2 es c q hn kz kw i) [] (hfS V N n k x y w X Y J false 2 es c q hn kz kw i none) (false::app (dHt 0) (dPe v 2)) z=(hfZ x y kz i hn::cHt es X Y 0 (cPe x y q v es c 2),q9c):=by cases v <;> cases hn <;> cases kz <;> cases kw <;> kernel_rfl
theorem jil (v hn:Bool):zaq [] (hfC V N n k x y w X Y false 2 es c q hn kz kw i) [] (hfS V N n k x y w X Y J false 2 es c q hn kz kw i none) (false::app (dHt 1) (dPe v 2)) z=(hfZ x y kz i hn::cHt es X Y 1 (cPe x y q v es c 2),q9c):=by cases v <;> cases hn <;> cases kz <;> cases kw <;> kernel_rfl
theorem jjl (v hn:Bool):zaq [] (hfC V N n k x y w X Y false 2 es c q hn kz kw i) [] (hfS V N n k x y w X Y J false 2 es c q hn kz kw i none) (false::app (dHt 2) (dPe v 2)) z=(hfZ x y kz i hn::cHt es X Y 2 (cPe x y q v es c 2),q9c):=by cases v <;> cases hn <;> cases kz <;> cases kw <;> kernel_rfl
theorem jkl (v hn:Bool):zaq [] (hfC V N n k x y w X Y false 2 es c q hn kz kw i) [] (hfS V N n k x y w X Y J false 2 es c q hn kz kw i none) (false::app (dHt 3) (dPe v 2)) z=(hfZ x y kz i hn::cHt es X Y 3 (cPe x y q v es c 2),q9c):=by cases v <;> cases hn <;> cases kz <;> cases kw <;> kernel_rfl
theorem jll (v hn:Bool):zaq [] (hfC V N n k x y w X Y false 3 es c q hn kz kw i) [] (hfS V N n k x y w X Y J false 3 es c q hn kz kw i none) (false::app (dHt 0) (dPe v 3)) z=(hfZ x y kz i hn::cHt es X Y 0 (cPe x y q v es c 3),q9c):=by cases v <;> cases hn <;> cases kz <;> cases kw <;> kernel_rfl
theorem jml (v hn:Bool):zaq [] (hfC V N n k x y w X Y false 3 es c q hn kz kw i) [] (hfS V N n k x y w X Y J false 3 es c q hn kz kw i none) (false::app (dHt 1) (dPe v 3)) z=(hfZ x y kz i hn::cHt es X Y 1 (cPe x y q v es c 3),q9c):=by cases v <;> cases hn <;> cases kz <;> cases kw <;> kernel_rfl
theorem jnl (v hn:Bool):zaq [] (hfC V N n k x y w X Y false 3 es c q hn kz kw i) [] (hfS V N n k x y w X Y J false 3 es c q hn kz kw i none) (false::app (dHt 2) (dPe v 3)) z=(hfZ x y kz i hn::cHt es X Y 2 (cPe x y q v es c 3),q9c):=by cases v <;> cases hn <;> cases kz <;> cases kw <;> kernel_rfl
theorem jol (v hn:Bool):zaq [] (hfC V N n k x y w X Y false 3 es c q hn kz kw i) [] (hfS V N n k x y w X Y J false 3 es c q hn kz kw i none) (false::app (dHt 3) (dPe v 3)) z=(hfZ x y kz i hn::cHt es X Y 3 (cPe x y q v es c 3),q9c):=by cases v <;> cases hn <;> cases kz <;> cases kw <;> kernel_rfl
end
end
end Go.Proofs.YtbhlngmhgplepaaDoor.Aes
