/-
  RouteHolds: its end.
-/
import Derived.Test.YtbhlngmhgplepaaDoorZhHol2
namespace Go.Proofs.YtbhlngmhgplepaaDoor.Aes
noncomputable section
open Go.Sim
open Go.Proofs
open Go.Bfs
variable {α:Type}
set_option maxRecDepth 1000000
section
variable (V:Nat->Value) (N n k:Nat) (x y:ByteArray) (w:Int) (X Y:ByteArray) (J:zaQ) (z:Nat->Nat->Nat) (mn o:Bool) (es:List MapEntry) (c:Nat) (q:Pth) (d kz kw:Bool) (i j:Nat)
def dPe (v:Bool) (rk:Nat):List Bool:=ntC rk [false] fun r=>ntC r [true,false,v] fun r=>ntC r [true,false,true,true] fun _=>[true,true,true]
def cPe (v:Bool) (es:List MapEntry) (c rk:Nat):List Prop:=ntC rk [(zax x && zax y)=false] fun r=>ntC r [(zax x && zax y)=true,decide (x=y)=false,agG es c,(zbI es x y).isSome=v] fun r=>ntC r [(zax x && zax y)=true,decide (x=y)=false,agG es c,(zbI es x y).isSome=true,decide (((seQ es x y).length:Int)<=(q.length:Int))=true] fun _=>[(zax x && zax y)=true,decide (x=y)=true,decide ((1:Int)<=(q.length:Int))=true]
def hfZ (hn:Bool):Prop:=decide ((i:Int)<(zab hn 0 (hiM kz x y:Int)))=false
theorem j9k (v hn:Bool):zaq [] (hfC V N n k x y w X Y false 0 es c q hn kz kw i) [] (hfS V N n k x y w X Y J false 0 es c q hn kz kw i none) (false::app (dHt 0) (dPe v 0)) z=(hfZ x y kz i hn::cHt es X Y 0 (cPe x y q v es c 0),q9c):=by cases v <;> cases hn <;> cases kz <;> cases kw <;> kernel_rfl
theorem jal (v hn:Bool):zaq [] (hfC V N n k x y w X Y false 0 es c q hn kz kw i) [] (hfS V N n k x y w X Y J false 0 es c q hn kz kw i none) (false::app (dHt 1) (dPe v 0)) z=(hfZ x y kz i hn::cHt es X Y 1 (cPe x y q v es c 0),q9c):=by cases v <;> cases hn <;> cases kz <;> cases kw <;> kernel_rfl
theorem jbl (v hn:Bool):zaq [] (hfC V N n k x y w X Y false 0 es c q hn kz kw i) [] (hfS V N n k x y w X Y J false 0 es c q hn kz kw i none) (false::app (dHt 2) (dPe v 0)) z=(hfZ x y kz i hn::cHt es X Y 2 (cPe x y q v es c 0),q9c):=by cases v <;> cases hn <;> cases kz <;> cases kw <;> kernel_rfl
theorem jcl (v hn:Bool):zaq [] (hfC V N n k x y w X Y false 0 es c q hn kz kw i) [] (hfS V N n k x y w X Y J false 0 es c q hn kz kw i none) (false::app (dHt 3) (dPe v 0)) z=(hfZ x y kz i hn::cHt es X Y 3 (cPe x y q v es c 0),q9c):=by cases v <;> cases hn <;> cases kz <;> cases kw <;> kernel_rfl
theorem jdl (v hn:Bool):zaq [] (hfC V N n k x y w X Y false 1 es c q hn kz kw i) [] (hfS V N n k x y w X Y J false 1 es c q hn kz kw i none) (false::app (dHt 0) (dPe v 1)) z=(hfZ x y kz i hn::cHt es X Y 0 (cPe x y q v es c 1),q9c):=by cases v <;> cases hn <;> cases kz <;> cases kw <;> kernel_rfl
theorem jel (v hn:Bool):zaq [] (hfC V N n k x y w X Y false 1 es c q hn kz kw i) [] (hfS V N n k x y w X Y J false 1 es c q hn kz kw i none) (false::app (dHt 1) (dPe v 1)) z=(hfZ x y kz i hn::cHt es X Y 1 (cPe x y q v es c 1),q9c):=by cases v <;> cases hn <;> cases kz <;> cases kw <;> kernel_rfl
theorem jfl (v hn:Bool):zaq [] (hfC V N n k x y w X Y false 1 es c q hn kz kw i) [] (hfS V N n k x y w X Y J false 1 es c q hn kz kw i none) (false::app (dHt 2) (dPe v 1)) z=(hfZ x y kz i hn::cHt es X Y 2 (cPe x y q v es c 1),q9c):=by cases v <;> cases hn <;> cases kz <;> cases kw <;> kernel_rfl
theorem jgl (v hn:Bool):zaq [] (hfC V N n k x y w X Y false 1 es c q hn kz kw i) [] (hfS V N n k x y w X Y J false 1 es c q hn kz kw i none) (false::app (dHt 3) (dPe v 1)) z=(hfZ x y kz i hn::cHt es X Y 3 (cPe x y q v es c 1),q9c):=by cases v <;> cases hn <;> cases kz <;> cases kw <;> kernel_rfl
end
end
end Go.Proofs.YtbhlngmhgplepaaDoor.Aes
