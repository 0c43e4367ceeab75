/-
  RouteHolds: how it comes to its loops, and its end.
-/
import Derived.Test.YtbhlngmhgplepaaDoorZhHol2
namespace Go.Proofs.YtbhlngmhgplepaaDoor.Aes
noncomputable section
open Go.Sim
open Go.Proofs
open Go.Bfs
variable {α:Type}
set_option maxRecDepth 1000000
section
variable (V:Nat->Value) (N n k:Nat) (x y:ByteArray) (w:Int) (X Y:ByteArray) (J:zaQ) (z:Nat->Nat->Nat) (mn o:Bool) (es:List MapEntry) (c:Nat) (q:Pth) (d kz kw:Bool) (i j:Nat)
def zhG (r:List Prop):List Prop:=(decide ((i:Int)<(n:Int))=false)::r
def hlSo (r:List Prop):List Prop:=((zax x && zax y)=true)::(decide (x=y)=false)::agG es c::((zbI es x y).isSome=true)::(((q.length:Int) == 0)=false)::(0<q.length)::(0<q.length)::((!decide (qic q (0+0 * 1)=x))=false)::qna ((q.length:Int) - 1)::((0:Int)<=(q.length:Int) - 1/\(q.length:Int) - 1<(q.length:Int))::(0+((q.length:Int) - 1).toNat * 1<q.length)::((!decide (qic q (0+((q.length:Int) - 1).toNat * 1)=y))=false)::r
theorem j2h:zaq [] (hbC V N n k x y w X Y false false es c (seQ es x y) false 0) [0,1,2,4,3] (hlS V N n k x y w X Y J false es c i (some (1,4))) [false,true,false,true,false,false,false] z=(zhG n i (hlSo x y es c (seQ es x y) []),some (.inr (qva [(0,10,.bool (.lit false)),(0,14,.int .i64 (.lit 0))] [] (qja [0,1,2,4,3] 5 (hbC V N n k x y w X Y false false es c (seQ es x y) false 0))))):=by kernel_rfl
def hoN:List Nat:=zab mn [0,1,2,3] [0,1,2,4,3]
def hoE:Nat:=zab mn 3 4
def hoP:SO:=.own (.lst [.str (.sym x)]) true 9
theorem j4k:zaq [] (hbC V N n k x y w X Y mn true es c [x] false 0) (hoN mn) (hlS V N n k x y w X Y J mn es c i (some (1,4))) [false,true,true,false,false] z=(zhG n i [(zax x && zax y)=true,decide (x=y)=true,(!decide (x=x))=false,(!decide (x=y))=false],some (.inr (qva [(0,10,.bool (.lit false)),(0,12,.slice ⟨hoE mn,.lit 0⟩ (.lit 1) (.lit 1)),(0,14,.int .i64 (.lit 0))] [(3,.ent (hoP x))] (qja (hoN mn) (zab mn 4 5) (hbC V N n k x y w X Y mn true es c [x] false 0))))):=by cases mn <;> kernel_rfl
def hyD (hn kz kw:Bool):List Bool:=zab hn [true,false,true,false] [true,true,kz,true,true,kw,false]
def hyC (hn kz kw:Bool):List Prop:=zab hn [(zax x && zax y)=true,zbz x y=false,(zax y && zax x)=true,zbz y x=false] [(zax x && zax y)=true,zbz x y=true,decide (cK x y=0)=kz,(zax y && zax x)=true,zbz y x=true,decide (cK y x=0)=kw,((hiM kz x y:Int) != (hiM kw y x:Int))=false]
def hnA:List Nat:=zab mn [0,1,2,6,7] [0,1,2,6,7,3]
def hyA (hn:Bool):List Nat:=zab hn (hnA mn) (zab mn [0,1,2,3,4] [0,1,2,4,5,3])
theorem j5k:zaq [] (hfC V N n k x y w X Y mn 0 es c [] true false false 0) (hnA mn) (hlS V N n k x y w X Y J mn es c i (some (1,3))) (zba false 4) z=(zhG n i [(zax x && zax y)=false,(zax x && zax y)=false,(zax y && zax x)=false],some (.inr (qva [(0,24,.int .i64 (.lit 0))] [] (qja (hnA mn) (zab mn 3 4) (hfC V N n k x y w X Y mn 0 es c [] true false false 0))))):=by cases mn <;> kernel_rfl
def hlNo (r:List Prop):List Prop:=((zax x && zax y)=true)::(decide (x=y)=false)::agG (nxI mn es) (zab mn 0 c)::((zbI (nxI mn es) x y).isSome=false)::r
theorem zjS (hn:Bool):zaq [] (hfC V N n k x y w X Y mn 1 es c [] hn kz kw 0) (hyA mn hn) (hlS V N n k x y w X Y J mn es c i (some (1,3))) (app [false,true,false,false] (hyD hn kz kw)) z=(zhG n i (hlNo x y mn es c (hyC x y hn kz kw)),some (.inr (qva [(0,24,.int .i64 (.lit 0))] [] (qja (hyA mn hn) (Nat.add (zab mn 3 4) (zab hn 0 2)) (hfC V N n k x y w X Y mn 1 es c [] hn kz kw 0))))):=by cases mn <;> cases hn <;> cases kz <;> cases kw <;> kernel_rfl
def hrK:Nat:=zab o 3 2
def hyB (hn:Bool):List Nat:=zab hn (zab mn [0,1,2,7,8,3] [0,1,2,7,8,4,3]) (zab mn [0,1,2,4,5,3] [0,1,2,5,6,4,3])
def hxD (u:Bool):List Bool:=zab u [true,false] (zba false 3)
def hxC (u:Bool) (r:List Prop):List Prop:=zab u (qna ((i:Int)+1)::(decide ((i:Int)+1<(q.length:Int))=true)::((!d)=false)::r) (qna ((i:Int)+1)::app (zba (decide ((i:Int)+1<(q.length:Int))=false) 3) r)
theorem j6k (u hn:Bool):zaq [] (hfC V N n k x y w X Y mn (hrK o) es c q hn kz kw 0) (hyB mn hn) (hnS V N n k x y w X Y J mn o es c q d i (some (1,3))) (app (hxD u) (hyD hn kz kw)) z=(hxC q d i u (hyC x y hn kz kw),some (.inr (qva [(0,24,.int .i64 (.lit 0))] [] (qja (hyB mn hn) (Nat.add (zab mn 4 5) (zab hn 0 2)) (hfC V N n k x y w X Y mn (hrK o) es c q hn kz kw 0))))):=by cases u <;> cases o <;> cases mn <;> cases hn <;> cases kz <;> cases kw <;> kernel_rfl
def hfA (rk:Nat):List Nat:=zab mn (ntC rk [0,1,2,3,4] fun r=>ntC r [0,1,2,3,4] fun _=>[0,1,2,3,4,5]) (ntC rk [0,1,2,3,4,5] fun r=>ntC r [0,1,2,3,4,5] fun _=>[0,1,2,3,4,5,6])
def hfM (rk:Nat):Nat:=zab mn (ntC rk 5 fun r=>ntC r 5 fun _=>6) (ntC rk 6 fun r=>ntC r 6 fun _=>7)
def hfL (r:List Prop):List Prop:=(decide ((i:Int)<(hiM kz x y:Int))=true)::((0:Int)<=(i:Int)/\(i:Int)<(hiM kz x y:Int))::(0+i * 1<hiR kz x y)::qna ((hiM kw y x:Int) - 1)::qna ((hiM kw y x:Int) - 1 - (i:Int))::((0:Int)<=(hiM kw y x:Int) - 1 - (i:Int)/\(hiM kw y x:Int) - 1 - (i:Int)<(hiM kw y x:Int))::(0+((hiM kw y x:Int) - 1 - (i:Int)).toNat * 1<hiR kw y x)::r
theorem j3h:zas (fun rk=>zaq [] (hfC V N n k x y w X Y mn rk es c q false kz kw (i+1)) (hfA mn rk) (hfS V N n k x y w X Y J mn rk es c q false kz kw i (some (1,3))) [true,false] z) (qqa 4 0)=zas (fun rk=>(hfL x y kz kw i [(!decide (hiS kz x y (i:Int)=hiS kw y x ((hiM kw y x:Int) - 1 - (i:Int))))=false,qna ((i:Int)+1)],some (.inr (qja (hfA mn rk) (hfM mn rk) (hfC V N n k x y w X Y mn rk es c q false kz kw (i+1)))))) (qqa 4 0):=by cases mn <;> cases kz <;> cases kw <;> kernel_rfl
def hmT (b:Bool) (m:Nat):List Prop:=(((⟨zdi w X Y,1,1⟩:Pw).n:Int)<=1->(⟨zdi w X Y,1,1⟩:Pw).okA/\(⟨zdi w X Y,1,1⟩:Pw).n<=1000000)::zba ((!cB (shP ⟨zdi w X Y,1,1⟩ 1))=b) m
theorem j7k:zaq [] (hbC V N n k x y w X Y true true es c [x] false 0) [0,1,2,3] (hzS x y w X Y J (some (1,4))) [true,true,false,false] z=([(zax x && zax y)=true,decide (x=y)=true,(!decide (x=x))=false,(!decide (x=y))=false],some (.inr (qva [(0,10,.bool (.lit false)),(0,12,.slice ⟨3,.lit 0⟩ (.lit 1) (.lit 1)),(0,14,.int .i64 (.lit 0))] [(3,.ent (hoP x))] (qja [0,1,2,3] 4 (hbC V N n k x y w X Y true true es c [x] false 0))))):=by kernel_rfl
theorem j8k:zaq [] (hfC V N n k x y w X Y true 0 es c [] true false false 0) [0,1,2,6,7] (hzS x y w X Y J (some (1,3))) (zba false 3) z=([(zax x && zax y)=false,(zax x && zax y)=false,(zax y && zax x)=false],some (.inr (qva [(0,24,.int .i64 (.lit 0))] [] (qja [0,1,2,6,7] 3 (hfC V N n k x y w X Y true 0 es c [] true false false 0))))):=by kernel_rfl
theorem zjH (hn:Bool):zaq [] (hfC V N n k x y w X Y true 1 es c [] hn kz kw 0) (hyA true hn) (hzS x y w X Y J (some (1,3))) (app [true,false,false] (hyD hn kz kw)) z=(hlNo x y true es c (hyC x y hn kz kw),some (.inr (qva [(0,24,.int .i64 (.lit 0))] [] (qja (hyA true hn) (Nat.add 3 (zab hn 0 2)) (hfC V N n k x y w X Y true 1 es c [] hn kz kw 0))))):=by cases hn <;> cases kz <;> cases kw <;> kernel_rfl
theorem j4h:zaq [] (hzC x y w X Y) [0,1,4] (hzT x y w X Y (some (1,3))) [false,false,false] z=(((!cB ((0:Int)<=40))=false)::app (hmS w X Y false) (fwA x y false),some (.inr (qja [0,1,4] 5 (hzC x y w X Y)))):=by kernel_rfl
theorem j5h:za4 [] (hzT x y w X Y none) (false::zba true 6)=(((!cB ((0:Int)<=40))=false)::hmT w X Y true 6,some (.bool (.lit true),[])):=by kernel_rfl
theorem j6h:za4 [] (hzT x y w X Y none) [false,false,true]=(((!cB ((0:Int)<=40))=false)::app (hmS w X Y false) (fwA x y true),some (.bool (.lit true),[])):=by kernel_rfl
theorem j7h:za4 [] (hlT V N n k x y w X Y none) (zba true 5)=((N * 3=N * 3 / 3 * 3)::(((⟨V,N * 3 / 3,n⟩:Pw).n:Int)<=40->(⟨V,N * 3 / 3,n⟩:Pw).okA/\(⟨V,N * 3 / 3,n⟩:Pw).n<=1000000)::zba ((!cB (shP ⟨V,N * 3 / 3,n⟩ 40))=true) 5,some (.bool (.lit true),[])):=by kernel_rfl
theorem j8h:za4 [] (hlT V N n k x y w X Y none) (false::zba true 6)=(app (lpB V N n false) (hmT w X Y true 6),some (.bool (.lit true),[])):=by kernel_rfl
theorem j9h:za4 [] (hlT V N n k x y w X Y none) [false,false,true]=(app (lpB V N n false) (app (hmS w X Y false) (fwA x y true)),some (.bool (.lit true),[])):=by kernel_rfl
end
end
end Go.Proofs.YtbhlngmhgplepaaDoor.Aes
