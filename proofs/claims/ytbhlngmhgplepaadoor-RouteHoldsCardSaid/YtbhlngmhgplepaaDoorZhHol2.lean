/-
  RouteHolds: the runs.
-/
import Derived.Test.YtbhlngmhgplepaaDoorPh11
namespace Go.Proofs.YtbhlngmhgplepaaDoor.Aes
noncomputable section
open Go.Sim
open Go.Proofs
open Go.Bfs
variable {α:Type}
set_option maxRecDepth 1000000
section
variable (V:Nat->Value) (N n k:Nat) (x y:ByteArray) (w:Int) (X Y:ByteArray) (J:zaQ) (z:Nat->Nat->Nat) (mn o:Bool) (es:List MapEntry) (c:Nat) (q:Pth) (d hn kz kw:Bool) (i j:Nat)
def dHt (u:Nat):List Bool:=ntC u (zhQ 0) fun u=>ntC u (zhQ 1) fun u=>ntC u [false,false,true,true] fun u=>ntC u [false,false,false,true] fun _=>zba false 5
def cHt (es:List MapEntry) (A B:ByteArray) (u:Nat) (r:List Prop):List Prop:=ntC u (app (zgy A B 0) r) fun u=>ntC u (app (zgy A B 1) r) fun u=>ntC u (cTw A B ((za5 es (pK A B)=true)::(zeA (zbM es (pK A B))=true)::r)) fun u=>ntC u (cTw A B ((za5 es (pK A B)=false)::fuP es true::r)) fun _=>cTw A B ((za5 es (pK A B)=false)::fuP es false::(za5 es (pK A B)=false)::r)
def dHn (u:Nat):List Bool:=ntC u (zhQ 0) fun u=>ntC u (zhQ 1) fun _=>[false,false]
def cHn (A B:ByteArray) (u:Nat) (r:List Prop):List Prop:=ntC u (app (zgy A B 0) r) fun u=>ntC u (app (zgy A B 1) r) fun _=>cTw A B r
def hlA (r:List Prop):List Prop:=(decide ((i:Int)<(n:Int))=true)::shA V N n i 1 (shA V N n i 2 r)
def hlD (mn:Bool) (ds:List Bool) (names:List Nat):zgA:=zaq [] (hlC V N n k x y w X Y mn es c i) names (hlS V N n k x y w X Y J mn es c i (some (1,3))) (true::ds) z
theorem hl_T:zas (fun u=>hlD V N n k x y w X Y J z es c i false (dHt u) [0,1,2,3]) (qqa 4 0)=zas (fun u=>(hlA V N n i (cHt es (aFr V i) (aTo V i) u [qna ((i:Int)+1)]),seN [0,1,2,3] 6 (hlC V N n k x y w X Y false es c (i+1)))) (qqa 4 0):=by kernel_rfl
theorem zjW:hlD V N n k x y w X Y J z es c i false (dHt 4) [0,1,2,3]=(hlA V N n i (cHt es (aFr V i) (aTo V i) 4 [qna ((i:Int)+1)]),seN [0,1,2,3] 6 (hlC V N n k x y w X Y false (tiK es c (aFr V i) (aTo V i)) (c+1) (i+1))):=by kernel_rfl
theorem hl_N:zas (fun u=>hlD V N n k x y w X Y J z es c i true (dHn u) [0,1,2]) (qqa 2 0)=zas (fun u=>(hlA V N n i (cHn (aFr V i) (aTo V i) u [qna ((i:Int)+1)]),seN [0,1,2] 5 (hlC V N n k x y w X Y true es c (i+1)))) (qqa 2 0):=by kernel_rfl
theorem zjX:zaq [] (hlC V N n k x y w X Y false es c i) [0,1,2,5] (hlS V N n k x y w X Y J true es c i (some (1,3))) (true::dHn 2) z=(hlA V N n i (cHn (aFr V i) (aTo V i) 2 [qna ((i:Int)+1)]),some (.inr (qva [] [(3,.ent (onM1 (aFr V i) (aTo V i)))] (qja [0,1,2,5] 6 (hlC V N n k x y w X Y false (zeY (aFr V i) (aTo V i)) 1 (i+1)))))):=by kernel_rfl
def hmS (b:Bool):List Prop:=[((⟨zdi w X Y,1,1⟩:Pw).n:Int)<=1->(⟨zdi w X Y,1,1⟩:Pw).okA/\(⟨zdi w X Y,1,1⟩:Pw).n<=1000000,(!cB (shP ⟨zdi w X Y,1,1⟩ 1))=b]
theorem jzh:zaq [] (hlC V N n k x y w X Y true es c 0) [0,1,4] (hlT V N n k x y w X Y (some (1,3))) [false,false,false] z=(app (lpB V N n false) (app (hmS w X Y false) (fwA x y false)),some (.inr (qva [(0,11,.int .i64 (.lit 0))] [] (qja [0,1,4] 5 (hlC V N n k x y w X Y true es c 0))))):=by kernel_rfl
def hqI (i:Nat) (r:List Prop):List Prop:=((0:Int)<=(i:Int)/\(i:Int)<(q.length:Int))::(0+i * 1<q.length)::r
def hqS (i:Nat):ByteArray:=qic q (0+i * 1)
def hm4:List Nat:=zab mn [0,1,2,3] [0,1,2,3,4]
def hmN:Nat:=zab mn 4 5
theorem zkc:zaq [] (hcC V N n k x y w X Y mn o es c q d i 0) (hm4 mn) (hbS V N n k x y w X Y J mn o es c q d i (some (1,9))) [true] z=([decide ((i:Int)<(q.length:Int))=true],some (.inr (qva [(0,15,.int .i64 (.lit 0))] [] (qja (hm4 mn) (hmN mn) (hcC V N n k x y w X Y mn o es c q d i 0))))):=by cases mn <;> cases o <;> kernel_rfl
theorem j2k:zaq [] (hnC V N n k x y w X Y mn o es c q d 0) (hm4 mn) (hbS V N n k x y w X Y J mn o es c q d i (some (1,3))) [false] z=([decide ((i:Int)<(q.length:Int))=false],some (.inr (qva [(0,17,.int .i64 (.lit 0))] [] (qja (hm4 mn) (hmN mn) (hnC V N n k x y w X Y mn o es c q d 0))))):=by cases mn <;> cases o <;> kernel_rfl
theorem j0h:zaq [] (hcC V N n k x y w X Y mn o es c q d i (j+1)) (hm4 mn) (hcS V N n k x y w X Y J mn o es c q d i j (some (1,9))) [true,false] z=((decide ((j:Int)<(i:Int))=true)::hqI q i (hqI q j [decide (hqS q i=hqS q j)=false,qna ((j:Int)+1)]),some (.inr (qja (hm4 mn) (hmN mn) (hcC V N n k x y w X Y mn o es c q d i (j+1))))):=by cases mn <;> cases o <;> kernel_rfl
theorem j3k:zaq [] (hdC V N n k x y w X Y mn o es c q d i 0) (hm4 mn) (hcS V N n k x y w X Y J mn o es c q d i j (some (1,9))) [false] z=([decide ((j:Int)<(i:Int))=false],some (.inr (qva [(0,16,.int .i64 (.lit 0))] [] (qja (hm4 mn) (hmN mn) (hdC V N n k x y w X Y mn o es c q d i 0))))):=by cases mn <;> cases o <;> kernel_rfl
def hdL (b:Bool) (r:List Prop):List Prop:=hqI q i ((decide ((j:Int)<((hqS q i).size:Int))=b)::r)
def hdB:Bool:=decide (zaG (hqS q i) j=46)
theorem hd_f:zaq [] (hdC V N n k x y w X Y mn o es c q (hdB q i j) i (j+1)) (hm4 mn) (hdS V N n k x y w X Y J mn o es c q d i j (some (1,9))) [true,false] z=(hdL q i j true ((d=false)::hqI q i [(0:Int)<=(j:Int)/\(j:Int)<((hqS q i).size:Int),qna ((j:Int)+1)]),some (.inr (qja (hm4 mn) (hmN mn) (hdC V N n k x y w X Y mn o es c q (hdB q i j) i (j+1))))):=by cases mn <;> cases o <;> kernel_rfl
theorem hd_t:zaq [] (hdC V N n k x y w X Y mn o es c q true i (j+1)) (hm4 mn) (hdS V N n k x y w X Y J mn o es c q d i j (some (1,9))) (true::zba true 8) z=(hdL q i j true (app (zba (d=true) 8) [qna ((j:Int)+1)]),some (.inr (qva [(0,10,.bool (.lit true))] [] (qja (hm4 mn) (hmN mn) (hdC V N n k x y w X Y mn o es c q true i (j+1)))))):=by cases mn <;> cases o <;> kernel_rfl
theorem j1h:zaq [] (hbC V N n k x y w X Y false o es c q d (i+1)) (hm4 false) (hdS V N n k x y w X Y J false o es c q d i j (some (1,4))) [false,true,false] z=(hdL q i j false ((decide ((i:Int) > 0)=true)::qna ((i:Int) - 1)::((0:Int)<=(i:Int) - 1/\(i:Int) - 1<(q.length:Int))::(0+((i:Int) - 1).toNat * 1<q.length)::hqI q i [(!mtB es (qic q (0+((i:Int) - 1).toNat * 1)) (hqS q i))=false,qna ((i:Int)+1)]),some (.inr (qja (hm4 false) (hmN false) (hbC V N n k x y w X Y false o es c q d (i+1))))):=by cases o <;> kernel_rfl
theorem jcc:zaq [] (hbC V N n k x y w X Y mn o es c q d (i+1)) (hm4 mn) (hdS V N n k x y w X Y J mn o es c q d i j (some (1,4))) (false::zba false 13) z=(hdL q i j false (app (zba (decide ((i:Int) > 0)=false) 13) [qna ((i:Int)+1)]),some (.inr (qja (hm4 mn) (hmN mn) (hbC V N n k x y w X Y mn o es c q d (i+1))))):=by cases mn <;> cases o <;> kernel_rfl
def hnL (b:Bool) (r:List Prop):List Prop:=qna ((i:Int)+1)::(decide ((i:Int)+1<(q.length:Int))=b)::r
def hnX:ByteArray × Int:=zcg es (hqS q i) y
theorem zjO:zaq [] (hnC V N n k x y w X Y false o es c q d (i+1)) (hm4 false) (hnS V N n k x y w X Y J false o es c q d i (some (1,3))) [true,true,false,false] z=(hnL q i true (((!d)=true)::hqI q i (agG es c::qna ((i:Int)+1)::((0:Int)<=(i:Int)+1/\(i:Int)+1<(q.length:Int))::(0+((i:Int)+1).toNat * 1<q.length)::[(!decide ((hnX y es q i).1=qic q (0+((i:Int)+1).toNat * 1)))=false,(!decide ((hnX y es q i).2=0))=false,qna ((i:Int)+1)])),some (.inr (qja (hm4 false) (hmN false) (hnC V N n k x y w X Y false o es c q d (i+1))))):=by cases o <;> kernel_rfl
end
end
end Go.Proofs.YtbhlngmhgplepaaDoor.Aes
