/-
  RoutePaths: the law's runs.
-/
import Derived.Test.YtbhlngmhgplepaaDoorPq9
import Derived.Test.YtbhlngmhgplepaaDoorPq10
import Derived.Test.YtbhlngmhgplepaaDoorZqRtc6
import Derived.Test.YtbhlngmhgplepaaDoorPq12
namespace Go.Proofs.YtbhlngmhgplepaaDoor.Aes
noncomputable section
open Go.Sim
open Go.Proofs
open Go.Bfs
variable {α:Type}
set_option maxRecDepth 1000000
def rlPT:List (FuncId × zaR):=[(8,exS),(6,shSm),(7,fewS),(27,saS),(29,tuSm),(30,unSm),(33,zhT),(17,zkf),(34,zg8),(50,zlh),
 (10,zjZ),(11,qv6),(12,neSm),(13,rnSm)]
theorem j5n:∀ y∈rlPT,q2a Tryd.prog y.1 y.2:=zb2 exOK (zb2 shOK (zb2 zk4 (zb2 saOK (zb2 tuOK (zb2 unOK (zb2 qk6 (zb2 mtOK (zb2 q2w (zb2 jyh (zb2 paOK (zb2 j6e (zb2 neOK (all1 rnOK)))))))))))))
def zd0:Cfg:=qyb (q2b rlPT)
theorem zdA:zaw zd0:=qdc j5n
section
variable (V:Nat->Value) (N n k:Nat) (x y:ByteArray)
def lpT (st:Option (Nat × Nat)):Tree:=qla (zd0.at st) 20000 3 [slP 0 n k,.str (.sym x),.str (.sym y)] [rwA V N]
def lpZ (st:Option (Nat × Nat)):Tree:=qla (zd0.at st) 20000 3 [.zac,.str (.sym x),.str (.sym y)] []
end
section
variable (V:Nat->Value) (N n k:Nat) (x y:ByteArray) (J:zaW) (z:Nat->Nat->Nat) (mn re:Bool) (es:List MapEntry) (c:Nat) (W:Nat->Value) (m i:Nat)
def lpF:List SP:=q0b (qvb (lpT V N n k x y (some (1,3))) [false,false]).frames [[(0,slP 0 n k),(1,.str (.sym x)),(2,.str (.sym y)),(7,.ptr ⟨1,.lit 0⟩),(8,zab re (.slice ⟨2,.lit 0⟩ (.sym 0) (.sym 0)) (.slice ⟨2,.lit 0⟩ (.sym m) (.rest 2 0))),(9,.bool (.lit true)),(10,.int .i64 (.sym i))]]
def lpC:Cut:=⟨lpF V N n k x y re m i,(.ent (rwA V N))::(.ent (.own (.lst [zab mn .zaD (.map 3)]) true 30))::(.ent (zab re (.own (.lst []) true 71) (.own (.raw W (m * 2)) false 71)))::zab mn [] [.ent (.obj (.za6 kPr vBo es c))]⟩
def lpS (st:Option (Nat × Nat)):Tree:=zaY (zd0.at st) 20000 ((lpC V N n k x y mn re es c W m i).fill J)
end
def cEp (_ _:Bool) (_:List MapEntry) (_:Nat) (_:Nat->Value) (_ i:Nat):List Prop:=[qra ((i:Int)+1)]
section
variable (V:Nat->Value) (N n k:Nat) (x y:ByteArray) (J:zaW) (z:Nat->Nat->Nat) (re:Bool) (es:List MapEntry) (c:Nat) (W:Nat->Value) (m i:Nat)
def lpD (mn re:Bool) (ds:List Bool) (names:List Nat):zgV:=zaq [] (lpC V N n k x y mn re es c W m i) names (lpS V N n k x y J mn re es c W m i (some (1,3))) (true::ds) z
theorem lp_T:zar (fun w=>zar (fun o=>lpD V N n k x y J z es c W m i false re (app (dW w) (dT o)) nm4) (qsa 4 0)) (qsa 3 0) =
 zar (fun w=>zar (fun o=>(lwX V N n i w (cR re W m (aFr V i) (aTo V i) (app (cT re es W m (aFr V i) (aTo V i) o) (cEp false re es c W m i))),seN nm4 7 (lpC V N n k x y false re es c W m (i+1)))) (qsa 4 0)) (qsa 3 0):=by cases re <;> kernel_rfl
theorem zkq:zar (fun w=>lpD V N n k x y J z es c W m i false re (app (dW w) (dT 4)) [0,1,5,3]) (qsa 3 0) =
 zar (fun w=>(lwX V N n i w (cR re W m (aFr V i) (aTo V i) (app (cT re es W m (aFr V i) (aTo V i) 4) (cEp false false (tiK es c (aFr V i) (aTo V i)) (c+1) (tiW re W m (aFr V i) (aTo V i)) ((tR re W m).n+1) i))),
  seN [0,1,5,3] 8 (lpC V N n k x y false false (tiK es c (aFr V i) (aTo V i)) (c+1) (tiW re W m (aFr V i) (aTo V i)) ((tR re W m).n+1) (i+1)))) (qsa 3 0):=by cases re <;> kernel_rfl
theorem lp_U:zar (fun o=>lpD V N n k x y J z es c W m i false re (app (dW 3) (dU o)) nm4) (qsa 3 0) =
 zar (fun o=>(lwX V N n i 3 (cR re W m (aFr V i) (aTo V i) (app (cU re es W m (aFr V i) (aTo V i) o) (cEp false re es c W m i))),seN nm4 7 (lpC V N n k x y false re es c W m (i+1)))) (qsa 3 0):=by cases re <;> kernel_rfl
theorem zko:lpD V N n k x y J z es c W m i false false (app (dW 3) (dU 3)) [0,1,5,3] =
 (lwX V N n i 3 (cR false W m (aFr V i) (aTo V i) (app (cU false es W m (aFr V i) (aTo V i) 3) (cEp false true (zdY es (pK (aFr V i) (aTo V i))) c W m i))),
  some (.inr (qva [(0,8,.slice ⟨5,.lit 0⟩ (.lit 0) (.lit 0))] [] (qia [0,1,5,3] 8 (lpC V N n k x y false true (zdY es (pK (aFr V i) (aTo V i))) c W m (i+1)))))):=by kernel_rfl
theorem zkn:lpD V N n k x y J z es c W m i false false (app (dW 3) (dU 4)) [0,1,5,3] =
 (lwX V N n i 3 (cR false W m (aFr V i) (aTo V i) (app (cU false es W m (aFr V i) (aTo V i) 4) (cEp false false (zdY es (pK (aFr V i) (aTo V i))) c (tdW false W m (aFr V i) (aTo V i)) ((tR false W m).n - 1) i))),
  seN [0,1,5,3] 8 (lpC V N n k x y false false (zdY es (pK (aFr V i) (aTo V i))) c (tdW false W m (aFr V i) (aTo V i)) ((tR false W m).n - 1) (i+1))):=by kernel_rfl
theorem lp_C:zar (fun b=>zar (fun u=>lpD V N n k x y J z es c W m i false re (app (dW 4) (app (dB b) (dV u))) [0,6,2,5]) (qsa 4 0)) (qsa 3 0) =
 zar (fun b=>zar (fun u=>(lwX V N n i 4 (coP (app (cB1 es b) (app (cV (aFr V i) (aTo V i) (es2 es c b) u) (cEp false re es c W m i)))),seN [0,6,2,5] 11 (lpC V N n k x y false re es c W m (i+1)))) (qsa 4 0)) (qsa 3 0):=by cases re <;> kernel_rfl
theorem lp_D:lpD V N n k x y J z es c W m i false re (dW 5) nm4 =
 (lwX V N n i 5 (hN re m::(tR re W m).ok::cEp false re es c W m i),some (.inr (qva [(0,9,.bool (.sym (mtB es (aFr V i) (aTo V i) == cB ((tR re W m).has (aFr V i,aTo V i)))))] [] (qia nm4 5 (lpC V N n k x y false re es c W m (i+1)))))):=by cases re <;> kernel_rfl
theorem zkp:zar (fun w=>zar (fun o=>lpD V N n k x y J z es c W m i true true (app (dW w) (dTn o)) nm3) (qsa 2 0)) (qsa 3 0) =
 zar (fun w=>zar (fun o=>(lwX V N n i w (cR true W m (aFr V i) (aTo V i) (app (cTn (aFr V i) (aTo V i) o) (cEp true true es c W m i))),seN nm3 6 (lpC V N n k x y true true es c W m (i+1)))) (qsa 2 0)) (qsa 3 0):=by kernel_rfl
def zj1 (X Y:ByteArray):SO:=.obj (.map [(.agg [.str (.sym X),.str (.sym Y)],.bool (.lit true),0)] 1)
theorem j6n:zar (fun w=>zaq [] (lpC V N n k x y false false es c W m i) [0,1,4,7] (lpS V N n k x y J true true es c W m i (some (1,3))) (true::app (dW w) (true::zaX false 4)) z) (qsa 3 0) =
 zar (fun w=>(lwX V N n i w (cR true W m (aFr V i) (aTo V i) ((zcV (aFr V i) (aTo V i)=true)::zfs true W m (aFr V i) (aTo V i) false::(false=false)::cTw (aFr V i) (aTo V i) (cEp false false (zgM (aFr V i) (aTo V i)) 1 (tiW true W m (aFr V i) (aTo V i)) 1 i))),
  some (.inr (qva [] [(3,.ent (zj1 (aFr V i) (aTo V i)))] (qia [0,1,4,7] 8 (lpC V N n k x y false false (zgM (aFr V i) (aTo V i)) 1 (tiW true W m (aFr V i) (aTo V i)) 1 (i+1))))))) (qsa 3 0):=by kernel_rfl
theorem zkm:zar (fun o=>lpD V N n k x y J z es c W m i true true (app (dW 3) (dTn o)) nm3) (qsa 2 0) =
 zar (fun o=>(lwX V N n i 3 (cR true W m (aFr V i) (aTo V i) (app (cTn (aFr V i) (aTo V i) o) (cEp true true es c W m i))),seN nm3 6 (lpC V N n k x y true true es c W m (i+1)))) (qsa 2 0):=by kernel_rfl
theorem j7n:lpD V N n k x y J z es c W m i true true (app (dW 3) (true::zaX false 3)) nm3 =
 (lwX V N n i 3 (cR true W m (aFr V i) (aTo V i) ((zcV (aFr V i) (aTo V i)=true)::zfs true W m (aFr V i) (aTo V i) false::cTw (aFr V i) (aTo V i) (cEp true true es c W m i))),seN nm3 6 (lpC V N n k x y true true es c W m (i+1))):=by kernel_rfl
theorem zks:zar (fun u=>lpD V N n k x y J z es c W m i true true (app (dW 4) (false::dVn u)) [0,4,2]) (qsa 4 0) =
 zar (fun u=>(lwX V N n i 4 (coP (app (cVn (aFr V i) (aTo V i) u) (cEp true true es c W m i))),seN [0,4,2] 10 (lpC V N n k x y true true es c W m (i+1)))) (qsa 4 0):=by kernel_rfl
theorem zkr:lpD V N n k x y J z es c W m i true true (dW 5) nm3 =
 (lwX V N n i 5 (hN true m::(tR true W m).ok::cEp true true es c W m i),some (.inr (qva [(0,9,.bool (.sym (false == cB ((tR true W m).has (aFr V i,aTo V i)))))] [] (qia nm3 4 (lpC V N n k x y true true es c W m (i+1)))))):=by kernel_rfl
def zgf (names:List Nat) (mn re re':Bool):Prop:=∀ (V:Nat->Value) (N n k:Nat) (x y:ByteArray) (es:List MapEntry) (c:Nat) (W:Nat->Value) (m i:Nat) (es':List MapEntry) (c':Nat) (W':Nat->Value) (m' i':Nat),zab (qna 1 names (lpC V N n k x y mn re es c W m i) (lpC V N n k x y mn re' es' c' W' m' i')) (zaG qma (lpC V N n k x y mn re' es' c' W' m' i').heap) false=true
theorem np_4:zgf nm4 false re re:=by intro V N n k x y es c W m i es' c' W' m' i'; cases re <;> kernel_rfl
theorem np_6:zgf [0,6,2,5] false re re:=by intro V N n k x y es c W m i es' c' W' m' i'; cases re <;> kernel_rfl
theorem zka (re':Bool):zgf [0,1,5,3] false re re':=by intro V N n k x y es c W m i es' c' W' m' i'; cases re <;> cases re' <;> kernel_rfl
theorem zh6:zgf nm3 true true true:=by intro V N n k x y es c W m i es' c' W' m' i'; kernel_rfl
theorem zj9:zgf [0,4,2] true true true:=by intro V N n k x y es c W m i es' c' W' m' i'; kernel_rfl
theorem zj8:zgf [0,1,4,7] false false false:=by intro V N n k x y es c W m i es' c' W' m' i'; kernel_rfl
theorem j8n (mn:Bool):(((lpC V N n k x y mn re es c W m i).frames[0]?).bind fun p=>p.tmps[10]?)=some (some (.int .i64 (.sym i))):=by cases mn <;> cases re <;> kernel_rfl
theorem q09 (mn:Bool):(((lpC V N n k x y mn true es c W m i).frames[0]?).bind fun p=>p.tmps[8]?)=some (some (.slice ⟨2,.lit 0⟩ (.sym 0) (.sym 0))):=by cases mn <;> kernel_rfl
theorem q19 (mn:Bool):(((lpC V N n k x y mn re es c W m i).frames[0]?).bind fun p=>p.tmps[9]?)=some (some (.bool (.lit true))):=by cases mn <;> cases re <;> kernel_rfl
end
end
end Go.Proofs.YtbhlngmhgplepaaDoor.Aes
