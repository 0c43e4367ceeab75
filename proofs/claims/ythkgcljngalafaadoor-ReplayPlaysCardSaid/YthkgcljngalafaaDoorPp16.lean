/-
  Texts behind one another: the symbolic simulator and what it is told of the program.
-/
import Derived.Test.YthkgcljngalafaaDoorPp7
import Derived.Test.YthkgcljngalafaaDoorZpRdo6
import Derived.Test.YthkgcljngalafaaDoorZpRpl4
import Derived.Test.YthkgcljngalafaaDoorPp6
import Derived.WideShapes
import Derived.ChangeShapes
import Derived.ChangeSlices
import Derived.Deep.Strs
import Derived.Deep.Slices
import Derived.Test.YthkgcljngalafaaDoorZpSha3
import Derived.Test.YthkgcljngalafaaDoorRows
import Derived.Lib.LaidPrint
import Derived.Lib.LaidTab
import Derived.MakeChecks
import Derived.Test.YthkgcljngalafaaDoorPp9
namespace Go.Proofs.YthkgcljngalafaaDoor.Aes
noncomputable section
open Go.Sim
open Go.Proofs
variable {α:Type}
set_option maxRecDepth 1000000
def slP (b n k:Nat):SV:=.slice ⟨b,.lit 0⟩ (.sym n) (.sym k)
def rlPl (f:HashF):List (FuncId × Summ):=[(20,doSm f),(10,agSm),(7,exS),(12,nwSm),(19,j3e)]
def qdg (f:HashF):Cfg:=cfgG qfc (qbc (rlPl f))
def plT (f:HashF) (sk lm:Int) (V:Nat->Value) (N n k:Nat) (st:Option (Nat × Nat)):Tree:=qea ((qdg f).at st) 20000 5 [.int .i64 (.sym sk),.int .i64 (.sym lm),slP 4 n k] (shaH [.row (.raw V N)])
def plF (f:HashF) (sk lm:Int) (V:Nat->Value) (N n k:Nat) (i:Nat):List SP:=q8d (qod (plT f sk lm V N n k (some (1,3))) [false,true,true]).frames [[(2,slP 4 n k),(7,.ptr ⟨5,.lit 0⟩),(9,.ptr ⟨7,.lit 0⟩),(10,.int .i64 (.lit 0)),(11,.bool (.lit true)),(12,.int .i64 (.sym (i:Int)))]]
def plC (f:HashF) (sk lm:Int) (V:Nat->Value) (N n k:Nat) (mn:Bool) (es:List MapEntry) (c:Nat) (cl fe:Int) (l:List Mk) (i:Nat):Cut:=⟨plF f sk lm V N n k i,app (mapN HP.ent (shaH [.row (.raw V N),chO 6 sk lm cl fe,.obj (.amap kMk uMk es c),rfB sk lm cl fe (boolC mn .nilSlice (rfL 8 l.length))])) (boolC mn [] [.ent (rfR (rowM l) l.length)])⟩
def pl1 (f:HashF) (sk lm:Int) (V:Nat->Value) (N n k:Nat) (mn:Bool) (es:List MapEntry) (c:Nat) (cl fe:Int) (l:List Mk) (i:Nat) (J:Junk) (st:Option (Nat × Nat)):Tree:=sim1 ((qdg f).at st) 20000 ((plC f sk lm V N n k mn es c cl fe l i).fill J)
def plZ (f:HashF) (sk lm:Int):Tree:=qea (qdg f) 20000 5 [.int .i64 (.sym sk),.int .i64 (.sym lm),.nilSlice] (shaH [])
theorem qxv:CfgOK (qdg shaG):=qxd (by
 intro y hy
 rcases List.mem_cons.1 hy with rfl | hy
 . exact doOK
 rcases List.mem_cons.1 hy with rfl | hy
 . exact agOK _
 rcases List.mem_cons.1 hy with rfl | hy
 . exact exOK
 rcases List.mem_cons.1 hy with rfl | hy
 . exact nwOK _
 . obtain rfl:=List.mem_singleton.1 hy
   exact rnwOK _)
section
variable (V:Nat->Value) (N n i:Nat) (z:Nat->Nat->Nat)
def aW:Int:=vNum (V (0+i * 4+0))
def aT:Int:=vNum (V (0+i * 4+1))
def aN:Int:=vNum (V (0+i * 4+2))
def aB:BitVec 8:=BitVec.ofInt 8 (vNum (V (0+i * 4+3)))
def fit4 (a:Nat):Prop:=fitK (.i .i64) (V (a+0))/\fitK (.i .i64) (V (a+1))/\fitK (.i .i64) (V (a+2))/\fitK (.i .u8) (V (a+3))/\True
def plA (q:List Prop):List Prop:=(decide ((i:Int)<(n:Int))=true)::((0:Int)<=(i:Int)/\(i:Int)<(n:Int))::(0+i * 4+4<=N)::fit4 V (0+i * 4)::q
def plX (o:Nat) (q:List Prop):List Prop:=plA V N n i (app (cndQ (z 0 0) 14 0 o) q)
end
def nmN (l:List Nat):List Nat:=app [0,1,2,3,4] l
def seP (names:List Nat) (q:Nat) (C:Cut):Option ((SV × List (Option SO)) ⊕ Seen):=some (.inr (qsa names q C))
section
variable (f:HashF) (sk lm:Int) (V:Nat->Value) (N n k:Nat) (es:List MapEntry) (c:Nat) (cl fe:Int) (l:List Mk) (i:Nat) (J:Junk) (z:Nat->Nat->Nat)
def plD:ChD:=doC es c sk lm cl fe 5 6
def in06 (b:Bool):Prop:=cB (0<=aW V i/\aW V i<=6)=b
def plV (b:Bool):Prop:=oV (aW V i) (aT V i) (aN V i)=b
def plE (b:Bool):Prop:=(oL f (plD sk lm es c cl fe) (aW V i) (aT V i) (aN V i) (aB V i)).isEmpty=b
def plL:List Mk:=oL f (plD sk lm es c cl fe) (aW V i) (aT V i) (aN V i) (aB V i)
def plM:List MapEntry:=oM f (plD sk lm es c cl fe) (aW V i) (aT V i) (aN V i) (aB V i)
def plK:Nat:=oC f (plD sk lm es c cl fe) (aW V i) (aT V i) (aN V i) (aB V i)
def plFe:Int:=oF (plD sk lm es c cl fe) (aW V i) (aN V i)
def plEs:List MapEntry:=esX (plD sk lm es c cl fe).x (cntI (plD sk lm es c cl fe).x)
def plEc:Nat:=cntI (plD sk lm es c cl fe).x
theorem jhi:outO [] (plT f sk lm V N n k none) [true]=([decide ((n:Int) > 40)=true],some (.bool (.lit true),[])):=by kernel_rfl
theorem pl_e1:outO [] (plT f sk lm V N n k none) [false,false,false,true]=([decide ((n:Int) > 40)=false,cB (nwP sk lm)=false,cB (nwP sk lm)=false,decide ((0:Int)<(n:Int))=true],some (.bool (.lit true),[])):=by kernel_rfl
theorem pl_e0:outO [] (plT f sk lm V N n k none) [false,false,false,false,false]=([decide ((n:Int) > 40)=false,cB (nwP sk lm)=false,cB (nwP sk lm)=false,decide ((0:Int)<(n:Int))=false,decide ((0:Int)<(n:Int))=false],some (.bool (.lit true),[])):=by kernel_rfl
theorem pl_z1:outO [] (plZ f sk lm) [true,true]=([cB (nwP sk lm)=true,cB (nwP sk lm)=true,agW (doC [] 0 sk lm 0 (-1) 4 5) (doRN sk lm 0 (-1))],some (.bool (.lit true),[])):=by kernel_rfl
theorem pl_z0:outO [] (plZ f sk lm) [false,false]=([cB (nwP sk lm)=false,cB (nwP sk lm)=false],some (.bool (.lit true),[])):=by kernel_rfl
theorem pl_i:outL [] (plC f sk lm V N n k true [] 0 0 (-1) [] 0) (nmN [5,6,7]) (plT f sk lm V N n k (some (1,3))) [false,true,true] z=([decide ((n:Int) > 40)=false,cB (nwP sk lm)=true,cB (nwP sk lm)=true,agW (doC [] 0 sk lm 0 (-1) 5 6) (doRN sk lm 0 (-1))],
 some (.inr (qrb [(0,12,.int .i64 (.lit 0))] [] (qsa (nmN [5,6,7]) 8 (plC f sk lm V N n k true [] 0 0 (-1) [] 0))))):=by kernel_rfl
theorem jsl (mn:Bool):(((plC f sk lm V N n k mn es c cl fe l i).frames[0]?).bind fun p=>p.tmps[12]?)=some (some (.int .i64 (.sym (i:Int)))):=by cases mn <;> kernel_rfl
theorem jtl (mn:Bool):outL [] (plC f sk lm V N n k mn es c cl fe l i) (nmN [5,6,7]) (pl1 f sk lm V N n k mn es c cl fe l i J none) [false,false] z=([decide ((i:Int)<(n:Int))=false,decide ((i:Int)<(n:Int))=false],some (.inl (.bool (.lit true),[]))):=by cases mn <;> kernel_rfl
theorem pl_An:mapN (fun o=>outL [] (plC f sk lm V N n k true es c cl fe l i) (nmN [5,6,7]) (pl1 f sk lm V N n k true es c cl fe l i J (some (1,3))) (true::app (dirQ 14 o) [true,false]) z) (qka 15 0) =
 mapN (fun o=>(plX V N n i z o [agW (plD sk lm es c cl fe) (doRN sk lm cl fe),in06 V i true,plV V i false,nxI i],seP (nmN [5,6,7]) 8 (plC f sk lm V N n k true es c cl fe l (i+1)))) (qka 15 0):=by kernel_rfl
theorem pl_Bn:mapN (fun o=>outL [] (plC f sk lm V N n k true es c cl fe l i) (nmN [5,6,7]) (pl1 f sk lm V N n k true es c cl fe l i J (some (1,3))) (true::app (dirQ 14 o) [true,true,true]) z) (qka 15 0) =
 mapN (fun o=>(plX V N n i z o [agW (plD sk lm es c cl fe) (doRN sk lm cl fe),in06 V i true,plV V i true,plE f sk lm V es c cl fe i true,nxI i],seP (nmN [5,6,7]) 8 (plC f sk lm V N n k true (plM f sk lm V es c cl fe i) (plK f sk lm V es c cl fe i) (clk (aN V i) cl) (plFe sk lm V es c cl fe i) l (i+1)))) (qka 15 0):=by kernel_rfl
theorem pl_Cn:mapN (fun o=>outL [] (plC f sk lm V N n k false es c cl fe l i) (nmN [5,6,7,8]) (pl1 f sk lm V N n k true es c cl fe l i J (some (1,3))) (true::app (dirQ 14 o) [true,true,false]) z) (qka 15 0) =
 mapN (fun o=>(plX V N n i z o [agW (plD sk lm es c cl fe) (doRN sk lm cl fe),in06 V i true,plV V i true,plE f sk lm V es c cl fe i false,nxI i],seP (nmN [5,6,7,8]) 9 (plC f sk lm V N n k false (plM f sk lm V es c cl fe i) (plK f sk lm V es c cl fe i) (clk (aN V i) cl) (plFe sk lm V es c cl fe i) (plL f sk lm V es c cl fe i) (i+1)))) (qka 15 0):=by kernel_rfl
theorem pl_Ln:mapN (fun o=>outL [] (plC f sk lm V N n k true es c cl fe l i) (nmN [8,9,7]) (pl1 f sk lm V N n k true es c cl fe l i J (some (1,3))) (true::app (dirQ 14 o) [false,true]) z) (qka 15 0) =
 mapN (fun o=>(plX V N n i z o [agW (plD sk lm es c cl fe) (doRN sk lm cl fe),in06 V i false,cB (aW V i=7)=true,nxI i],seP (nmN [8,9,7]) 10 (plC f sk lm V N n k true (plEs sk lm es c cl fe) (plEc sk lm es c cl fe) cl fe l (i+1)))) (qka 15 0):=by kernel_rfl
theorem pl_Dn:mapN (fun o=>outL [] (plC f sk lm V N n k true es c cl fe l i) (nmN [8,9,7]) (pl1 f sk lm V N n k true es c cl fe l i J (some (1,3))) (true::app (dirQ 14 o) [false,false]) z) (qka 15 0) =
 mapN (fun o=>(plX V N n i z o [agW (plD sk lm es c cl fe) (doRN sk lm cl fe),in06 V i false,cB (aW V i=7)=false,nxI i],seP (nmN [8,9,7]) 10 (plC f sk lm V N n k true es c cl fe l (i+1)))) (qka 15 0):=by kernel_rfl
theorem pl_Ar:mapN (fun o=>outL [] (plC f sk lm V N n k false es c cl fe l i) (nmN [5,6,7,8]) (pl1 f sk lm V N n k false es c cl fe l i J (some (1,3))) (true::app (dirQ 14 o) [true,false]) z) (qka 15 0) =
 mapN (fun o=>(plX V N n i z o [agW (plD sk lm es c cl fe) (doRL sk lm fe cl 8 l),in06 V i true,plV V i false,nxI i],seP (nmN [5,6,7,8]) 9 (plC f sk lm V N n k false es c cl fe l (i+1)))) (qka 15 0):=by kernel_rfl
theorem pl_Br:mapN (fun o=>outL [] (plC f sk lm V N n k true es c cl fe l i) (nmN [5,6,7]) (pl1 f sk lm V N n k false es c cl fe l i J (some (1,3))) (true::app (dirQ 14 o) [true,true,true]) z) (qka 15 0) =
 mapN (fun o=>(plX V N n i z o [agW (plD sk lm es c cl fe) (doRL sk lm fe cl 8 l),in06 V i true,plV V i true,plE f sk lm V es c cl fe i true,nxI i],seP (nmN [5,6,7]) 9 (plC f sk lm V N n k true (plM f sk lm V es c cl fe i) (plK f sk lm V es c cl fe i) (clk (aN V i) cl) (plFe sk lm V es c cl fe i) l (i+1)))) (qka 15 0):=by kernel_rfl
theorem pl_Cr:mapN (fun o=>outL [] (plC f sk lm V N n k false es c cl fe l i) (nmN [5,6,7,9]) (pl1 f sk lm V N n k false es c cl fe l i J (some (1,3))) (true::app (dirQ 14 o) [true,true,false]) z) (qka 15 0) =
 mapN (fun o=>(plX V N n i z o [agW (plD sk lm es c cl fe) (doRL sk lm fe cl 8 l),in06 V i true,plV V i true,plE f sk lm V es c cl fe i false,nxI i],seP (nmN [5,6,7,9]) 10 (plC f sk lm V N n k false (plM f sk lm V es c cl fe i) (plK f sk lm V es c cl fe i) (clk (aN V i) cl) (plFe sk lm V es c cl fe i) (plL f sk lm V es c cl fe i) (i+1)))) (qka 15 0):=by kernel_rfl
theorem pl_Lr:mapN (fun o=>outL [] (plC f sk lm V N n k false es c cl fe l i) (nmN [9,10,7,8]) (pl1 f sk lm V N n k false es c cl fe l i J (some (1,3))) (true::app (dirQ 14 o) [false,true]) z) (qka 15 0) =
 mapN (fun o=>(plX V N n i z o [agW (plD sk lm es c cl fe) (doRL sk lm fe cl 8 l),in06 V i false,cB (aW V i=7)=true,nxI i],seP (nmN [9,10,7,8]) 11 (plC f sk lm V N n k false (plEs sk lm es c cl fe) (plEc sk lm es c cl fe) cl fe l (i+1)))) (qka 15 0):=by kernel_rfl
theorem pl_Dr:mapN (fun o=>outL [] (plC f sk lm V N n k false es c cl fe l i) (nmN [9,10,7,8]) (pl1 f sk lm V N n k false es c cl fe l i J (some (1,3))) (true::app (dirQ 14 o) [false,false]) z) (qka 15 0) =
 mapN (fun o=>(plX V N n i z o [agW (plD sk lm es c cl fe) (doRL sk lm fe cl 8 l),in06 V i false,cB (aW V i=7)=false,nxI i],seP (nmN [9,10,7,8]) 11 (plC f sk lm V N n k false es c cl fe l (i+1)))) (qka 15 0):=by kernel_rfl
theorem pl_n (names:List Nat) (h:names=nmN [5,6,7]\/names=nmN [8,9,7]) (es':List MapEntry) (c':Nat) (cl' fe':Int) (l':List Mk) (i':Nat):boolC (q1a 5 names (plC f sk lm V N n k true es' c' cl' fe' l' i') (plC f sk lm V N n k true es c cl fe l i)) (allN q0a (plC f sk lm V N n k true es c cl fe l i).heap) false=true:=by
 rcases h with rfl | rfl <;> kernel_rfl
theorem pl_r (names:List Nat) (h:names=nmN [5,6,7,8]\/names=nmN [5,6,7,9]\/names=nmN [9,10,7,8]) (es':List MapEntry) (c':Nat) (cl' fe':Int) (l':List Mk) (i':Nat):boolC (q1a 5 names (plC f sk lm V N n k false es' c' cl' fe' l' i') (plC f sk lm V N n k false es c cl fe l i)) (allN q0a (plC f sk lm V N n k false es c cl fe l i).heap) false=true:=by
 rcases h with rfl | rfl | rfl <;> kernel_rfl
end
end
noncomputable section
open Go.Sim
open Go.Proofs
open Go.RowKit (Below)
variable {α:Type}
set_option maxRecDepth 1000000
def qvn (V:Nat->Value) (n:Nat):Prop:=∀ i,i<n->(∃ x,V (i * 4)=.int .i64 x)/\(∃ x,V (i * 4+1)=.int .i64 x)/\(∃ x,V (i * 4+2)=.int .i64 x)/\∃ x:BitVec 8,V (i * 4+3)=.int .u8 (x.toNat:Int)
theorem jod {V:Nat->Value} {n i:Nat} (h:qvn V n) (hi:i<n):fit4 V (0+i * 4):=by
 obtain ⟨⟨a,ha⟩,⟨b,hb⟩,⟨c,hc⟩,d,hd⟩:=h i hi
 unfold fit4
 rw [Nat.zero_add,Nat.add_zero,ha,hb,hc,hd]
 exact ⟨fun _=>rfl,fun _=>rfl,fun _=>rfl,q9x _,trivial⟩
section
variable {f:HashF} {d:ChD} {w t now:Int} {b:BitVec 8}
theorem op_w (hw:ChW d.es d.c d.sk.den d.lm.den d.cl.den d.fe.den) (h:0<=w/\w<=6) (hv:oV w t now=true) :
  ChW (oM f d w t now b) (oC f d w t now b) d.sk.den d.lm.den (clk now d.cl.den) (oF d w now)/\lsM (oM f d w t now b)=oL f d w t now b:=by
 by_cases h4:w<=4
 . have l4:le4 w=true:=qva h4
   have e1:oF d w now=d.fe.den:=by unfold oF; rw [qna (by omega)]; rfl
   have hv:vvT t now=true:=by unfold oV at hv; rw [l4] at hv; exact hv
   unfold oM oC oL
   rw [l4,e1]
   exact q60 hw (cBi.1 hv)
 . have l4:le4 w=false:=qna h4
   have hv:cB (vTm now)=true:=by unfold oV at hv; rw [l4] at hv; exact hv
   have hU:=hw.use (cBi.1 hv)
   unfold oM oC oL
   rw [l4]
   by_cases h6:w=6
   . have e1:oF d w now=clk now d.cl.den+d.sk.den:=by unfold oF; rw [qva h6]; rfl
     rw [e1]
     exact ⟨hU.fence,rfl⟩
   . have e1:oF d w now=d.fe.den:=by unfold oF; rw [qna h6]; rfl
     rw [e1]
     exact ⟨hU,rfl⟩
end
structure PlS where
 mn:Bool
 es:List MapEntry
 c:Nat
 cl:Int
 fe:Int
 l:List Mk
 i:Nat
structure PlS.fit (sk lm:Int) (n:Nat) (a:PlS):Prop where
 w:ChW a.es a.c sk lm a.cl a.fe
 nil:a.mn=true->lsM a.es=[]
 ls:a.mn=false->lsM a.es=a.l
 le:a.i<=n
def plKx (sk lm:Int) (V:Nat->Value) (N n k:Nat) (a:PlS):Cut:=plC shaG sk lm V N n k a.mn a.es a.c a.cl a.fe a.l a.i
section
variable {sk lm:Int} {V:Nat->Value} {N n k:Nat}
theorem jul {i:Nat} {z:Nat->Nat->Nat} {q:List Prop} (hV:qvn V n) (hN:n * 4<=N) (hi:i<n) (hq:∀ p∈q,p):∀ p∈plX V N n i z (min (z 0 0 - 0) 14) q,p :=
 all_cons (decide_eq_true (by omega)) (all_cons ⟨by omega,by omega⟩ (all_cons (by omega) (all_cons (jod hV hi) (q0d (qy2 (z 0 0) 14 0 (Nat.zero_le _)) hq))))
theorem qee {a a':PlS} {J:Junk} {M:Cut} {names:List Nat} {ds:List Bool} {q:Nat} {ps:List Prop} (hV:qvn V n) (hN:n * 4<=N) (hi:a.i<n) (hf:a'.fit sk lm n) (hi':a'.i=a.i+1)
  (h:∀ z,mapN (fun o=>outL [] M names (pl1 shaG sk lm V N n k a.mn a.es a.c a.cl a.fe a.l a.i J (some (1,3))) (true::app (dirQ 14 o) ds) z) (qka 15 0)=mapN (fun o=>(plX V N n a.i z o ps,seP names q (plKx sk lm V N n k a'))) (qka 15 0))
  (hn:boolC (q1a 5 names M (plKx sk lm V N n k a')) (allN q0a (plKx sk lm V N n k a').heap) false=true) (hp:∀ p∈ps,p) :
  qjc (qdg shaG) 5 (plKx sk lm V N n k) (fun b=>b.fit sk lm n/\n - b.i<n - a.i) (fun v _=>v=.bool (.lit true)) ((plKx sk lm V N n k a).fill J):=by
 refine qxr (js:=[]) (K:=fun _=>False) (M:=M) (names:=names) (some (1,3)) 20000 (fun z => ?_) (fun v es h=>h.elim)
 have ho:min (z 0 0 - 0) 14<15:=by omega
 refine ⟨_,_,_,qrg (h z) ho,jul hV hN hi hp,?_⟩
 show SeenTurn _ _ _ _ _ _
 exact SeenTurn.of (C:=plKx sk lm V N n k) a' ⟨hf,by omega⟩ hn
theorem jii (hV:qvn V n) (hN:n * 4<=N) (hs:nwP sk lm) (hz:n<=40):Runs (qdg shaG) 5 [.int .i64 (.sym sk),.int .i64 (.sym lm),slP 4 n k] (shaH [.row (.raw V N)]) fun v _=>v=.bool (.lit true):=by
 obtain ⟨hw0,hl0⟩:=nw_w hs
 refine q9c qxv (plKx sk lm V N n k) (fun a=>a.fit sk lm n) (fun a=>n - a.i) (fun g nm hg=>Nat.lt_of_lt_of_le (q7r hg) (by show 3<=5; omega)) ?_ fun a ha J => ?_
 . refine qgd (ms:=[(0,12,.int .i64 (.lit 0))]) (es:=[]) (ds:=[false,true,true]) (names:=nmN [5,6,7]) (N:=8) (M:=plC shaG sk lm V N n k true [] 0 0 (-1) [] 0) (some (1,3)) 20000 ⟨true,[],0,0,-1,[],0⟩ ⟨hw0,fun _=>hl0,fun h=>(by cases h),Nat.zero_le _⟩ (fun z=>pl_i shaG sk lm V N n k z) (pl_n shaG sk lm V N n k [] 0 0 (-1) [] 0 _ (.inl rfl) _ _ _ _ _ _) (fun q hq p v hp hv => ?_) (fun e he=>by cases he)
    (all_cons (decide_eq_false (by omega)) (all_cons (qva hs) (all_cons (qva hs) (all_cons (qcd hw0 hl0) qaa))))
   obtain rfl:=List.mem_singleton.1 hq
   exact qkd (jsl shaG sk lm V N n k [] 0 0 (-1) [] 0 true) hp hv (qoa rfl)
 show qjc (qdg shaG) 5 (plKx sk lm V N n k) _ _ ((plKx sk lm V N n k a).fill J)
 obtain ⟨mn,es,c,cl,fe,l,i⟩:=a
 obtain ⟨hw,hnil,hls,hle⟩:=ha
 have hw:ChW es c sk lm cl fe:=hw
 have hnil:mn=true->lsM es=[]:=hnil
 have hls:mn=false->lsM es=l:=hls
 have hle:i<=n:=hle
 by_cases hi:i<n
 . have hnx:nxI i:=⟨by omega,by omega⟩
   have hD:∀ (mn:Bool),mn=true->lsM es=[]->agW (plD sk lm es c cl fe) (doRN sk lm cl fe):=fun _ _ h=>qcd hw h
   by_cases h6:0<=aW V i/\aW V i<=6
   . have c6:in06 V i true:=qva h6
     cases hv:oV (aW V i) (aT V i) (aN V i) with
     | true =>
       obtain ⟨hw2,hl2⟩:=op_w (f:=shaG) (d:=plD sk lm es c cl fe) (b:=aB V i) hw h6 hv
       cases hem:(oL shaG (plD sk lm es c cl fe) (aW V i) (aT V i) (aN V i) (aB V i)).isEmpty with
       | true =>
         have hf:PlS.fit sk lm n ⟨true,plM shaG sk lm V es c cl fe i,plK shaG sk lm V es c cl fe i,clk (aN V i) cl,plFe sk lm V es c cl fe i,l,i+1⟩:=⟨hw2,fun _=>hl2.trans (List.isEmpty_iff.1 hem),fun h=>(by cases h),hi⟩
         cases mn with
         | true=>exact qee (ds:=[true,true,true]) hV hN hi hf rfl (fun z=>pl_Bn shaG sk lm V N n k es c cl fe l i J z) (pl_n shaG sk lm V N n k _ _ _ _ _ _ _ (.inl rfl) _ _ _ _ _ _) (all_cons (qcd hw (hnil rfl)) (all_cons c6 (all_cons hv (all_cons hem (all_cons hnx qaa)))))
         | false=>exact qee (ds:=[true,true,true]) hV hN hi hf rfl (fun z=>pl_Br shaG sk lm V N n k es c cl fe l i J z) (pl_n shaG sk lm V N n k _ _ _ _ _ _ _ (.inl rfl) _ _ _ _ _ _) (all_cons (qri hw (hls rfl)) (all_cons c6 (all_cons hv (all_cons hem (all_cons hnx qaa)))))
       | false =>
         have hf:PlS.fit sk lm n ⟨false,plM shaG sk lm V es c cl fe i,plK shaG sk lm V es c cl fe i,clk (aN V i) cl,plFe sk lm V es c cl fe i,plL shaG sk lm V es c cl fe i,i+1⟩:=⟨hw2,fun h=>(by cases h),fun _=>hl2,hi⟩
         cases mn with
         | true=>exact qee (ds:=[true,true,false]) hV hN hi hf rfl (fun z=>pl_Cn shaG sk lm V N n k es c cl fe l i J z) (pl_r shaG sk lm V N n k _ _ _ _ _ _ _ (.inl rfl) _ _ _ _ _ _) (all_cons (qcd hw (hnil rfl)) (all_cons c6 (all_cons hv (all_cons hem (all_cons hnx qaa)))))
         | false=>exact qee (ds:=[true,true,false]) hV hN hi hf rfl (fun z=>pl_Cr shaG sk lm V N n k es c cl fe l i J z) (pl_r shaG sk lm V N n k _ _ _ _ _ _ _ (.inr (.inl rfl)) _ _ _ _ _ _) (all_cons (qri hw (hls rfl)) (all_cons c6 (all_cons hv (all_cons hem (all_cons hnx qaa)))))
     | false =>
       have hf:PlS.fit sk lm n ⟨mn,es,c,cl,fe,l,i+1⟩:=⟨hw,hnil,hls,hi⟩
       cases mn with
       | true=>exact qee (ds:=[true,false]) hV hN hi hf rfl (fun z=>pl_An shaG sk lm V N n k es c cl fe l i J z) (pl_n shaG sk lm V N n k _ _ _ _ _ _ _ (.inl rfl) _ _ _ _ _ _) (all_cons (qcd hw (hnil rfl)) (all_cons c6 (all_cons hv (all_cons hnx qaa))))
       | false=>exact qee (ds:=[true,false]) hV hN hi hf rfl (fun z=>pl_Ar shaG sk lm V N n k es c cl fe l i J z) (pl_r shaG sk lm V N n k _ _ _ _ _ _ _ (.inl rfl) _ _ _ _ _ _) (all_cons (qri hw (hls rfl)) (all_cons c6 (all_cons hv (all_cons hnx qaa))))
   . have c6:in06 V i false:=qna h6
     by_cases h7:aW V i=7
     . obtain ⟨hB,hBl⟩:=q8r hw
       have hf:PlS.fit sk lm n ⟨mn,plEs sk lm es c cl fe,plEc sk lm es c cl fe,cl,fe,l,i+1⟩:=⟨hB,fun h=>hBl.trans (hnil h),fun h=>hBl.trans (hls h),hi⟩
       cases mn with
       | true=>exact qee (ds:=[false,true]) hV hN hi hf rfl (fun z=>pl_Ln shaG sk lm V N n k es c cl fe l i J z) (pl_n shaG sk lm V N n k _ _ _ _ _ _ _ (.inr rfl) _ _ _ _ _ _) (all_cons (qcd hw (hnil rfl)) (all_cons c6 (all_cons (qva h7) (all_cons hnx qaa))))
       | false=>exact qee (ds:=[false,true]) hV hN hi hf rfl (fun z=>pl_Lr shaG sk lm V N n k es c cl fe l i J z) (pl_r shaG sk lm V N n k _ _ _ _ _ _ _ (.inr (.inr rfl)) _ _ _ _ _ _) (all_cons (qri hw (hls rfl)) (all_cons c6 (all_cons (qva h7) (all_cons hnx qaa))))
     . have hf:PlS.fit sk lm n ⟨mn,es,c,cl,fe,l,i+1⟩:=⟨hw,hnil,hls,hi⟩
       cases mn with
       | true=>exact qee (ds:=[false,false]) hV hN hi hf rfl (fun z=>pl_Dn shaG sk lm V N n k es c cl fe l i J z) (pl_n shaG sk lm V N n k _ _ _ _ _ _ _ (.inr rfl) _ _ _ _ _ _) (all_cons (qcd hw (hnil rfl)) (all_cons c6 (all_cons (qna h7) (all_cons hnx qaa))))
       | false=>exact qee (ds:=[false,false]) hV hN hi hf rfl (fun z=>pl_Dr shaG sk lm V N n k es c cl fe l i J z) (pl_r shaG sk lm V N n k _ _ _ _ _ _ _ (.inr (.inr rfl)) _ _ _ _ _ _) (all_cons (qri hw (hls rfl)) (all_cons c6 (all_cons (qna h7) (all_cons hnx qaa))))
 . refine qgc (js:=[]) (names:=nmN [5,6,7]) (M:=plC shaG sk lm V N n k mn es c cl fe l i) none 20000 (fun z=>jtl shaG sk lm V N n k es c cl fe l i J z mn) (all_cons (decide_eq_false (by omega)) (all_cons (decide_eq_false (by omega)) qaa)) fun H _=>rfl
end
theorem q70 {ds:List Bool} {ps:List Prop} {sk lm:Int} {V:Nat->Value} {N n k:Nat} (h:outO [] (plT shaG sk lm V N n k none) ds=(ps,some (.bool (.lit true),[]))) (hp:∀ p∈ps,p):Runs (qdg shaG) 5 [.int .i64 (.sym sk),.int .i64 (.sym lm),slP 4 n k] (shaH [.row (.raw V N)]) fun v _=>v=.bool (.lit true) :=
 qdc qxv (n:=20000) (qxa (t:=qea (qdg shaG) 20000 5 [.int .i64 (.sym sk),.int .i64 (.sym lm),slP 4 n k] (shaH [.row (.raw V N)])) h hp fun _ _=>rfl)
theorem qy3 {ds:List Bool} {ps:List Prop} {sk lm:Int} (h:outO [] (plZ shaG sk lm) ds=(ps,some (.bool (.lit true),[]))) (hp:∀ p∈ps,p):Runs (qdg shaG) 5 [.int .i64 (.sym sk),.int .i64 (.sym lm),.nilSlice] (shaH []) fun v _=>v=.bool (.lit true) :=
 qdc qxv (n:=20000) (qxa (t:=qea (qdg shaG) 20000 5 [.int .i64 (.sym sk),.int .i64 (.sym lm),.nilSlice] (shaH [])) h hp fun _ _=>rfl)
theorem jpd {sk lm:Int} {V:Nat->Value} {N n k:Nat} (hV:qvn V n) (hN:n * 4<=N):Runs (qdg shaG) 5 [.int .i64 (.sym sk),.int .i64 (.sym lm),slP 4 n k] (shaH [.row (.raw V N)]) fun v _=>v=.bool (.lit true):=by
 by_cases hz:n<=40
 . by_cases hs:nwP sk lm
   . exact jii hV hN hs hz
   . by_cases h0:0<n
     . exact q70 (pl_e1 shaG sk lm V N n k) (all_cons (decide_eq_false (by omega)) (all_cons (qna hs) (all_cons (qna hs) (all_cons (decide_eq_true (by omega)) qaa))))
     . exact q70 (pl_e0 shaG sk lm V N n k) (all_cons (decide_eq_false (by omega)) (all_cons (qna hs) (all_cons (qna hs) (all_cons (decide_eq_false (by omega)) (all_cons (decide_eq_false (by omega)) qaa)))))
 . exact q70 (jhi shaG sk lm V N n k) (all_cons (decide_eq_true (by omega)) qaa)
theorem jji {sk lm:Int}:Runs (qdg shaG) 5 [.int .i64 (.sym sk),.int .i64 (.sym lm),.nilSlice] (shaH []) fun v _=>v=.bool (.lit true):=by
 by_cases hs:nwP sk lm
 . obtain ⟨hw0,hl0⟩:=nw_w hs
   exact qy3 (pl_z1 shaG sk lm) (all_cons (qva hs) (all_cons (qva hs) (all_cons (qcd hw0 hl0) qaa)))
 . exact qy3 (pl_z0 shaG sk lm) (all_cons (qna hs) (all_cons (qna hs) qaa))
end
noncomputable section
open Go.Sim Go.WideShapes Go.ChangeShapes
section
variable {H:Type} {enc:TypeId × Value->H} {P:Program} {w:World} {r:Reach} {b0 base:Nat} {held:Bool}
theorem q9r {ti:TypeId} {n:Nat} {c:Value} {y:DataW H × List MemPlace} (hi:P.underlying ti=some (.int .i64)) (k:DataW.trod enc P w base (fun _=>true) held n ti [c]=some y):∃ z,c=.int .i64 z:=by
 obtain ⟨z,e,_,_⟩:=DataW.trod_int hi k
 exact ⟨z,by simpa using e⟩
end
end
noncomputable section
open Go.Sim Go.WideShapes Go.ChangeShapes
open Go.Proofs
open Go.RowKit
variable {α:Type}
set_option maxRecDepth 1000000
theorem jsa {P:Program} {w:World} {β:Val} {H:List SO} (h:HeapRel P (fun _=>False) w β H w) {x:Addr} {len cap M:Nat} {V:Nat->Value} (hs:x.spot=none) (hl:len<=cap)
  (hx:∀ i,i<M->w.cell? (x.add i)=some (V i)) :
  ∃ β',HeapRel P (fun _=>False) w β' (H++[.row (.raw V M)]) w/\β.le β'/\(slP H.length len cap).den β'=some (.slice (some x) len cap):=by
 have hsn:=h.snoc (Go.Sim.Loc.mk x.block x.off 0) (.row (.raw V M)) ?_ (fun ho=>by cases ho)
 . refine ⟨_,hsn.1,hsn.2,?_⟩
   simp only [slP,SV.den,SA.den,SC.den,Val.upd_same,Option.map_some,Option.bind_some,SN.den,Nat.add_zero,q0n]
   cases x; cases hs
   exact if_pos hl
 . refine ⟨_,(List.range M).map V,Val.upd_same ..,⟨by simp,fun i y hy => ?_⟩,fun i y hy => ?_⟩
   . rw [List.getElem?_map] at hy
     cases hi:(List.range M)[i]? with
     | none=>rw [hi] at hy; cases hy
     | some j =>
       rw [hi] at hy; cases hy
       obtain ⟨h1,h2⟩:=List.getElem?_eq_some_iff.1 hi
       rw [List.getElem_range] at h2
       subst h2; rfl
   . rw [List.getElem?_map] at hy
     cases hi:(List.range M)[i]? with
     | none=>rw [hi] at hy; cases hy
     | some j =>
       rw [hi] at hy; cases hy
       obtain ⟨h1,h2⟩:=List.getElem?_eq_some_iff.1 hi
       rw [List.getElem_range] at h2
       subst h2
       have hi:i<M:=by simpa using h1
       have hc:=hx i hi
       have e:(x.add i:Addr)=⟨x.block,x.off+i,none⟩:=by
        cases x; cases hs
        unfold Addr.add
        split
        . rename_i h0; rw [h0]; rfl
        . rfl
       rw [e] at hc
       refine ⟨?_,fun f=>f,hc⟩
       unfold World.cell? at hc
       show x.block<w.heap.size
       by_cases hb:x.block<w.heap.size
       . exact hb
       . have hn:w.heap[x.block]? = none:=Array.getElem?_eq_none (by omega)
         simp only [hn] at hc
         cases hc
def ActRow (w:World) (a:Option Addr) (len cap:Nat) (V:Nat->Value):Prop :=
 (a=none/\len=0/\cap=0)\/∃ x,a=some x/\x.spot=none/\len<=cap/\(∀ i,i<cap * 4->w.cell? (x.add i)=some (V i))/\qvn V cap
def actV (q:Nat->Int × Int × Int × BitVec 8) (j:Nat):Value:=if j % 4=0 then .int .i64 (q (j / 4)).1 else if j % 4=1 then .int .i64 (q (j / 4)).2.1 else if j % 4=2 then .int .i64 (q (j / 4)).2.2.1 else .int .u8 ((q (j / 4)).2.2.2.toNat:Int)
theorem qz3 (q:Nat->Int × Int × Int × BitVec 8) (i:Nat):actV q (i * 4)=.int .i64 (q i).1/\actV q (i * 4+1)=.int .i64 (q i).2.1/\actV q (i * 4+2)=.int .i64 (q i).2.2.1/\actV q (i * 4+3)=.int .u8 ((q i).2.2.2.toNat:Int):=by
 unfold actV
 refine ⟨?_,?_,?_,?_⟩
 . rw [if_pos (by omega),show i * 4 / 4=i by omega]
 . rw [if_neg (by omega),if_pos (by omega),show (i * 4+1) / 4=i by omega]
 . rw [if_neg (by omega),if_neg (by omega),if_pos (by omega),show (i * 4+2) / 4=i by omega]
 . rw [if_neg (by omega),if_neg (by omega),if_neg (by omega),show (i * 4+3) / 4=i by omega]
theorem jki (q:Nat->Int × Int × Int × BitVec 8) (n:Nat):qvn (actV q) n:=fun i hi=>by
 obtain ⟨h0,h1,h2,h3⟩:=qz3 q i
 exact ⟨⟨_,h0⟩,⟨_,h1⟩,⟨_,h2⟩,_,h3⟩
theorem jli {H:Type} {enc:TypeId × Value->H} {P:Program} {w:World} {base:Nat} {held:Bool} {ti:TypeId} {n:Nat} {c:Value} {y:DataW H × List MemPlace} (hi:P.underlying ti=some (.int .u8)) (k:DataW.trod enc P w base (fun _=>true) held n ti [c]=some y):∃ x:BitVec 8,c=.int .u8 (x.toNat:Int):=by
 obtain ⟨z,e,h1,h2⟩:=DataW.trod_int hi k
 have hn:(0:Int)<=z/\z<=255:=by
  simp [Lit.wf,IntKind.min,IntKind.max,IntKind.signed,IntKind.bits] at h1 h2
  omega
 refine ⟨BitVec.ofInt 8 z,?_⟩
 rw [BitVec.toNat_ofInt]
 have:c=.int .u8 z:=by simpa using e
 rw [this]
 congr 1
 omega
section
variable {H:Type} {enc:TypeId × Value->H} {P:Program} {w:World} {r:Reach} {b0 base:Nat} {held:Bool}
theorem cell_acts4 {ts te ti tx:TypeId} {f0 f1 f2 f3:Field} {n:Nat} {c:Value} {y:DataW H × List MemPlace} (hs:P.underlying ts=some (.slice te)) (he:P.underlying te=some (.struct #[f0,f1,f2,f3])) (h0:f0.type=ti/\f0.offset=0) (h1:f1.type=ti/\f1.offset=1) (h2:f2.type=ti/\f2.offset=2) (h3:f3.type=tx/\f3.offset=3)
  (hi:P.underlying ti=some (.int .i64)) (hx:P.underlying tx=some (.int .u8)) (ce:P.cellsOf te=4) (ci:P.cellsOf ti=1) (cx:P.cellsOf tx=1) (k:DataW.trod enc P w base (fun _=>true) held n ts [c]=some y) (hsp:∀ x l m,c=.slice (some x) l m->x.spot=none) :
  ∃ a len cap V,c=.slice a len cap/\ActRow w a len cap V:=by
 rcases Go.Deep.open_slice hs k with ⟨hc,_⟩ | ⟨x,l,m,q,n',D,Pl,hc,_,hl,_,hq,_,hcell⟩
 . obtain rfl:c=.slice none 0 0:=by simpa using hc
   exact ⟨none,0,0,fun _=>.bool true,rfl,.inl ⟨rfl,rfl,rfl⟩⟩
 . obtain rfl:c=.slice (some x) l m:=by simpa using hc
   rw [if_pos rfl] at hq
   subst hq
   have each:∀ i,i<q->∃ p:Int × Int × Int × BitVec 8,w.cell? (x.add (i * 4))=some (.int .i64 p.1)/\w.cell? (x.add (i * 4+1))=some (.int .i64 p.2.1)/\w.cell? (x.add (i * 4+2))=some (.int .i64 p.2.2.1)/\w.cell? (x.add (i * 4+3))=some (.int .u8 (p.2.2.2.toNat:Int)):=by
    intro i hiq
    obtain ⟨cs',g1,g2⟩:=hcell i hiq
    rw [ce] at g1
    obtain ⟨_,hlen,hcl⟩:=World.cells?_some g1
    obtain ⟨xs,k',_,_,_,hxl,hf⟩:=DataW.trod_struct he g2
    match xs,hxl,cs',hlen with
    | [y0,y1,y2,y3],_,[v0,v1,v2,v3],_ =>
      have k0:=hf 0 f0 rfl
      have k1:=hf 1 f1 rfl
      have k2:=hf 2 f2 rfl
      have k3:=hf 3 f3 rfl
      rw [h0.1,h0.2,ci] at k0
      rw [h1.1,h1.2,ci] at k1
      rw [h2.1,h2.2,ci] at k2
      rw [h3.1,h3.2,cx] at k3
      obtain ⟨z,rfl⟩:=q9r hi (show DataW.trod enc P w base (fun _=>true) held k' ti [v0]=some y0 from k0)
      obtain ⟨s,rfl⟩:=q9r hi (show DataW.trod enc P w base (fun _=>true) held k' ti [v1]=some y1 from k1)
      obtain ⟨t,rfl⟩:=q9r hi (show DataW.trod enc P w base (fun _=>true) held k' ti [v2]=some y2 from k2)
      obtain ⟨u,rfl⟩:=jli hx (show DataW.trod enc P w base (fun _=>true) held k' tx [v3]=some y3 from k3)
      have e0:=hcl 0 (by omega)
      have e1:=hcl 1 (by omega)
      have e2:=hcl 2 (by omega)
      have e3:=hcl 3 (by omega)
      rw [Go.Deep.add_add] at e0 e1 e2 e3
      exact ⟨(z,s,t,u),by simpa using e0,by simpa using e1,by simpa using e2,by simpa using e3⟩
   obtain ⟨p,hp⟩:=Go.Deep.choose_lt each
   refine ⟨some x,l,q,actV p,rfl,.inr ⟨x,rfl,hsp _ _ _ rfl,hl,fun j hj => ?_,jki p q⟩⟩
   obtain ⟨e0,e1,e2,e3⟩:=hp (j / 4) (by omega)
   obtain ⟨v0,v1,v2,v3⟩:=qz3 p (j / 4)
   rcases (show j=j / 4 * 4\/j=j / 4 * 4+1\/j=j / 4 * 4+2\/j=j / 4 * 4+3 by omega) with c | c | c | c
   . rw [c,v0]; exact e0
   . rw [c,v1]; exact e1
   . rw [c,v2]; exact e2
   . rw [c,v3]; exact e3
end
theorem plays_law {w:World} {β:Val} (hH:HeapRel Tryd.prog (fun _=>False) w β (shaH []) w) (hG:GlobRel qfc β) (sk lm:Int) {a:Option Addr} {len cap:Nat} {V:Nat->Value} (hr:ActRow w a len cap V) :
  Calls Tryd.prog 5 #[.int .i64 sk,.int .i64 lm,.slice a len cap] w fun e w'=>e=.returned (.bool true)/\Below w.heap.size w w':=by
 rcases hr with ⟨rfl,rfl,rfl⟩ | ⟨x,rfl,hs,hl,hx,hV⟩
 . exact q8z hH hG (denL_cons.2 ⟨_,_,rfl,denL_cons.2 ⟨_,_,rfl,rfl,rfl⟩,rfl⟩) (jji (sk:=sk) (lm:=lm))
 . obtain ⟨β',hH',hle,hd⟩:=jsa hH hs hl hx
   exact q8z hH' (hG.mono hle) (denL_cons.2 ⟨_,_,rfl,denL_cons.2 ⟨_,_,rfl,denL_cons.2 ⟨_,_,hd,rfl,rfl⟩,rfl⟩,rfl⟩) (jpd (sk:=sk) (lm:=lm) (fun i hi=>hV i (by omega)) (by omega))
end
noncomputable section
open Go.Sim
open Go.Proofs
theorem HeapRel.rows {P:Program} {W:World} {β:Val} {H:List SO} (h:∀ n e,H[n]? = some e->∃ c,e=.row c/\q0y (fun _=>False) W β n c) (hb:∀ n,H.length<=n->β n=none):HeapRel P (fun _=>False) W β H W:=by
 refine ⟨⟨fun n e hn => ?_,fun n m e e' l l' hn hm ho ho' => ?_,fun n e l hn ho => ?_,⟨rfl,rfl,rfl,Nat.le_refl _,Nat.le_refl _,fun _ _ _=>rfl⟩⟩,hb⟩
 . obtain ⟨c,rfl,hc⟩:=h n e hn; exact hc
 . obtain ⟨c,rfl,hc⟩:=h n e hn; cases ho
 . obtain ⟨c,rfl,hc⟩:=h n e hn; cases ho
theorem jta {γ:Val} (k:IntKind):∀ T:List Nat,SV.denL γ (kx k T)=some (T.map fun n=>Value.int k (Int.ofNat n))
 | []=>rfl
 | _::T=>denL_cons.2 ⟨_,_,rfl,jta k T,rfl⟩
theorem q03 {W:World} {a:Addr} {x:Value} (h:W.cell? a=some x):a.block<W.heap.size:=by
 by_cases hb:a.block<W.heap.size
 . exact hb
 . unfold World.cell? at h
   have hn:W.heap[a.block]? = none:=Array.getElem?_eq_none (by omega)
   simp only [hn] at h
   cases h
theorem q80 {W:World} {β:Val} {n:Nat} {l:Sim.Loc} {k:IntKind} {L:List Nat} (hl:β n=some l) (hc:∀ i,i<L.length->W.cell? ⟨l.blk,l.off+i,none⟩=some (.int k ((L.getD i 0:Nat):Int))):q0y (fun _=>False) W β n (.lst (kx k L)):=by
 refine ⟨l,_,hl,jta k L,fun i x hx => ?_⟩
 rw [List.getElem?_map] at hx
 cases hi:L[i]? with
 | none=>rw [hi] at hx; cases hx
 | some t =>
   rw [hi] at hx; cases hx
   have hlt:i<L.length:=(List.getElem?_eq_some_iff.1 hi).1
   have hcell:=hc i hlt
   have e:L.getD i 0=t:=by rw [List.getD_eq_getElem?_getD,hi]; rfl
   rw [e] at hcell
   exact ⟨q03 hcell,fun f=>f,hcell⟩
theorem jua {P:Program} {w:World} {name:String} {g:Nat} {t e:TypeId} {k:IntKind} {n:Nat} {L:List Nat} (hn:P.globalNamed name=some g) (hy:(P.globals[g]?).map (·.type)=some t) (ht:P.underlying t=some (.array n e)) (he:P.underlying e=some (.int k)) (hce:P.cellsOf e=1) (hct:P.cellsOf t=n)
  (h:Lib.VarReads P w name (Lib.tabData k (L.map Int.ofNat))):∀ i,i<L.length->w.cell? ⟨g,i,none⟩=some (.int k ((L.getD i 0:Nat):Int)):=by
 obtain ⟨g',t',cs,fuel,p,hg,hty,hvar,hd⟩:=h
 obtain rfl:=Option.some.inj (hn.symm.trans hg)
 obtain rfl:=Option.some.inj (hy.symm.trans hty)
 intro i hi
 have hT:Lib.TabIs P w name k (L.map Int.ofNat):=by
  unfold Lib.TabIs
  rw [hvar,← Lib.cells_of_tab ht he hce hct hd]
 have:=hT.cell hn i (by simpa using hi)
 rw [this]
 simp [List.getD_eq_getElem?_getD,List.getElem?_eq_getElem hi]
theorem jqd {P:Program} {w:World} {name:String} {g:Nat} {t e:TypeId} {k:IntKind} {l:List Nat} (hn:P.globalNamed name=some g) (hy:(P.globals[g]?).map (·.type)=some t)
  (ht:P.underlying t=some (.slice e)) (he:P.underlying e=some (.int k)) (hc:P.cellsOf e=1) (hl:0<l.length) (h:Lib.VarReads P w name (Lib.sliceData k l)) :
  ∃ R o:Nat,w.cell? ⟨g,0,none⟩=some (.slice (some ⟨R,o,none⟩) l.length l.length)/\∀ j,j<l.length->w.cell? ⟨R,o+j,none⟩=some (.int k (l.getD j 0)):=by
 obtain ⟨R,o,c,h1,h2⟩:=Lib.tabSlice_of_reads hn hy ht he hc hl h
 refine ⟨R,o,?_,h2⟩
 obtain ⟨g',t',cs,fuel,p,hg,hty,hvar,hd⟩:=h
 obtain rfl:=Option.some.inj (hn.symm.trans hg)
 obtain rfl:=Option.some.inj (hy.symm.trans hty)
 rcases DataW.trod_slice ht hd with ⟨_,hx⟩ | ⟨a,len,cap,el,rs,m,rfl,hcs,hx,_,hlc,_,hel,helem,hsp,_⟩
 . cases hx
 have e0:=congrArg Prod.fst hx
 simp only [Lib.sliceData,DataW.slice.injEq] at e0
 obtain ⟨eE,eR⟩:=e0
 have hlen:len=l.length:=by
  have:=congrArg List.length eE
  simp at this
  omega
 have hr:=(hsp rfl).1
 have hr0:rs.length=0:=by
  have:=congrArg List.length eR
  simp at this
  simp [this]
 have hcap:cap=l.length:=by omega
 have h3:w.cell? ⟨g,0,none⟩=some (.slice (some a) l.length l.length):=by
  rw [World.var?_cell hg hvar 0,← Array.getElem?_toList,hcs,hlen,hcap]
  rfl
 rw [h1] at h3
 cases h3
 exact h1
end
noncomputable section
open Go.Sim
open Go.Proofs
theorem sha_start {W:World} (hL:laidMetH Tryd.prog [("watchword/watchwordref04.constants",Rows.laid_watchword_watchwordref04_constants),("watchword/sha.start",Rows.laid_watchword_sha_start),("watchword/sha.constants",Rows.laid_watchword_sha_constants)] W) :
  ∃ β,HeapRel Tryd.prog (fun _=>False) W β (shaH []) W/\GlobRel qfc β:=by
 rw [MakeChecks.laidMetH_plain _ _ _ (by kernel_rfl)] at hL
 have e1:(Rows.laid_watchword_watchwordref04_constants:DataW Unit)=Lib.sliceData .i64 constL:=by kernel_rfl
 have e2:(Rows.laid_watchword_sha_start:DataW Unit)=Lib.tabData .u32 (startL.map Int.ofNat):=by kernel_rfl
 have e3:(Rows.laid_watchword_sha_constants:DataW Unit)=Lib.tabData .u32 (constL.map Int.ofNat):=by kernel_rfl
 rw [e1,e2,e3] at hL
 have r1:=Lib.laidMet.reads hL (n := "watchword/watchwordref04.constants") (d:=Lib.sliceData .i64 constL) (by simp)
 have r2:=Lib.laidMet.reads hL (n := "watchword/sha.start") (d:=Lib.tabData .u32 (startL.map Int.ofNat)) (by simp)
 have r3:=Lib.laidMet.reads hL (n := "watchword/sha.constants") (d:=Lib.tabData .u32 (constL.map Int.ofNat)) (by simp)
 have t2:=jua (g:=0) (t:=97) (e:=95) (n:=8) (by kernel_rfl) (by kernel_rfl) (by kernel_rfl) (by kernel_rfl) (by kernel_rfl) (by kernel_rfl) r2
 have t3:=jua (g:=2) (t:=110) (e:=95) (n:=64) (by kernel_rfl) (by kernel_rfl) (by kernel_rfl) (by kernel_rfl) (by kernel_rfl) (by kernel_rfl) r3
 obtain ⟨R,o,c1,c2⟩:=jqd (g:=1) (t:=107) (e:=3) (by kernel_rfl) (by kernel_rfl) (by kernel_rfl) (by kernel_rfl) (by kernel_rfl) (by decide) r1
 have hc64:constL.length=64:=rfl
 rw [hc64] at c1
 let β:Val:=fun n=>match n with
  | 0=>some (Sim.Loc.mk 0 0 0)
  | 1=>some (Sim.Loc.mk 2 0 0)
  | 2=>some (Sim.Loc.mk 1 0 0)
  | 3=>some (Sim.Loc.mk R o 0)
  | _=>none
 refine ⟨β,HeapRel.rows (fun n e hn => ?_) fun n hn => ?_,fun g nm hg => ?_⟩
 . match n,hn with
   | 0,hn=>cases hn; exact ⟨_,rfl,q80 (l:=Sim.Loc.mk 0 0 0) rfl fun i hi=>by rw [show (Sim.Loc.mk 0 0 0).off+i=i from Nat.zero_add i]; exact t2 i hi⟩
   | 1,hn=>cases hn; exact ⟨_,rfl,q80 (l:=Sim.Loc.mk 2 0 0) rfl fun i hi=>by rw [show (Sim.Loc.mk 2 0 0).off+i=i from Nat.zero_add i]; exact t3 i hi⟩
   | 2,hn =>
     cases hn
     refine ⟨_,rfl,Sim.Loc.mk 1 0 0,[.slice (some ⟨R,o,none⟩) 64 64],rfl,?_,fun i x hx => ?_⟩
     . show SV.denL β [.slice ⟨3,.lit 0⟩ (.lit 64) (.lit 64)]=_
       rfl
     . cases i with
       | zero =>
         cases hx
         exact ⟨q03 c1,fun f=>f,c1⟩
       | succ i=>simp at hx
   | 3,hn=>cases hn; exact ⟨_,rfl,q80 (l:=Sim.Loc.mk R o 0) rfl fun i hi=>c2 i hi⟩
   | n+4,hn=>simp [shaH] at hn
 . match n,hn with
   | n+4,_=>rfl
   | 0,hn=>simp [shaH] at hn
   | 1,hn=>simp [shaH] at hn
   | 2,hn=>simp [shaH] at hn
   | 3,hn=>simp [shaH] at hn
 . rcases q2c (show boolC (Nat.beq g 0) (some 0) _=some nm from hg) with ⟨h1,h2⟩ | h
   . cases h2; exact ⟨_,rfl,(q6b h1).symm,rfl⟩
   . rcases q2c (show boolC (Nat.beq g 2) (some 1) _=some nm from h) with ⟨h1,h2⟩ | h
     . cases h2; exact ⟨_,rfl,(q6b h1).symm,rfl⟩
     . obtain ⟨h1,h2⟩:=q4b (show boolC (Nat.beq g 1) (some 2) none=some nm from h)
       cases h2; exact ⟨_,rfl,(q6b h1).symm,rfl⟩
end
end Go.Proofs.YthkgcljngalafaaDoor.Aes
