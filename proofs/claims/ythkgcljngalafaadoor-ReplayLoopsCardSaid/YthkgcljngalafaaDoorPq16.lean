/-
  Texts behind one another: the symbolic simulator and what it is told of the program.
-/
import Derived.Test.YthkgcljngalafaaDoorPq7
import Derived.Test.YthkgcljngalafaaDoorZqRdo6
import Derived.Test.YthkgcljngalafaaDoorZqRpl4
namespace Go.Proofs.YthkgcljngalafaaDoor.Aes
noncomputable section
open Go.Sim
open Go.Proofs
variable {α:Type}
set_option maxRecDepth 1000000
def slP (b n k:Nat):SV:=.slice ⟨b,.lit 0⟩ (.sym n) (.sym k)
def rlPl (f:HashF):List (FuncId × Summ):=[(20,doSm f),(10,agSm),(7,exS),(12,nwSm),(19,jaf)]
section
variable (V:Nat->Value) (N n i:Nat) (z:Nat->Nat->Nat)
def aW:Int:=vNum (V (0+i * 4+0))
def aT:Int:=vNum (V (0+i * 4+1))
def aN:Int:=vNum (V (0+i * 4+2))
def aB:BitVec 8:=BitVec.ofInt 8 (vNum (V (0+i * 4+3)))
def fit4 (a:Nat):Prop:=fitK (.i .i64) (V (a+0))/\fitK (.i .i64) (V (a+1))/\fitK (.i .i64) (V (a+2))/\fitK (.i .u8) (V (a+3))/\True
def plA (q:List Prop):List Prop:=(decide ((i:Int)<(n:Int))=true)::((0:Int)<=(i:Int)/\(i:Int)<(n:Int))::(0+i * 4+4<=N)::fit4 V (0+i * 4)::q
def plX (o:Nat) (q:List Prop):List Prop:=plA V N n i (app (cndQ (z 0 0) 14 0 o) q)
end
def nmN (l:List Nat):List Nat:=app [0,1,2,3,4] l
def seP (names:List Nat) (q:Nat) (C:Cut):Option ((SV × List (Option SO)) ⊕ Seen):=some (.inr (qra names q C))
section
variable (f:HashF) (sk lm:Int) (V:Nat->Value) (N n k:Nat) (es:List MapEntry) (c:Nat) (cl fe:Int) (l:List Mk) (i:Nat) (J:Junk) (z:Nat->Nat->Nat)
def plD:ChD:=doC es c sk lm cl fe 5 6
def in06 (b:Bool):Prop:=cB (0<=aW V i/\aW V i<=6)=b
def plV (b:Bool):Prop:=oV (aW V i) (aT V i) (aN V i)=b
def plE (b:Bool):Prop:=(oL f (plD sk lm es c cl fe) (aW V i) (aT V i) (aN V i) (aB V i)).isEmpty=b
def plL:List Mk:=oL f (plD sk lm es c cl fe) (aW V i) (aT V i) (aN V i) (aB V i)
def plM:List MapEntry:=oM f (plD sk lm es c cl fe) (aW V i) (aT V i) (aN V i) (aB V i)
def plK:Nat:=oC f (plD sk lm es c cl fe) (aW V i) (aT V i) (aN V i) (aB V i)
def plFe:Int:=oF (plD sk lm es c cl fe) (aW V i) (aN V i)
def plEs:List MapEntry:=esX (plD sk lm es c cl fe).x (cntI (plD sk lm es c cl fe).x)
def plEc:Nat:=cntI (plD sk lm es c cl fe).x
end
end
noncomputable section
open Go.Sim
open Go.Proofs
open Go.RowKit (Below)
variable {α:Type}
set_option maxRecDepth 1000000
def q8k (V:Nat->Value) (n:Nat):Prop:=∀ i,i<n->(∃ x,V (i * 4)=.int .i64 x)/\(∃ x,V (i * 4+1)=.int .i64 x)/\(∃ x,V (i * 4+2)=.int .i64 x)/\∃ x:BitVec 8,V (i * 4+3)=.int .u8 (x.toNat:Int)
theorem jvd {V:Nat->Value} {n i:Nat} (h:q8k V n) (hi:i<n):fit4 V (0+i * 4):=by
 obtain ⟨⟨a,ha⟩,⟨b,hb⟩,⟨c,hc⟩,d,hd⟩:=h i hi
 unfold fit4
 rw [Nat.zero_add,Nat.add_zero,ha,hb,hc,hd]
 exact ⟨fun _=>rfl,fun _=>rfl,fun _=>rfl,qcy _,trivial⟩
section
variable {f:HashF} {d:ChD} {w t now:Int} {b:BitVec 8}
theorem op_w (hw:ChW d.es d.c d.sk.den d.lm.den d.cl.den d.fe.den) (h:0<=w/\w<=6) (hv:oV w t now=true) :
  ChW (oM f d w t now b) (oC f d w t now b) d.sk.den d.lm.den (clk now d.cl.den) (oF d w now)/\lsM (oM f d w t now b)=oL f d w t now b:=by
 by_cases h4:w<=4
 . have l4:le4 w=true:=qta h4
   have e1:oF d w now=d.fe.den:=by unfold oF; rw [qoa (by omega)]; rfl
   have hv:vvT t now=true:=by unfold oV at hv; rw [l4] at hv; exact hv
   unfold oM oC oL
   rw [l4,e1]
   exact qa1 hw (cBi.1 hv)
 . have l4:le4 w=false:=qoa h4
   have hv:cB (vTm now)=true:=by unfold oV at hv; rw [l4] at hv; exact hv
   have hU:=hw.use (cBi.1 hv)
   unfold oM oC oL
   rw [l4]
   by_cases h6:w=6
   . have e1:oF d w now=clk now d.cl.den+d.sk.den:=by unfold oF; rw [qta h6]; rfl
     rw [e1]
     exact ⟨hU.fence,rfl⟩
   . have e1:oF d w now=d.fe.den:=by unfold oF; rw [qoa h6]; rfl
     rw [e1]
     exact ⟨hU,rfl⟩
end
structure PlS where
 mn:Bool
 es:List MapEntry
 c:Nat
 cl:Int
 fe:Int
 l:List Mk
 i:Nat
structure PlS.fit (sk lm:Int) (n:Nat) (a:PlS):Prop where
 w:ChW a.es a.c sk lm a.cl a.fe
 nil:a.mn=true->lsM a.es=[]
 ls:a.mn=false->lsM a.es=a.l
 le:a.i<=n
section
variable {sk lm:Int} {V:Nat->Value} {N n k:Nat}
theorem j3l {i:Nat} {z:Nat->Nat->Nat} {q:List Prop} (hV:q8k V n) (hN:n * 4<=N) (hi:i<n) (hq:∀ p∈q,p):∀ p∈plX V N n i z (min (z 0 0 - 0) 14) q,p :=
 all_cons (decide_eq_true (by omega)) (all_cons ⟨by omega,by omega⟩ (all_cons (by omega) (all_cons (jvd hV hi) (qtd (q12 (z 0 0) 14 0 (Nat.zero_le _)) hq))))
end
end
end Go.Proofs.YthkgcljngalafaaDoor.Aes
