/-
  Texts behind one another: the symbolic simulator and what it is told of the program.
-/
import Derived.Test.YthkgcljngalafaaDoorZsRsm2
import Derived.Test.YthkgcljngalafaaDoorPs8
import Derived.Test.YthkgcljngalafaaDoorPs6
import Derived.Test.YthkgcljngalafaaDoorPs7
namespace Go.Proofs.YthkgcljngalafaaDoor.Aes
noncomputable section
open Go.Sim
open Go.Proofs
variable {α:Type}
set_option maxRecDepth 1000000
def lit1 (v:SV):SV:=v.asInt v fun k n=>SI.rec (motive:=fun _=>SV) (fun _=>v) (fun _=>v) (fun x=>.int k (.lit (Int.ofNat x.toNat))) (fun _=>v) (fun _=>v) n
def litV (v:SV):SV:=v.asAgg v fun l=>.agg (mapN lit1 l)
theorem jkb (v:SV):v.Imp (lit1 v):=by
 unfold lit1
 rcases q1b v with ⟨k,n,rfl⟩ | hv
 . cases n <;> first | exact .refl _ | exact qld rfl
 . rw [hv]; exact .refl _
theorem qhv:∀ l:List SV,SV.ImpL l (mapN lit1 l)
 | []=>.refl _
 | v::l=>qla (jkb v) (qhv l)
theorem jlb (v:SV):v.Imp (litV v):=by
 unfold litV
 rcases qjk v with ⟨l,rfl⟩ | hv
 . intro γ x hx
   simp only [SV.den,Option.map_eq_some_iff] at hx
   obtain ⟨us,hus,rfl⟩:=hx
   show (SV.agg (mapN lit1 l)).den γ=_
   simp only [SV.den,Option.map_eq_some_iff]
   exact ⟨us,qhv l _ _ hus,rfl⟩
 . rw [hv]; exact .refl _
def jki (l:List SV):Bool:=allN (fun v=>v.asInt false fun _ n=>n.asLit false fun _=>true) l
theorem SumSem.imp {P:Program} {H:List SO} {β:Val} {w:World} {base:Nat} {f:FuncId} {vs:List Value} {v u:SV} {sets:List (Nat × SO)} {news:List SO} (h:SumSem P H β w base f vs ⟨v,sets,news⟩) (hi:v.Imp u):SumSem P H β w base f vs ⟨u,sets,news⟩:=by
 intro hf
 obtain ⟨h1,h2⟩:=h hf
 refine ⟨h1,?_⟩
 rcases h2 with ⟨hb,hc⟩ | ⟨x,w',β',hx,hv,hE⟩
 . refine .inl ⟨hb,fun cs => ?_⟩
   obtain ⟨e,w',fr,⟨x,β',h3,h4,h5⟩,h6⟩:=hc cs
   exact ⟨e,w',fr,⟨x,β',h3,hi _ _ h4,h5⟩,h6⟩
 . exact .inr ⟨x,w',β',hx,hi _ _ hv,hE⟩
def q7y (S:Summ):Summ:=fun args H base =>
 qad args fun v=>v.asSlice (S args H base) fun a _ _=>optC (qbe (nth H a.nm)) (S args H base) fun cs=>boolC (jki cs) ((S args H base).bind fun r=>.ok ⟨litV r.v,r.sets,r.news⟩) (S args H base)
theorem qiv {P:Program} {glob:Nat->Option Nat} {f:FuncId} {S:Summ} (h:SumAt P glob f S):SumAt P glob f (q7y S):=by
 intro O w0 β H w base args vs hH hG ha
 have hS:=h O w0 β H w base args vs hH hG ha
 refine qob fun v _ => ?_
 rcases asSlice_cases v with ⟨a,l,c,rfl⟩ | hno
 . show R.Sat (optC (qbe (nth H a.nm)) (S args H base) _) _
   cases qbe (nth H a.nm) with
   | none=>exact hS
   | some cs=>exact q9e (fun _=>hS.bind fun r hr=>SumSem.imp hr (jlb _)) fun _=>hS
 . rw [hno]; exact hS
def shaS:Summ:=q7y (j9c shaF)
def jdd:Summ:=q7y (jcd shaF 1099511627776)
theorem shaOK:SumAt Tryd.prog qxd 44 shaS:=qiv (SumAt.up sumOK)
theorem jli:SumAt Tryd.prog qxd 38 jdd:=qiv rsmOK
end
noncomputable section
open Go.Sim
open Go.Proofs
variable {α:Type}
set_option maxRecDepth 1000000
end
noncomputable section
open Go.Sim
open Go.Proofs
variable {α:Type}
set_option maxRecDepth 1000000
end
noncomputable section
open Go.Sim
open Go.Proofs
variable {α:Type}
set_option maxRecDepth 1000000
abbrev HashF:=(Nat->BitVec 8)->Nat->Nat->BitVec 8
section
variable (f:HashF) (es:List MapEntry) (c:Nat) (sk lm cl fe:Int) (W:Nat->Value) (n:Nat) (what t now:Int) (b:BitVec 8)
def doC (nm mm:Nat):ChD:=⟨nm,mm,.sym sk,.sym lm,.sym cl,.sym fe,es,c⟩
def doRN:RfD:=⟨.sym sk,.sym lm,.sym cl,.sym fe,0,fun _=>undef,0,.lit 0,true⟩
def doRL (k:Int) (nm:Nat) (l:List Mk):RfD:=⟨.sym sk,.sym lm,.sym k,.sym fe,nm,rowM l,l.length * 33,.sym l.length,false⟩
def agW (d:ChD) (D:RfD):Prop:=d.w/\D.w/\j7c d D
end
end
noncomputable section
open Go.Sim
open Go.Proofs
variable {α:Type}
set_option maxRecDepth 1000000
section
variable {f:HashF} {es:List MapEntry} {c:Nat} {sk lm cl fe t now:Int} {b:BitVec 8}
theorem agW_N {nm mm:Nat} (h:ChW es c sk lm cl fe) (hl:lsM es=[]):agW (doC es c sk lm cl fe nm mm) (doRN sk lm cl fe):=by
 refine ⟨h,⟨fun h=>(by cases h),?_⟩,hl,rfl,rfl,rfl,rfl⟩
 have:=h.ls
 rw [hl] at this
 exact this
theorem agW_L {nm mm k:Nat} {l:List Mk} (h:ChW es c sk lm cl fe) (hl:lsM es=l):agW (doC es c sk lm cl fe nm mm) (doRL sk lm fe cl k l):=by
 subst hl
 have e:(doRL sk lm fe cl k (lsM es)).l=lsM es:=(q9i (lsM es)).2
 refine ⟨h,⟨fun _=>⟨Nat.le_refl _,(q9i (lsM es)).1⟩,?_⟩,e.symm,rfl,rfl,rfl,rfl⟩
 show LsW (doRL sk lm fe cl k (lsM es)).l sk lm cl fe
 rw [e]; exact h.ls
end
end
noncomputable section
open Go.Sim
open Go.Proofs
variable {α:Type}
set_option maxRecDepth 1000000
section
variable (f:HashF) (d:ChD) (w t now:Int) (b:BitVec 8)
end
section
variable (d:ChD) (D:RfD) (w t now:Int) (b:BitVec 8)
end
section
variable {d:ChD} {D:RfD} {w t now:Int} {b:BitVec 8} {H:List SO}
end
end
noncomputable section
open Go.Sim
open Go.Proofs
variable {α:Type}
set_option maxRecDepth 1000000
structure DoI (I:Ifc) (d:ChD):Prop where
 own:q1c I.ents 0=[4,5]
 b4:I.big 4=d.nm
 b5:I.big 5=d.mm
 k4:I.known 4=true
 k5:I.known 5=true
 len:I.names.length<=7
section
variable {H:List SO} {O:Nat->Prop} {w0 wd:World} {β:Val} {base:Nat} {vs:List Value} {d:ChD} {I:Ifc} {ds:List Bool} {ps:List Prop} {v v':SV} {k fe:Int} {es:List MapEntry} {c:Nat}
end
end
noncomputable section
open Go.Sim
open Go.Proofs
variable {α:Type}
set_option maxRecDepth 1000000
section
variable {f:HashF} {es:List MapEntry} {c:Nat} {sk lm cl fe t now:Int} {b:BitVec 8} {D:RfD}
end
end
noncomputable section
open Go.Sim
open Go.Proofs
variable {α:Type}
def jmi (v:SV) (f:Nat->List Nat):List Nat:=match v with | .map n=>f n | _=>[]
def nmC (args:List SV) (H:List SO):List Nat :=
 List.rec (motive:=fun _=>List Nat) [] (fun a _ _=>a.asPtr [] fun a=>optC (qbe (nth H a.nm)) [] fun cs=>optC (nth cs 4) [] fun m=>jmi m fun m=>[a.nm,m]) args
def cfgP:Cfg:=qbg (qkc [])
theorem jni:CfgOK cfgP:=qie (by simp)
theorem SumAt.any {P:Program} {f:FuncId} {s:Summ} (h:SumAt P (fun _=>none) f s) (glob:Nat->Option Nat):SumAt P glob f s:=fun O w0 β H w base args vs hH _ ha=>h O w0 β H w base args vs hH (.none β) ha
def runP (n:Nat) (f:FuncId):Summ:=qiy cfgP n f [] nmC
theorem qp1 (n:Nat) (f:FuncId) (glob:Nat->Option Nat):SumAt Tryd.prog glob f (runP n f):=SumAt.any (q76 jni n f [] nmC fun _ _ h=>by cases h) glob
def qw4:Cfg:=cfgG qxd (qkc [(44,shaS),(38,jdd),(16,runP 2000 16),(15,runP 2000 15)])
theorem jdg:CfgOK qw4:=qie (allS shaOK (allS jli (allS (qp1 _ _ _) (allS (qp1 _ _ _) (by simp)))))
end
end Go.Proofs.YthkgcljngalafaaDoor.Aes
