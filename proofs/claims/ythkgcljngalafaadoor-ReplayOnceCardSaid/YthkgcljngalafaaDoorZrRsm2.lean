/-
  The reference's hash: Sum.
-/
import Derived.Test.YthkgcljngalafaaDoorPr11
namespace Go.Proofs.YthkgcljngalafaaDoor.Aes
noncomputable section
open Go.Sim
open Go.Proofs
variable {α:Type}
section
variable (X:Nat->BitVec 8) (N o n m:Nat)
def qjp:List SV:=[.slice ⟨4,.sym o⟩ (.sym n) (.sym m)]
def qgu (X:Nat->BitVec 8) (N:Nat):List SO:=shaH [rowF X N]
def jrc:SS:=qmd (qka (cfgR2.at (some (1,3))) 4000 38 (qjp o n m) (qgu X N)) []
structure RsmA where
 i:Int
 V:List W32
def padX (X:Nat->BitVec 8) (o n:Nat):Nat->BitVec 8:=padF (fun i=>X (o+i)) n n
def rsmC (A:RsmA):Cut :=
 ⟨qke (jrc X N o n m).frames [[(2,.ptr ⟨5,.lit 0⟩),(3,.ptr ⟨6,.lit 0⟩),(4,.slice ⟨7,.lit 0⟩ (.sym (lenP n)) (.rest 7 0)),(5,.int .i64 (.sym A.i))]],
  [.ent q3g,.ent q4g,.ent qym,.ent qh4,.ent (rowF X N),entN (jrc X N o n m).heap 5,.ent (.own (.lst (ux (qvb A.V))) true 91),.ent (.own (.fn (qab (padX X o n)) (lenP n)) false 5)]⟩
def qkp:List Nat:=qba 8 0
theorem jxa (z:Nat->Nat->Nat):outL [] (rsmC X N o n m ⟨0,qoc⟩) qkp (qka (cfgR2.at (some (1,3))) 4000 38 (qjp o n m) (qgu X N)) [] z =
  ([IsB (qab X),o+n<=N/\n<=1099511627776],some (.inr (qtc [(0,5,.int .i64 (.lit 0))] [(6,.ent (.own (.lst (kx .i64 startL)) true 91))] (q2a qkp 8 (rsmC X N o n m ⟨0,qoc⟩))))):=by kernel_rfl
theorem qlv (A B:RsmA):boolC (q0a 5 qkp (rsmC X N o n m A) (rsmC X N o n m B)) (allN qva (rsmC X N o n m B).heap) false=true:=by kernel_rfl
theorem jue (A:RsmA):(((rsmC X N o n m A).frames[0]?).bind fun p=>p.tmps[5]?)=some (some (.int .i64 (.sym A.i))):=by kernel_rfl
theorem jve (A:RsmA) (J:Junk) (z:Nat->Nat->Nat):outL [] (rsmC X N o n m A) qkp (sim1 (cfgR2.at none) 8000 ((rsmC X N o n m A).fill J)) [false] z =
  ([decide (A.i<(lenP n:Int))=false],some (.inl (.agg (bx (qzi A.V)),[]))):=by kernel_rfl
def cRsm (L:Nat) (i:Int) (P:Nat->BitVec 8):List Prop :=
 [decide (i<(L:Int))=true,qsa (i+64),0<=i+64/\i+64<=(L:Int),0<=i/\i<=((i+64).toNat:Int),0<(i+64).toNat - i.toNat,decide ((i+64).toNat - i.toNat=64)=true,IsB (qab P),0+i.toNat * 1+64<=L,qsa (i+64)]
theorem jya (A:RsmA) (J:Junk) (z:Nat->Nat->Nat):outL [] (rsmC X N o n m A) qkp (sim1 (cfgR2.at (some (1,3))) 4000 ((rsmC X N o n m A).fill J)) [true,true] z =
  (cRsm (lenP n) A.i (padX X o n),some (.inr (q2a qkp 8 (rsmC X N o n m ⟨A.i+64,cmpW (qvb A.V) (qeb (padX X o n) (0+A.i.toNat * 1))⟩)))):=by kernel_rfl
end
theorem jwe:outO [] (qka cfgR2 8000 38 [.nilSlice] (shaH [])) [true,false] =
  ([decide ((0:Int)<(lenP 0:Int))=true,64<=lenP 0,IsB (qab (padF (fun _=>0#8) 0 0)),0+64<=lenP 0,decide ((64:Int)<(lenP 0:Int))=false],some (.agg (bx (qzi (cmpW (qvb qoc) (qeb (padF (fun _=>0#8) 0 0) 0)))),[])):=by kernel_rfl
section
variable {X:Nat->BitVec 8} {N o n m:Nat}
structure RsmQ (X:Nat->BitVec 8) (o n:Nat) (A:RsmA) (k:Nat):Prop where
 i:A.i=((64 * k:Nat):Int)
 le:k<=(n+72) / 64
 V:A.V=q0i qoc (padX X o n) k
theorem qt4 {f:Nat->Nat}:ImpE f (some (.ent (.own (.lst (kx .i64 startL)) true 91))) (.ent (.own (.lst (ux (qvb qoc))) true 91)):=by
 refine ⟨_,rfl,?_⟩
 show SV.ImpL _ (SV.renL f (ux (qvb qoc)))
 rw [qft]
 exact qeu (by kernel_rfl)
theorem jza (hN:o+n<=N) (hn:n<=1099511627776):Runs cfgR2 38 (qjp o n m) (qgu X N) fun v _=>v=.agg (bx (shaF (fun i=>X (o+i)) n)):=by
 have hb:=qpk n
 have hL:lenP n=64 * ((n+72) / 64):=rfl
 refine qmf qo1 (rsmC X N o n m) (fun A=>∃ k,RsmQ X o n A k) (fun A=>lenP n - A.i.toNat) (fun g nm hg=>Nat.lt_of_lt_of_le (q5q hg) (by show 3<=5; omega)) ?_ fun A ⟨k,hA⟩ J => ?_
 . refine qgg (some (1,3)) 4000 ⟨0,qoc⟩ ⟨0,rfl,Nat.zero_le _,rfl⟩ (jxa X N o n m) (qlv X N o n m _ _) ?_ ?_ (all_cons (q6c X) (all_cons ⟨hN,hn⟩ qca))
   . intro e he p u hp hu
     rw [List.mem_singleton] at he; subst he
     exact qdu (jue X N o n m _) hp hu (q8c rfl)
   . intro e he E0 hE
     rw [List.mem_singleton] at he; subst he
     cases hE
     exact qt4
 . obtain ⟨h1,h2,h3⟩:=hA
   by_cases hk:k<(n+72) / 64
   . refine qgc (some (1,3)) 4000 ⟨A.i+64,cmpW (qvb A.V) (qeb (padX X o n) (0+A.i.toNat * 1))⟩ ⟨⟨k+1,by show A.i+64=_; omega,by omega,?_⟩,?_⟩ (jya X N o n m A J) (qlv X N o n m _ _) ?_
     . show cmpW (qvb A.V) (qeb (padX X o n) (0+A.i.toNat * 1))=q0i qoc (padX X o n) (k+1)
       rw [qee,show 0+A.i.toNat * 1=64 * k from by omega,h3]
     . show lenP n - (A.i+64).toNat<lenP n - A.i.toNat
       omega
     . exact all_cons (decide_eq_true (by omega)) (all_cons ⟨by omega,by omega⟩ (all_cons ⟨by omega,by omega⟩ (all_cons ⟨by omega,by omega⟩ (all_cons (by omega) (all_cons (decide_eq_true (by omega)) (all_cons (q6c _) (all_cons (by omega) (all_cons ⟨by omega,by omega⟩ qca))))))))
   . refine qdd none 8000 (jve X N o n m A J) (all_cons (decide_eq_false (by omega)) qca) fun H _ => ?_
     show SV.agg (bx (qzi A.V))=_
     rw [h3,show k=(n+72) / 64 from by omega]; rfl
end
def qu4 (F:(Nat->BitVec 8)->Nat->List (BitVec 8)) (mx:Nat):Summ:=fun args H _=>qye args fun v=>shaT H (q7k v (.ok ⟨.agg (bx (F (fun _=>0#8) 0)),[],[]⟩) fun a l=>boolC (qsj a.nm) (qai (nth H a.nm) fun X N=>.need (a.off.den+l.den<=N/\l.den<=mx) (.ok ⟨.agg (bx (F (fun i=>X (a.off.den+i)) l.den)),[],[]⟩)) (.stuck 740))
theorem jsc:SumAt Tryd.prog q4c 38 (qu4 shaF 1099511627776):=by
 intro O w0 β H w base args vs hH hG ha
 refine qic fun v hv=>qzm fun hT=>qyg (fun hn => ?_) fun a l c hs=>qra fun hn=>qce fun X N ht=>fun hle => ?_
 . rw [hv,hn] at ha
   refine q9u qo1 8000 hH (shaI [] [] [.nilSlice]) (qgi hG) ha (Ifc.fits (by simp [shaI]) rfl (qbk hT trivial)) [] (by simp) (by simp) jwe ?_ fun _ _=>q9s rfl ?_
   . exact all_cons (by decide) (all_cons (by decide) (all_cons (q6c _) (all_cons (by decide) (all_cons (by decide) qca))))
   . unfold shaF
     rw [show (0+72) / 64=0+1 from rfl,qee]; rfl
 . rw [hv,hs] at ha
   rw [qda] at ht
   obtain ⟨x,ys,hx,hys,rfl⟩:=denL_cons.1 ha
   obtain ⟨m,hm,hd,_,_⟩:=q9e hx
   exact Go.Sim.sum_runs (c:=cfgR2) hH (shaI [a.nm] [rowF X N] (qjp a.off.den l.den m)) (qgi hG) (denL_cons.2 ⟨_,_,hd,hys,rfl⟩) (Ifc.fits (nd5 hn) rfl (qbk hT ⟨⟨ht _,qbi _ _ _⟩,trivial⟩)) [] (by simp) (by simp)
    (qyc (jza hle.1 hle.2) fun v H h=>q9s rfl h)
end
end Go.Proofs.YthkgcljngalafaaDoor.Aes
