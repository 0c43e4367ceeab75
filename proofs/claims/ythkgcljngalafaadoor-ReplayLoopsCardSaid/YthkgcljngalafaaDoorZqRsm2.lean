/-
  The reference's hash: Sum.
-/
import Derived.Test.YthkgcljngalafaaDoorPq12
namespace Go.Proofs.YthkgcljngalafaaDoor.Aes
noncomputable section
open Go.Sim
open Go.Proofs
variable {α:Type}
section
variable (X:Nat->BitVec 8) (N o n m:Nat)
def qdq:List SV:=[.slice ⟨4,.sym o⟩ (.sym n) (.sym m)]
def quv (X:Nat->BitVec 8) (N:Nat):List SO:=shaH [rowF X N]
def jjf:SS:=q8c (qea (cfgR2.at (some (1,3))) 4000 38 (qdq o n m) (quv X N)) []
structure RsmA where
 i:Int
 V:List W32
def padX (X:Nat->BitVec 8) (o n:Nat):Nat->BitVec 8:=padF (fun i=>X (o+i)) n n
def rsmC (A:RsmA):Cut :=
 ⟨qod (jjf X N o n m).frames [[(2,.ptr ⟨5,.lit 0⟩),(3,.ptr ⟨6,.lit 0⟩),(4,.slice ⟨7,.lit 0⟩ (.sym (lenP n)) (.rest 7 0)),(5,.int .i64 (.sym A.i))]],
  [.ent qvh,.ent qwh,.ent qtn,.ent qt6,.ent (rowF X N),entN (jjf X N o n m).heap 5,.ent (.own (.lst (ux (q1b A.V))) true 91),.ent (.own (.fn (q1a (padX X o n)) (lenP n)) false 5)]⟩
def qeq:List Nat:=qka 8 0
theorem jnd (z:Nat->Nat->Nat):outL [] (rsmC X N o n m ⟨0,q3c⟩) qeq (qea (cfgR2.at (some (1,3))) 4000 38 (qdq o n m) (quv X N)) [] z =
  ([IsB (q1a X),o+n<=N/\n<=1099511627776],some (.inr (qib [(0,5,.int .i64 (.lit 0))] [(6,.ent (.own (.lst (kx .i64 startL)) true 91))] (qra qeq 8 (rsmC X N o n m ⟨0,q3c⟩))))):=by kernel_rfl
theorem q4w (A B:RsmA):boolC (qza 5 qeq (rsmC X N o n m A) (rsmC X N o n m B)) (allN qxa (rsmC X N o n m B).heap) false=true:=by kernel_rfl
theorem j6h (A:RsmA):(((rsmC X N o n m A).frames[0]?).bind fun p=>p.tmps[5]?)=some (some (.int .i64 (.sym A.i))):=by kernel_rfl
theorem j7h (A:RsmA) (J:Junk) (z:Nat->Nat->Nat):outL [] (rsmC X N o n m A) qeq (sim1 (cfgR2.at none) 8000 ((rsmC X N o n m A).fill J)) [false] z =
  ([decide (A.i<(lenP n:Int))=false],some (.inl (.agg (bx (qpj A.V)),[]))):=by kernel_rfl
def cRsm (L:Nat) (i:Int) (P:Nat->BitVec 8):List Prop :=
 [decide (i<(L:Int))=true,qqa (i+64),0<=i+64/\i+64<=(L:Int),0<=i/\i<=((i+64).toNat:Int),0<(i+64).toNat - i.toNat,decide ((i+64).toNat - i.toNat=64)=true,IsB (q1a P),0+i.toNat * 1+64<=L,qqa (i+64)]
theorem jod (A:RsmA) (J:Junk) (z:Nat->Nat->Nat):outL [] (rsmC X N o n m A) qeq (sim1 (cfgR2.at (some (1,3))) 4000 ((rsmC X N o n m A).fill J)) [true,true] z =
  (cRsm (lenP n) A.i (padX X o n),some (.inr (qra qeq 8 (rsmC X N o n m ⟨A.i+64,cmpW (q1b A.V) (qjb (padX X o n) (0+A.i.toNat * 1))⟩)))):=by kernel_rfl
end
theorem j8h:outO [] (qea cfgR2 8000 38 [.nilSlice] (shaH [])) [true,false] =
  ([decide ((0:Int)<(lenP 0:Int))=true,64<=lenP 0,IsB (q1a (padF (fun _=>0#8) 0 0)),0+64<=lenP 0,decide ((64:Int)<(lenP 0:Int))=false],some (.agg (bx (qpj (cmpW (q1b q3c) (qjb (padF (fun _=>0#8) 0 0) 0)))),[])):=by kernel_rfl
section
variable {X:Nat->BitVec 8} {N o n m:Nat}
structure RsmQ (X:Nat->BitVec 8) (o n:Nat) (A:RsmA) (k:Nat):Prop where
 i:A.i=((64 * k:Nat):Int)
 le:k<=(n+72) / 64
 V:A.V=qqj q3c (padX X o n) k
theorem q56 {f:Nat->Nat}:ImpE f (some (.ent (.own (.lst (kx .i64 startL)) true 91))) (.ent (.own (.lst (ux (q1b q3c))) true 91)):=by
 refine ⟨_,rfl,?_⟩
 show SV.ImpL _ (SV.renL f (ux (q1b q3c)))
 rw [qku]
 exact qsv (by kernel_rfl)
theorem jpd (hN:o+n<=N) (hn:n<=1099511627776):Runs cfgR2 38 (qdq o n m) (quv X N) fun v _=>v=.agg (bx (shaF (fun i=>X (o+i)) n)):=by
 have hb:=qkl n
 have hL:lenP n=64 * ((n+72) / 64):=rfl
 refine qbd qv3 (rsmC X N o n m) (fun A=>∃ k,RsmQ X o n A k) (fun A=>lenP n - A.i.toNat) (fun g nm hg=>Nat.lt_of_lt_of_le (q7r hg) (by show 3<=5; omega)) ?_ fun A ⟨k,hA⟩ J => ?_
 . refine qhd (some (1,3)) 4000 ⟨0,q3c⟩ ⟨0,rfl,Nat.zero_le _,rfl⟩ (jnd X N o n m) (q4w X N o n m _ _) ?_ ?_ (all_cons (qfd X) (all_cons ⟨hN,hn⟩ qaa))
   . intro e he p u hp hu
     rw [List.mem_singleton] at he; subst he
     exact qrv (j6h X N o n m _) hp hu (qvd rfl)
   . intro e he E0 hE
     rw [List.mem_singleton] at he; subst he
     cases hE
     exact q56
 . obtain ⟨h1,h2,h3⟩:=hA
   by_cases hk:k<(n+72) / 64
   . refine q7b (some (1,3)) 4000 ⟨A.i+64,cmpW (q1b A.V) (qjb (padX X o n) (0+A.i.toNat * 1))⟩ ⟨⟨k+1,by show A.i+64=_; omega,by omega,?_⟩,?_⟩ (jod X N o n m A J) (q4w X N o n m _ _) ?_
     . show cmpW (q1b A.V) (qjb (padX X o n) (0+A.i.toNat * 1))=qqj q3c (padX X o n) (k+1)
       rw [q3e,show 0+A.i.toNat * 1=64 * k from by omega,h3]
     . show lenP n - (A.i+64).toNat<lenP n - A.i.toNat
       omega
     . exact all_cons (decide_eq_true (by omega)) (all_cons ⟨by omega,by omega⟩ (all_cons ⟨by omega,by omega⟩ (all_cons ⟨by omega,by omega⟩ (all_cons (by omega) (all_cons (decide_eq_true (by omega)) (all_cons (qfd _) (all_cons (by omega) (all_cons ⟨by omega,by omega⟩ qaa))))))))
   . refine qec none 8000 (j7h X N o n m A J) (all_cons (decide_eq_false (by omega)) qaa) fun H _ => ?_
     show SV.agg (bx (qpj A.V))=_
     rw [h3,show k=(n+72) / 64 from by omega]; rfl
end
def qlu (F:(Nat->BitVec 8)->Nat->List (BitVec 8)) (mx:Nat):Summ:=fun args H _=>q1d args fun v=>shaT H (q2l v (.ok ⟨.agg (bx (F (fun _=>0#8) 0)),[],[]⟩) fun a l=>boolC (qyc a.nm) (q5i (nth H a.nm) fun X N=>.need (a.off.den+l.den<=N/\l.den<=mx) (.ok ⟨.agg (bx (F (fun i=>X (a.off.den+i)) l.den)),[],[]⟩)) (.stuck 740))
theorem q66:SumAt Tryd.prog qhc 38 (qlu shaF 1099511627776):=by
 intro O w0 β H w base args vs hH hG ha
 refine q5b fun v hv=>qnk fun hT=>qrh (fun hn => ?_) fun a l c hs=>qva fun hn=>qze fun X N ht=>fun hle => ?_
 . rw [hv,hn] at ha
   refine qrw qv3 8000 hH (shaI [] [] [.nilSlice]) (qzf hG) ha (Ifc.fits (by simp [shaI]) rfl (q5k hT trivial)) [] (by simp) (by simp) j8h ?_ fun _ _=>qeu rfl ?_
   . exact all_cons (by decide) (all_cons (by decide) (all_cons (qfd _) (all_cons (by decide) (all_cons (by decide) qaa))))
   . unfold shaF
     rw [show (0+72) / 64=0+1 from rfl,q3e]; rfl
 . rw [hv,hs] at ha
   rw [qfa] at ht
   obtain ⟨x,ys,hx,hys,rfl⟩:=denL_cons.1 ha
   obtain ⟨m,hm,hd,_,_⟩:=qyf hx
   exact Go.Sim.sum_runs (c:=cfgR2) hH (shaI [a.nm] [rowF X N] (qdq a.off.den l.den m)) (qzf hG) (denL_cons.2 ⟨_,_,hd,hys,rfl⟩) (Ifc.fits (nd5 hn) rfl (q5k hT ⟨⟨ht _,q6i _ _ _⟩,trivial⟩)) [] (by simp) (by simp)
    (qlb (jpd hle.1 hle.2) fun v H h=>qeu rfl h)
end
end Go.Proofs.YthkgcljngalafaaDoor.Aes
