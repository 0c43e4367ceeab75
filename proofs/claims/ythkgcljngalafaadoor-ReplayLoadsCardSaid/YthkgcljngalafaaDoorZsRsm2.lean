/-
  The reference's hash: Sum.
-/
import Derived.Test.YthkgcljngalafaaDoorPs12
namespace Go.Proofs.YthkgcljngalafaaDoor.Aes
noncomputable section
open Go.Sim
open Go.Proofs
variable {α:Type}
section
variable (X:Nat->BitVec 8) (N o n m:Nat)
def qfp:List SV:=[.slice ⟨4,.sym o⟩ (.sym n) (.sym m)]
def q8t (X:Nat->BitVec 8) (N:Nat):List SO:=shaH [rowF X N]
def jbd:SS:=qpd (qfa (cfgR2.at (some (1,3))) 4000 38 (qfp o n m) (q8t X N)) []
structure RsmA where
 i:Int
 V:List W32
def padX (X:Nat->BitVec 8) (o n:Nat):Nat->BitVec 8:=padF (fun i=>X (o+i)) n n
def rsmC (A:RsmA):Cut :=
 ⟨qqd (jbd X N o n m).frames [[(2,.ptr ⟨5,.lit 0⟩),(3,.ptr ⟨6,.lit 0⟩),(4,.slice ⟨7,.lit 0⟩ (.sym (lenP n)) (.rest 7 0)),(5,.int .i64 (.sym A.i))]],
  [.ent qah,.ent qbh,.ent qxm,.ent qj4,.ent (rowF X N),entN (jbd X N o n m).heap 5,.ent (.own (.lst (ux (qwb A.V))) true 91),.ent (.own (.fn (qna (padX X o n)) (lenP n)) false 5)]⟩
def qgp:List Nat:=qra 8 0
theorem jhb (z:Nat->Nat->Nat):outL [] (rsmC X N o n m ⟨0,qsc⟩) qgp (qfa (cfgR2.at (some (1,3))) 4000 38 (qfp o n m) (q8t X N)) [] z =
  ([IsB (qna X),o+n<=N/\n<=1099511627776],some (.inr (qeb [(0,5,.int .i64 (.lit 0))] [(6,.ent (.own (.lst (kx .i64 startL)) true 91))] (qqa qgp 8 (rsmC X N o n m ⟨0,qsc⟩))))):=by kernel_rfl
theorem qgv (A B:RsmA):boolC (q5a 5 qgp (rsmC X N o n m A) (rsmC X N o n m B)) (allN qwa (rsmC X N o n m B).heap) false=true:=by kernel_rfl
theorem jag (A:RsmA):(((rsmC X N o n m A).frames[0]?).bind fun p=>p.tmps[5]?)=some (some (.int .i64 (.sym A.i))):=by kernel_rfl
theorem jbg (A:RsmA) (J:Junk) (z:Nat->Nat->Nat):outL [] (rsmC X N o n m A) qgp (sim1 (cfgR2.at none) 8000 ((rsmC X N o n m A).fill J)) [false] z =
  ([decide (A.i<(lenP n:Int))=false],some (.inl (.agg (bx (qyi A.V)),[]))):=by kernel_rfl
def cRsm (L:Nat) (i:Int) (P:Nat->BitVec 8):List Prop :=
 [decide (i<(L:Int))=true,qpa (i+64),0<=i+64/\i+64<=(L:Int),0<=i/\i<=((i+64).toNat:Int),0<(i+64).toNat - i.toNat,decide ((i+64).toNat - i.toNat=64)=true,IsB (qna P),0+i.toNat * 1+64<=L,qpa (i+64)]
theorem jib (A:RsmA) (J:Junk) (z:Nat->Nat->Nat):outL [] (rsmC X N o n m A) qgp (sim1 (cfgR2.at (some (1,3))) 4000 ((rsmC X N o n m A).fill J)) [true,true] z =
  (cRsm (lenP n) A.i (padX X o n),some (.inr (qqa qgp 8 (rsmC X N o n m ⟨A.i+64,cmpW (qwb A.V) (qfb (padX X o n) (0+A.i.toNat * 1))⟩)))):=by kernel_rfl
end
theorem jcg:outO [] (qfa cfgR2 8000 38 [.nilSlice] (shaH [])) [true,false] =
  ([decide ((0:Int)<(lenP 0:Int))=true,64<=lenP 0,IsB (qna (padF (fun _=>0#8) 0 0)),0+64<=lenP 0,decide ((64:Int)<(lenP 0:Int))=false],some (.agg (bx (qyi (cmpW (qwb qsc) (qfb (padF (fun _=>0#8) 0 0) 0)))),[])):=by kernel_rfl
section
variable {X:Nat->BitVec 8} {N o n m:Nat}
structure RsmQ (X:Nat->BitVec 8) (o n:Nat) (A:RsmA) (k:Nat):Prop where
 i:A.i=((64 * k:Nat):Int)
 le:k<=(n+72) / 64
 V:A.V=qzi qsc (padX X o n) k
theorem qv4 {f:Nat->Nat}:ImpE f (some (.ent (.own (.lst (kx .i64 startL)) true 91))) (.ent (.own (.lst (ux (qwb qsc))) true 91)):=by
 refine ⟨_,rfl,?_⟩
 show SV.ImpL _ (SV.renL f (ux (qwb qsc)))
 rw [q4s]
 exact q6t (by kernel_rfl)
theorem jjb (hN:o+n<=N) (hn:n<=1099511627776):Runs cfgR2 38 (qfp o n m) (q8t X N) fun v _=>v=.agg (bx (shaF (fun i=>X (o+i)) n)):=by
 have hb:=qqk n
 have hL:lenP n=64 * ((n+72) / 64):=rfl
 refine quc qo1 (rsmC X N o n m) (fun A=>∃ k,RsmQ X o n A k) (fun A=>lenP n - A.i.toNat) (fun g nm hg=>Nat.lt_of_lt_of_le (qwj hg) (by show 3<=5; omega)) ?_ fun A ⟨k,hA⟩ J => ?_
 . refine qwc (some (1,3)) 4000 ⟨0,qsc⟩ ⟨0,rfl,Nat.zero_le _,rfl⟩ (jhb X N o n m) (qgv X N o n m _ _) ?_ ?_ (all_cons (qic X) (all_cons ⟨hN,hn⟩ qba))
   . intro e he p u hp hu
     rw [List.mem_singleton] at he; subst he
     exact q5t (jag X N o n m _) hp hu (qld rfl)
   . intro e he E0 hE
     rw [List.mem_singleton] at he; subst he
     cases hE
     exact qv4
 . obtain ⟨h1,h2,h3⟩:=hA
   by_cases hk:k<(n+72) / 64
   . refine qtc (some (1,3)) 4000 ⟨A.i+64,cmpW (qwb A.V) (qfb (padX X o n) (0+A.i.toNat * 1))⟩ ⟨⟨k+1,by show A.i+64=_; omega,by omega,?_⟩,?_⟩ (jib X N o n m A J) (qgv X N o n m _ _) ?_
     . show cmpW (qwb A.V) (qfb (padX X o n) (0+A.i.toNat * 1))=qzi qsc (padX X o n) (k+1)
       rw [qme,show 0+A.i.toNat * 1=64 * k from by omega,h3]
     . show lenP n - (A.i+64).toNat<lenP n - A.i.toNat
       omega
     . exact all_cons (decide_eq_true (by omega)) (all_cons ⟨by omega,by omega⟩ (all_cons ⟨by omega,by omega⟩ (all_cons ⟨by omega,by omega⟩ (all_cons (by omega) (all_cons (decide_eq_true (by omega)) (all_cons (qic _) (all_cons (by omega) (all_cons ⟨by omega,by omega⟩ qba))))))))
   . refine q7b none 8000 (jbg X N o n m A J) (all_cons (decide_eq_false (by omega)) qba) fun H _ => ?_
     show SV.agg (bx (qyi A.V))=_
     rw [h3,show k=(n+72) / 64 from by omega]; rfl
end
def jcd (F:(Nat->BitVec 8)->Nat->List (BitVec 8)) (mx:Nat):Summ:=fun args H _=>qad args fun v=>shaT H (q8k v (.ok ⟨.agg (bx (F (fun _=>0#8) 0)),[],[]⟩) fun a l=>boolC (qvj a.nm) (q2f (nth H a.nm) fun X N=>.need (a.off.den+l.den<=N/\l.den<=mx) (.ok ⟨.agg (bx (F (fun i=>X (a.off.den+i)) l.den)),[],[]⟩)) (.stuck 740))
theorem rsmOK:SumAt Tryd.prog qxd 38 (jcd shaF 1099511627776):=by
 intro O w0 β H w base args vs hH hG ha
 refine qob fun v hv=>q0q fun hT=>q5g (fun hn => ?_) fun a l c hs=>qta fun hn=>qid fun X N ht=>fun hle => ?_
 . rw [hv,hn] at ha
   refine q1u qo1 8000 hH (shaI [] [] [.nilSlice]) (qck hG) ha (Ifc.fits (by simp [shaI]) rfl (qfo hT trivial)) [] (by simp) (by simp) jcg ?_ fun _ _=>qlw rfl ?_
   . exact all_cons (by decide) (all_cons (by decide) (all_cons (qic _) (all_cons (by decide) (all_cons (by decide) qba))))
   . unfold shaF
     rw [show (0+72) / 64=0+1 from rfl,qme]; rfl
 . rw [hv,hs] at ha
   rw [qca] at ht
   obtain ⟨x,ys,hx,hys,rfl⟩:=denL_cons.1 ha
   obtain ⟨m,hm,hd,_,_⟩:=qcf hx
   exact Go.Sim.sum_runs (c:=cfgR2) hH (shaI [a.nm] [rowF X N] (qfp a.off.den l.den m)) (qck hG) (denL_cons.2 ⟨_,_,hd,hys,rfl⟩) (Ifc.fits (nd5 hn) rfl (qfo hT ⟨⟨ht _,qfi _ _ _⟩,trivial⟩)) [] (by simp) (by simp)
    (qlb (jjb hle.1 hle.2) fun v H h=>qlw rfl h)
end
end Go.Proofs.YthkgcljngalafaaDoor.Aes
