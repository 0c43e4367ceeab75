/-
  ReplayLoads: the law's runs.
-/
import Derived.Test.YthkgcljngalafaaDoorPs8
import Derived.Test.YthkgcljngalafaaDoorPs14
namespace Go.Proofs.YthkgcljngalafaaDoor.Aes
noncomputable section
open Go.Sim
open Go.Proofs
variable {α:Type}
set_option maxRecDepth 1000000
def qnw (v:SV) (a b:R α):R α:=match v with | .nilSlice=>a | _=>b
def jgd:Summ:=fun args H base=>qad args fun v=>qnw v (.ok ⟨errA 4,[],[]⟩) (loSm args H base)
def jhd:Summ:=fun args H base=>qad args fun v=>qnw v (.ok ⟨qff 4,[],[]⟩) (rjSm args H base)
def rlLs:List (FuncId × Summ):=[(8,jgd),(9,jhd),(10,agSm),(11,imSm),(7,exS)]
def cfgLs:Cfg:=cfgG qxd (qkc rlLs)
def lsT (X:Nat->BitVec 8) (n k c:Nat) (st:Option (Nat × Nat)):Tree:=qfa (cfgLs.at st) 20000 3 [.slice ⟨4,.lit 0⟩ (.sym k) (.sym c)] (shaH [rowF X n])
def lsSt (X:Nat->BitVec 8) (n k c:Nat):SS:=qpd (lsT X n k c (some (1,0))) [false,false,true,true]
def lsTm (k c:Nat) (own p:SV) (e:Int) (b i:Nat):List (Nat × SV):=[(0,.slice ⟨4,.lit 0⟩ (.sym k) (.sym c)),(2,.bool (.lit false)),(3,own),(4,p),(5,.int .i64 (.lit e)),(6,.ptr ⟨b,.lit 0⟩),(7,.int .i64 (.lit e)),(8,.int .i64 (.sym (i:Int)))]
def jid (k:Nat):SV:=.slice ⟨5,.lit 0⟩ (.sym k) (.rest 5 0)
def lsY (Y:Nat->BitVec 8) (k:Nat):SO:=.own (.fn (qna Y) k) false 5
def lsE (X:Nat->BitVec 8) (n k c:Nat) (e:Int) (Y:Nat->BitVec 8) (i:Nat):Cut:=⟨qqd (lsSt X n k c).frames [lsTm k c (jid k) .nilPtr e 6 i],mapN HP.ent (shaH [rowF X n,lsY Y k,(nth (lsSt X n k c).heap 6).getD .gone])⟩
def lsG (X:Nat->BitVec 8) (n k c:Nat) (mt:Bool) (sk lm cl fe:Int) (es:List MapEntry) (ec:Nat) (l:List Mk) (Y:Nat->BitVec 8) (i:Nat):Cut:=⟨qqd (lsSt X n k c).frames [lsTm k c (jid k) (.ptr ⟨6,.lit 0⟩) 0 8 i],app (mapN HP.ent (shaH [rowF X n,lsY Y k,chO 7 sk lm cl fe,.obj (.amap kMk uMk es ec),rfB sk lm cl fe (boolC mt .nilSlice (rfL 9 l.length))])) (boolC mt [] [.ent (rfR (rowM l) l.length)])⟩
def lsE1 (X:Nat->BitVec 8) (n k c:Nat) (e:Int) (Y:Nat->BitVec 8) (i:Nat) (J:Junk) (st:Option (Nat × Nat)):Tree:=sim1 (cfgLs.at st) 20000 ((lsE X n k c e Y i).fill J)
def lsG1 (X:Nat->BitVec 8) (n k c:Nat) (mt:Bool) (sk lm cl fe:Int) (es:List MapEntry) (ec:Nat) (l:List Mk) (Y:Nat->BitVec 8) (i:Nat) (J:Junk) (st:Option (Nat × Nat)):Tree:=sim1 (cfgLs.at st) 20000 ((lsG X n k c mt sk lm cl fe es ec l Y i).fill J)
theorem qkv {v:SV} {a b:R α} {φ:α->Prop} (h:v=.nilSlice->a.Sat φ) (h':b.Sat φ):(qnw v a b).Sat φ:=by
 unfold qnw
 split
 . exact h rfl
 . exact h'
theorem jpi:outO [] (qfa cfgLd 20000 8 [.nilSlice] []) []=([],some (errA 4,[])):=by kernel_rfl
theorem jqi:outO [] (qfa cfgRl 20000 9 [.nilSlice] []) []=([],some (qff 4,[])):=by kernel_rfl
theorem loOK2:qdb Tryd.prog 8 jgd:=by
 intro glob O w0 β H w base args vs hH hG ha
 refine qob fun v hv=>qkv (fun hn => ?_) (loOK glob O w0 β H w base args vs hH hG ha)
 subst hn
 rw [hv] at ha
 exact qqc qut 20000 hH ⟨[],[],[.nilSlice]⟩ (by intro g j hg; cases hg) ha (q6j rfl).q [] (by simp) (by simp) (q2b jpi qba fun H2 _=>⟨.refl _,rfl,trivial,trivial⟩)
theorem rjOK2:qdb Tryd.prog 9 jhd:=by
 intro glob O w0 β H w base args vs hH hG ha
 refine qob fun v hv=>qkv (fun hn => ?_) (rjOKs glob O w0 β H w base args vs hH hG ha)
 subst hn
 rw [hv] at ha
 exact qqc q0t 20000 hH ⟨[],[],[.nilSlice]⟩ (by intro g j hg; cases hg) ha (q6j rfl).q [] (by simp) (by simp) (q2b jqi qba fun H2 _=>⟨.refl _,rfl,trivial,trivial⟩)
theorem qhl:CfgOK cfgLs:=qie (by
 intro y hy
 rcases List.mem_cons.1 hy with rfl | hy
 . exact loOK2 _
 rcases List.mem_cons.1 hy with rfl | hy
 . exact rjOK2 _
 rcases List.mem_cons.1 hy with rfl | hy
 . exact agOK _
 rcases List.mem_cons.1 hy with rfl | hy
 . exact j1c _
 . obtain rfl:=List.mem_singleton.1 hy
   exact exOK)
section
variable (X:Nat->BitVec 8) (n k c:Nat) (sk lm cl fe:Int) (es:List MapEntry) (ec:Nat) (l:List Mk) (Y:Nat->BitVec 8) (i:Nat) (J:Junk) (z:Nat->Nat->Nat)
def lsX:Nat->BitVec 8:=fun i=>Sim.byteOf (qna X (0+i))
def lsA (r:List Prop):List Prop:=(decide ((k:Int) > 1000)=false)::(0+k<=n)::(decide (k=0)=false)::(qee k 1/\1=1)::IsB (fun i=>qna X (0+i))::(k=k/\k<=1152921504606846976)::r
def lsB (r:List Prop):List Prop:=IsB (qna X)::(k<=n/\k<=1000000)::r
theorem jri:outO [] (qfa cfgLs 20000 3 [.nilSlice] (shaH [])) []=([],some (.bool (.lit true),[])):=by kernel_rfl
theorem jeg:outO [] (lsT X n k c none) [true]=([decide ((k:Int) > 1000)=true],some (.bool (.lit true),[])):=by kernel_rfl
theorem jfg:outO [] (lsT X n k c none) [false,true,true]=([decide ((k:Int) > 1000)=false,0+k<=n,decide (k=0)=true,1=1,IsB (qna X),(k<=n/\k<=1000000),cB (qrc X k)=true],some (.bool (.lit true),[])):=by kernel_rfl
def ls7:List Nat:=nmN [5,6]
def lsO:List (Nat × HP):=[(5,.ent (.own (.fn (fun i=>qna X (0+i)) k) false 5))]
def lsM0:List (Nat × Nat × SV):=[(0,8,.int .i64 (.lit 0))]
theorem ls_4:outL [] (lsE X n k c 4 X 0) ls7 (lsT X n k c (some (1,0))) [false,false,true,true] z=(lsA X n k ((cB (qrc (lsX X) k)=true)::lsB X n k [cB (qrc X k)=true]),some (.inr (qeb lsM0 (lsO X k) (qqa ls7 7 (lsE X n k c 4 X 0))))):=by kernel_rfl
theorem ls_5:outL [] (lsE X n k c 5 X 0) ls7 (lsT X n k c (some (1,0))) [false,false,false,true,false,true] z=(lsA X n k ((cB (qrc (lsX X) k)=false)::(cB (qsd (lsX X) k)=true)::lsB X n k [cB (qrc X k)=false,cB (qsd X k)=true]),some (.inr (qeb lsM0 (lsO X k) (qqa ls7 7 (lsE X n k c 5 X 0))))):=by kernel_rfl
theorem ls_6:outL [] (lsE X n k c 6 X 0) ls7 (lsT X n k c (some (1,0))) [false,false,false,false,false,false,false,false] z=(lsA X n k ((cB (qrc (lsX X) k)=false)::(cB (qsd (lsX X) k)=false)::(cB (HeadOK (lsX X)/\qcd (lsX X))=false)::lsB X n k [cB (qrc X k)=false,cB (qsd X k)=false,cB (HeadOK X/\qcd X)=false]),some (.inr (qeb lsM0 (lsO X k) (qqa ls7 7 (lsE X n k c 6 X 0))))):=by kernel_rfl
def lsGd (b:Bool):List Prop:=lsA X n k ((cB (qrc (lsX X) k)=false)::(cB (qsd (lsX X) k)=false)::(cB (HeadOK (lsX X)/\qcd (lsX X))=true)::lsB X n k [cB (qrc X k)=false,cB (qsd X k)=false,cB (HeadOK X/\qcd X)=true,(lkX X (cntI X)).isEmpty=b])
def lsG0 (mt:Bool) (Y:Nat->BitVec 8) (i:Nat):Cut:=lsG X n k c mt (bnI X 0) (bnI X 8) (bnI X 16) (bnI X 24 - 1) (esX X (cntI X)) (cntI X) (lkX X (cntI X)) Y i
def lsOG:List (Nat × HP):=(6,.ent (chO 7 (bnI (lsX X) 0) (bnI (lsX X) 8) (bnI (lsX X) 16) (bnI (lsX X) 24 - 1)))::(7,.ent (.obj (.amap kMk uMk (esX (lsX X) (cntI (lsX X))) (cntI (lsX X)))))::lsO X k
theorem ls_g0:outL [] (lsG0 X n k c true X 0) (nmN [5,6,7,8]) (lsT X n k c (some (1,0))) [false,false,false,false,true,false,false,true,true] z=(lsGd X n k true,some (.inr (qeb lsM0 (lsOG X k) (qqa (nmN [5,6,7,8]) 9 (lsG0 X n k c true X 0))))):=by kernel_rfl
theorem ls_g1:outL [] (lsG0 X n k c false X 0) (nmN [5,6,7,9,8]) (lsT X n k c (some (1,0))) [false,false,false,false,true,false,false,true,false] z=(lsGd X n k false,some (.inr (qeb lsM0 (lsOG X k) (qqa (nmN [5,6,7,9,8]) 10 (lsG0 X n k c false X 0))))):=by kernel_rfl
def lsF:Nat->SV:=fun j=>if j=0+i * 1 then .int .u8 (.b8 (Y (0+i * 1)+1#8)) else qna Y j
def lsQ:List Prop:=[decide ((i:Int)<(k:Int))=true,ixP i k,0+i * 1<k,ixP i k,0+i * 1<k,nxI i]
def lsOF:List (Nat × HP):=[(5,.ent (.own (.fn (lsF Y i) k) false 5))]
theorem ls_eN (e:Int) (Y':Nat->BitVec 8) (h:e=4\/e=5\/e=6):outL [] (lsE X n k c e Y' (i+1)) ls7 (lsE1 X n k c e Y i J (some (1,0))) [true] z=(lsQ k i,some (.inr (qeb [] (lsOF k Y i) (qqa ls7 7 (lsE X n k c e Y' (i+1)))))):=by rcases h with rfl | rfl | rfl <;> kernel_rfl
theorem ls_eE (e:Int) (h:e=4\/e=5\/e=6):outL [] (lsE X n k c e Y i) ls7 (lsE1 X n k c e Y i J none) [false] z=([decide ((i:Int)<(k:Int))=false],some (.inl (.bool (.lit true),[]))):=by rcases h with rfl | rfl | rfl <;> kernel_rfl
theorem jsi (Y':Nat->BitVec 8):outL [] (lsG X n k c true sk lm cl fe es ec l Y' (i+1)) (nmN [5,6,7,8]) (lsG1 X n k c true sk lm cl fe es ec l Y i J (some (1,0))) [true] z=(lsQ k i,some (.inr (qeb [] (lsOF k Y i) (qqa (nmN [5,6,7,8]) 9 (lsG X n k c true sk lm cl fe es ec l Y' (i+1)))))):=by kernel_rfl
theorem jti (Y':Nat->BitVec 8):outL [] (lsG X n k c false sk lm cl fe es ec l Y' (i+1)) (nmN [5,6,7,8,9]) (lsG1 X n k c false sk lm cl fe es ec l Y i J (some (1,0))) [true] z=(lsQ k i,some (.inr (qeb [] (lsOF k Y i) (qqa (nmN [5,6,7,8,9]) 10 (lsG X n k c false sk lm cl fe es ec l Y' (i+1)))))):=by kernel_rfl
def lsD:ChD:=doC es ec sk lm cl fe 6 7
def lsZ (D:RfD):List Prop:=[decide ((i:Int)<(k:Int))=false,agW (lsD sk lm cl fe es ec) D,(lsD sk lm cl fe es ec).w,(0+(lsD sk lm cl fe es ec).n<=(lsD sk lm cl fe es ec).n/\∀ i,i<(lsD sk lm cl fe es ec).n->True),(0+k<=n/\∀ i,i<n->True),decide (qkd (qna (lsD sk lm cl fe es ec).x) 0 (lsD sk lm cl fe es ec).n=qkd (qna X) 0 k)=true]
theorem jui:outL [] (lsG X n k c true sk lm cl fe es ec l Y i) (nmN [5,6,7,8]) (lsG1 X n k c true sk lm cl fe es ec l Y i J none) [false,true] z=(lsZ X n k sk lm cl fe es ec i (doRN sk lm cl fe),some (.inl (.bool (.lit true),[]))):=by kernel_rfl
theorem jvi:outL [] (lsG X n k c false sk lm cl fe es ec l Y i) (nmN [5,6,7,8,9]) (lsG1 X n k c false sk lm cl fe es ec l Y i J none) [false,true] z=(lsZ X n k sk lm cl fe es ec i (doRL sk lm fe cl 9 l),some (.inl (.bool (.lit true),[]))):=by kernel_rfl
theorem ls_eT (e:Int) (h:e=4\/e=5\/e=6):(((lsE X n k c e Y i).frames[0]?).bind fun p=>p.tmps[8]?)=some (some (.int .i64 (.sym (i:Int)))):=by rcases h with rfl | rfl | rfl <;> kernel_rfl
theorem jjd (mt:Bool):(((lsG X n k c mt sk lm cl fe es ec l Y i).frames[0]?).bind fun p=>p.tmps[8]?)=some (some (.int .i64 (.sym (i:Int)))):=by cases mt <;> kernel_rfl
theorem jkd (e:Int) (h:e=4\/e=5\/e=6):boolC (q5a 5 ls7 (lsE X n k c e Y i) (lsE X n k c e Y i)) (allN qwa (lsE X n k c e Y i).heap) false=true:=by rcases h with rfl | rfl | rfl <;> kernel_rfl
theorem ql8:boolC (q5a 5 (nmN [5,6,7,8]) (lsG X n k c true sk lm cl fe es ec l Y i) (lsG X n k c true sk lm cl fe es ec l Y i)) (allN qwa (lsG X n k c true sk lm cl fe es ec l Y i).heap) false=true:=by kernel_rfl
theorem qm8 (names:List Nat) (h:names=nmN [5,6,7,8,9]\/names=nmN [5,6,7,9,8]):boolC (q5a 5 names (lsG X n k c false sk lm cl fe es ec l Y i) (lsG X n k c false sk lm cl fe es ec l Y i)) (allN qwa (lsG X n k c false sk lm cl fe es ec l Y i).heap) false=true:=by rcases h with rfl | rfl <;> kernel_rfl
end
end
end Go.Proofs.YthkgcljngalafaaDoor.Aes
