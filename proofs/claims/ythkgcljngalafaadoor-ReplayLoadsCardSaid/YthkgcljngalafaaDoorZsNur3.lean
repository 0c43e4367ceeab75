/-
  The reference's Load: runs.
-/
import Derived.Test.YthkgcljngalafaaDoorPs7
namespace Go.Proofs.YthkgcljngalafaaDoor.Aes
noncomputable section
open Go.Sim
open Go.Proofs
variable {α:Type}
set_option maxRecDepth 1000000
def rjRl:List (FuncId × Summ):=[(29,j4c),(19,j5c),(31,leSm),(30,rtSm)]
def cfgRl:Cfg:=qbg (qkc rjRl)
theorem q0t:CfgOK cfgRl:=qjd (by
 intro y hy
 rcases List.mem_cons.1 hy with rfl | hy
 . exact nurOK
 rcases List.mem_cons.1 hy with rfl | hy
 . exact rnwOK
 rcases List.mem_cons.1 hy with rfl | hy
 . exact leOK
 . obtain rfl:=List.mem_singleton.1 hy
   exact rtOK)
def rjO (k i:Nat):Int:=(k:Int)+qyc .i64 (Int.mul 40 (i:Int))
def rjN (i:Nat):Nat:=(rjO 80 i).toNat - (rjO 48 i).toNat
def rjD:List Bool:=[false,false,false,false,true,false,false,false]
def rjE (e:Int):Option (SV × List (Option SO)):=some (.tuple [rnZ,.int .i64 (.lit e)],[])
section
variable (X:Nat->BitVec 8) (n m:Nat)
def rjT (st:Option (Nat × Nat)):Tree:=qfa (cfgRl.at st) 20000 9 [.slice ⟨0,.lit 0⟩ (.sym n) (.sym m)] [rowF X n]
def nrNd (a:Int):Prop:=n=n/\n<=1152921504606846976/\0<=a/\a+8<=(n:Int)
def rjW:Int:=40+qyc .i64 (Int.mul 40 (nuR X 32))
def rjhA (r:List Prop):List Prop:=(decide ((n:Int)<40)=false)::IsB (qna X)::nrNd n 32::r
def rjhB (r:List Prop):List Prop:=rjhA X n ((decide (nuR X 32 > 4294967296)=false)::qpa (rjW X)::r)
def rjhC (r:List Prop):List Prop:=rjhB X n ((decide ((n:Int)<rjW X)=false)::qpa (rjW X)::r)
def rjhD (r:List Prop):List Prop:=rjhC X n ((decide ((n:Int) > rjW X)=false)::IsB (qna X)::nrNd n 0::IsB (qna X)::nrNd n 8::r)
def rjhE (r:List Prop):List Prop:=rjhD X n ((cB (nwP (nuR X 0) (nuR X 8))=true)::r)
def rjhF (r:List Prop):List Prop:=rjhE X n ((decide (nuR X 32 > nuR X 8)=false)::IsB (qna X)::nrNd n 16::IsB (qna X)::nrNd n 24::qpa (nuR X 24 - 1)::r)
def rjhG (r:List Prop):List Prop:=rjhF X n (((!cB (vTm (nuR X 16)))=false)::r)
def rjhH (r:List Prop):List Prop:=rjhG X n ((decide (nuR X 24 - 1 > 1099512676352)=false)::r)
theorem rj_a:outO [] (rjT X n m none) [true]=([decide ((n:Int)<40)=true],rjE 4):=by kernel_rfl
theorem rj_b:outO [] (rjT X n m none) (false::repN true 7)=(rjhA X n (repN (decide (nuR X 32 > 4294967296)=true) 7),rjE 4):=by kernel_rfl
theorem rj_c:outO [] (rjT X n m none) [false,false,true]=(rjhB X n [decide ((n:Int)<rjW X)=true],rjE 4):=by kernel_rfl
theorem rj_d:outO [] (rjT X n m none) [false,false,false,true]=(rjhC X n [decide ((n:Int) > rjW X)=true],rjE 5):=by kernel_rfl
theorem rj_e:outO [] (rjT X n m none) [false,false,false,false,false]=(rjhD X n [cB (nwP (nuR X 0) (nuR X 8))=false],rjE 6):=by kernel_rfl
theorem rj_f:outO [] (rjT X n m none) [false,false,false,false,true,true]=(rjhE X n [decide (nuR X 32 > nuR X 8)=true],rjE 6):=by kernel_rfl
theorem rj_g:outO [] (rjT X n m none) [false,false,false,false,true,false,true,true,true,true]=(rjhF X n (repN ((!cB (vTm (nuR X 16)))=true) 4),rjE 6):=by kernel_rfl
theorem rj_h:outO [] (rjT X n m none) [false,false,false,false,true,false,false,true]=(rjhG X n [decide (nuR X 24 - 1 > 1099512676352)=true],rjE 6):=by kernel_rfl
def rjS:SS:=qpd (rjT X n m (some (1,3))) rjD
variable (mn:Bool) (cnt sk lm cl fe:Int) (V:Nat->Value) (k i:Nat) (J:Junk) (z:Nat->Nat->Nat)
def rjC:Cut:=⟨qqd (rjS X n m).frames [[(0,.slice ⟨0,.lit 0⟩ (.sym n) (.sym m)),(2,.ptr ⟨1,.lit 0⟩),(4,.int .i64 (.sym cnt)),(5,.ptr ⟨2,.lit 0⟩),(7,.int .i64 (.sym (i:Int)))]],
 app [.ent (rowF X n),.ent ((nth (rjS X n m).heap 1).getD .gone),.ent (rfB sk lm cl fe (boolC mn .nilSlice (rfL 3 k)))] (boolC mn [] [.ent (rfR V k)])⟩
def rj1 (st:Option (Nat × Nat)):Tree:=sim1 (cfgRl.at st) 20000 ((rjC X n m mn cnt sk lm cl fe V k i).fill J)
def rj3:List Nat:=[0,1,2]
theorem rj_i:outL [] (rjC X n m true (nuR X 32) (nuR X 0) (nuR X 8) (nuR X 16) (nuR X 24 - 1) V 0 0) rj3 (rjT X n m (some (1,3))) rjD z=(rjhH X n [],some (.inr (qeb [(0,7,.int .i64 (.lit 0))] [] (qqa rj3 3 (rjC X n m true (nuR X 32) (nuR X 0) (nuR X 8) (nuR X 16) (nuR X 24 - 1) V 0 0))))):=by kernel_rfl
theorem j7e:outL [] (rjC X n m true cnt sk lm cl fe V k i) rj3 (rj1 X n m true cnt sk lm cl fe V k i J none) [false] z=([decide ((i:Int)<cnt)=false],some (.inl (tup2 (rfA sk lm cl fe .nilSlice) 0,[]))):=by kernel_rfl
theorem j8e:outL [3] (rjC X n m false cnt sk lm cl fe V k i) rj3 (rj1 X n m false cnt sk lm cl fe V k i J none) [false] z=([decide ((i:Int)<cnt)=false],some (.inl (tup2 (rfA sk lm cl fe (rfL 3 k)) 0,[some (rfR V k)]))):=by kernel_rfl
def rjB (j:Nat):BitVec 8:=if 1<=j+1/\j+1<1+rjN i then X (0+(rjO 48 i).toNat * 1+(j+1 - 1)) else 0#8
def rjTm:Int:=nuR X (rjO 40 i).toNat
def rjX:List SV:=mkE0 (rjTm X i) (rjB X i)
def rjXv:List Value:=.int .i64 (rjTm X i)::mapN (fun j=>.int .u8 ((rjB X i j).toNat:Int)) (qra 32 0)
def rjP (r:List Prop):List Prop:=(decide ((i:Int)<cnt)=true)::qpa (rjO 40 i)::IsB (qna X)::nrNd n (rjO 40 i)::qpa (rjO 48 i)::qpa (rjO 80 i)::(0<=rjO 80 i/\rjO 80 i<=(n:Int))::(0<=rjO 48 i/\rjO 48 i<=((rjO 80 i).toNat:Int)) ::
 (decide (rjN i<=32)=true)::(0+(rjO 48 i).toNat * 1+rjN i<=n/\IsB (qna X))::(1+rjN i<=33/\qxf 1 (rjN i) [0])::r
def rjP1 (r:List Prop):List Prop:=rjP X n cnt i (((!cB (vTm (rjTm X i)))=false)::qpa (rjTm X i+sk)::r)
def rjP2 (r:List Prop):List Prop:=rjP1 X n cnt sk i ((decide (rjTm X i+sk<cl)=false)::qpa (cl+sk)::r)
def rjP3 (r:List Prop):List Prop:=rjP2 X n cnt sk cl i ((decide (rjTm X i > cl+sk)=false)::r)
def rjLe:Bool:=optC (mkV (.agg (seeW V (0+((i:Int) - 1).toNat * 33)))) false fun a=>optC (mkV (.agg (rjX X i))) false fun b=>cB (mkLt a b)
def rjP4 (b:Bool) (r:List Prop):List Prop:=rjP3 X n cnt sk cl i ((decide ((i:Int) > 0)=true)::qpa ((i:Int) - 1)::(0<=(i:Int) - 1/\(i:Int) - 1<(k:Int))::(0+((i:Int) - 1).toNat * 33+33<=k * 33)::fitM V (0+((i:Int) - 1).toNat * 33)::((!rjLe X V i)=b)::r)
def qvs:Option ((SV × List (Option SO)) ⊕ Seen):=some (.inl (.tuple [rnZ,.int .i64 (.lit 6)],[]))
theorem rj_r1:outL [] (rjC X n m mn cnt sk lm cl fe V k i) rj3 (rj1 X n m mn cnt sk lm cl fe V k i J none) (true::true::repN true 9) z=(rjP X n cnt i (repN ((!cB (vTm (rjTm X i)))=true) 9),qvs):=by cases mn <;> kernel_rfl
theorem rj_r2:outL [] (rjC X n m mn cnt sk lm cl fe V k i) rj3 (rj1 X n m mn cnt sk lm cl fe V k i J none) (true::true::false::repN true 9) z=(rjP1 X n cnt sk i (repN (decide (rjTm X i+sk<cl)=true) 9),qvs):=by cases mn <;> kernel_rfl
theorem rj_r3:outL [] (rjC X n m mn cnt sk lm cl fe V k i) rj3 (rj1 X n m mn cnt sk lm cl fe V k i J none) (true::true::false::false::repN true 5) z=(rjP2 X n cnt sk cl i (repN (decide (rjTm X i > cl+sk)=true) 5),qvs):=by cases mn <;> kernel_rfl
theorem rj_r5:outL [] (rjC X n m false cnt sk lm cl fe V k i) rj3 (rj1 X n m false cnt sk lm cl fe V k i J none) [true,true,false,false,false,true,true] z=(rjP4 X n cnt sk cl V k i true [],qvs):=by kernel_rfl
def qqm:Nat->Value:=catV (fun j=>V (0+j)) (k * 33) fun j=>atV (rjXv X i) (0+j)
theorem rj_r4:outL [] (rjC X n m false cnt sk lm cl fe V 1 (i+1)) [0,1,2,5] (rj1 X n m true cnt sk lm cl fe V k i J (some (1,3))) (true::true::repN false 13) z=(rjP3 X n cnt sk cl i (app (repN (decide ((i:Int) > 0)=false) 10) [nxI i]),some (.inr (qeb [] [(2,.ent (rfB sk lm cl fe (.slice ⟨5,.lit 0⟩ (.lit 1) (.rest 5 0)))),(3,.ent (.own (.lst (rjX X i)) false 54))] (qqa [0,1,2,5] 6 (rjC X n m false cnt sk lm cl fe V 1 (i+1)))))):=by kernel_rfl
theorem rj_r6:outL [] (rjC X n m false cnt sk lm cl fe (qqm X V k i) (k+1) (i+1)) [0,1,2,6] (rj1 X n m false cnt sk lm cl fe V k i J (some (1,3))) [true,true,false,false,false,true,false] z=(rjP4 X n cnt sk cl V k i false (apP (fun j=>atV (rjXv X i) (0+j)) k [nxI i]),some (.inr (qqa [0,1,2,6] 7 (rjC X n m false cnt sk lm cl fe (qqm X V k i) (k+1) (i+1))))):=by kernel_rfl
theorem jzh:(((rjC X n m mn cnt sk lm cl fe V k i).frames[0]?).bind fun p=>p.tmps[7]?)=some (some (.int .i64 (.sym (i:Int)))):=by cases mn <;> kernel_rfl
theorem rj_n0:boolC (q5a 1 rj3 (rjC X n m true cnt sk lm cl fe V k i) (rjC X n m true cnt sk lm cl fe V k i)) (allN qwa (rjC X n m true cnt sk lm cl fe V k i).heap) false=true:=by kernel_rfl
theorem j6c (names:List Nat) (h:names=[0,1,2,5]\/names=[0,1,2,6]):boolC (q5a 1 names (rjC X n m false cnt sk lm cl fe V k i) (rjC X n m false cnt sk lm cl fe V k i)) (allN qwa (rjC X n m false cnt sk lm cl fe V k i).heap) false=true:=by rcases h with rfl | rfl <;> kernel_rfl
end
end
end Go.Proofs.YthkgcljngalafaaDoor.Aes
