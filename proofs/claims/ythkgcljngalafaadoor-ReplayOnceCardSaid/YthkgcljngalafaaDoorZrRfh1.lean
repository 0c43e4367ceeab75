/-
  The reference's hash, first part: its functions of words.
-/
import Derived.Test.YthkgcljngalafaaDoorPr8
namespace Go.Proofs.YthkgcljngalafaaDoor.Aes
noncomputable section
open Go.Sim
open Go.Proofs
variable {α:Type}
def iw (x:W32):SV:=.int .i64 (.b32 x)
def ux (l:List W32):List SV:=mapN iw l
def uni (v:SV):Option W32:=v.asInt none fun k n=>boolC (eqK k .i64) (qcr n) none
theorem q0m {v:SV} {x:W32} (h:uni v=some x):v=iw x:=by
 unfold uni at h
 rcases q2b v with ⟨k,n,rfl⟩ | hv
 . obtain ⟨hk,h⟩:=qyb (show boolC (eqK k .i64) (qcr n) none=some x from h)
   rw [q8e hk]
   cases n <;> first | (cases h; rfl) | cases h
 . rw [hv] at h; cases h
def iwR (x:W32):R SumRes:=.ok ⟨iw x,[],[]⟩
theorem ql7 {I:Ifc} {base:Nat} {v u:SV} {H:List SO} (ho:qld I.ents 0=[]) (hr:v.ren (I.out base [])=v) (hi:v.Imp u) (hu:v.uses (I.seen [])=true):I.Ends base [] ⟨u,[],[]⟩ v H :=
 ⟨by rw [hr]; exact hi,hu,by rw [ho]; trivial,trivial⟩
theorem q8c {k:IntKind} {a b:SI} (h:a.den=b.den):(SV.int k a).Imp (.int k b):=by
 intro γ x hx
 have hx:some (Value.int k a.den)=some x:=hx
 rw [h] at hx; exact hx
def qcl (x:W32) (n:Nat):W32:=BitVec.ofInt 32 (IntKind.i64.wrap ((x.toNat:Int) * 2 ^ (32 - n)))
def qm7 (x:W32) (n:Nat):List Prop × Option (SV × List (Option SO)) :=
 ([0<=IntKind.i64.wrap ((x.toNat:Int) * 2 ^ (32 - n)),qsa (((x >>> n).toNat:Int)+((qcl x n).toNat:Int))],some (.int .i64 (.sym (((x >>> n).toNat:Int)+((qcl x n).toNat:Int))),[]))
def qdl:List Nat:=[7,18,17,19,6,11,25,2,13,22]
theorem qk4 (x:W32):mapN (fun n=>outP [] (qka cfg0 400 60 [iw x,.int .i64 (.lit (Int.ofNat n))] [])) qdl=mapN (fun n=>qm7 x n) qdl:=by kernel_rfl
theorem qn7 (x:W32) {n:Nat} (hn:n∈qdl):outP [] (qka cfg0 400 60 [iw x,.int .i64 (.lit (Int.ofNat n))] [])=qm7 x n:=by
 have h:=qk4 x
 rw [qla,qla] at h
 exact List.map_inj_left.1 h n hn
theorem qo7 (x:W32) {n:Nat} (h2:2<=n) (h3:n<=31):0<=IntKind.i64.wrap ((x.toNat:Int) * 2 ^ (32 - n))/\(x >>> n).toNat+(qcl x n).toNat=(rrt x n).toNat:=by
 have hx:=x.isLt
 have hp:2 ^ n * 2 ^ (32 - n)=4294967296:=by rw [← Nat.pow_add,show n+(32 - n)=32 from by omega]
 have hpn:4<=2 ^ n:=by
  have:=Nat.pow_le_pow_right (show 0<2 by omega) h2
  simpa using this
 have hq:2 ^ (32 - n)<=1073741824:=by
  have:=Nat.pow_le_pow_right (show 0<2 by omega) (show 32 - n<=30 by omega)
  simpa using this
 have hprod:x.toNat * 2 ^ (32 - n)<9223372036854775808:=by
  have:x.toNat * 2 ^ (32 - n)<=4294967296 * 1073741824:=Nat.mul_le_mul (by omega) hq
  omega
 have hc:((x.toNat:Int) * 2 ^ (32 - n))=((x.toNat * 2 ^ (32 - n):Nat):Int):=by simp
 have hw:IntKind.i64.wrap ((x.toNat:Int) * 2 ^ (32 - n))=((x.toNat * 2 ^ (32 - n):Nat):Int):=by
  rw [hc,wrap_i64 ⟨by omega,by omega⟩]
 refine ⟨by rw [hw]; omega,?_⟩
 have hv:qcl x n=x <<< (32 - n):=by
  unfold qcl
  rw [hw,← hc,q1r]
 rw [hv]
 unfold rrt
 rw [BitVec.toNat_or,BitVec.toNat_shiftLeft,BitVec.toNat_ushiftRight,Nat.shiftLeft_eq,Nat.shiftRight_eq_div_pow]
 have hb:x.toNat / 2 ^ n<2 ^ (32 - n):=by
  rw [Nat.div_lt_iff_lt_mul (by omega),Nat.mul_comm,hp]; exact hx
 have hm:x.toNat * 2 ^ (32 - n) % 2 ^ 32=2 ^ (32 - n) * (x.toNat % 2 ^ n):=by
  rw [Nat.mul_comm,show (2:Nat) ^ 32=2 ^ (32 - n) * 2 ^ n from by rw [Nat.mul_comm,hp]]
  exact Nat.mul_mod_mul_left _ _ _
 rw [hm,← Nat.two_pow_add_eq_or_of_lt hb]
 omega
def qp7:Summ:=fun args _ _=>qbe args fun v u=>optC (uni v) (.stuck 760) fun x=>optC (litI u) (.stuck 760) fun n=>boolC (memN n qdl) (iwR (rrt x n)) (.stuck 760)
theorem qq7 {n:Nat} (h:n∈qdl):2<=n/\n<=31:=by
 unfold qdl at h
 simp only [List.mem_cons,List.not_mem_nil,or_false] at h
 omega
theorem jie:qob Tryd.prog 60 qp7:=by
 intro glob O w0 β H w base args vs hH hG ha
 refine q5b fun v u hv=>qia fun x hx=>qia fun n hn=>qra fun hm => ?_
 rw [hv,q0m hx,q7u hn] at ha
 have hm:=memN_iff.1 hm
 obtain ⟨h1,h2⟩:=qq7 hm
 obtain ⟨h3,h4⟩:=qo7 x h1 h2
 have hb:=(rrt x n).isLt
 exact q4o qoj rfl 400 hH ⟨[],[],[iw x,.int .i64 (.lit (Int.ofNat n))]⟩ ha (qus rfl) [] (by simp) (by simp) (qn7 x hm) (all_cons h3 (all_cons ⟨by omega,by omega⟩ qca)) fun _ _=>ql7 rfl rfl (q8c (by show (((x >>> n).toNat:Int)+((qcl x n).toNat:Int))=((rrt x n).toNat:Int); omega)) rfl
def qfo (F:W32->W32->W32->W32):Summ:=fun args _ _=>qts args fun a b c=>optC (uni a) (.stuck 761) fun x=>optC (uni b) (.stuck 761) fun y=>optC (uni c) (.stuck 761) fun z=>iwR (F x y z)
theorem q5y {f:FuncId} {F:W32->W32->W32->W32} (hrun:∀ x y z:W32,∃ ps v,outP [] (qka cfg0 200 f [iw x,iw y,iw z] [])=(ps,some (.int .i64 v,[]))/\(∀ p∈ps,p)/\v.den=((F x y z).toNat:Int)):qob Tryd.prog f (qfo F):=by
 intro glob O w0 β H w base args vs hH hG ha
 refine q4j fun a b c hv=>qia fun x hx=>qia fun y hy=>qia fun z hz => ?_
 rw [hv,q0m hx,q0m hy,q0m hz] at ha
 obtain ⟨ps,v,h1,h2,h3⟩:=hrun x y z
 exact q4o qoj rfl 200 hH ⟨[],[],[iw x,iw y,iw z]⟩ ha (qus rfl) [] (by simp) (by simp) h1 h2 fun _ _=>ql7 rfl rfl (q8c h3) rfl
theorem jha (x y z:W32):outP [] (qka cfg0 200 62 [iw x,iw y,iw z] [])=([],some (iw (majW x y z),[])):=by kernel_rfl
theorem jug:qob Tryd.prog 62 (qfo majW):=q5y fun x y z=>⟨_,_,jha x y z,qca,rfl⟩
def ql4 (e f g:W32):Int:=qed .xor .i64 ((e &&& f).toNat:Int) (qed .and .i64 (4294967295 - (e.toNat:Int)) (g.toNat:Int))
theorem jia (x y z:W32):outP [] (qka cfg0 200 61 [iw x,iw y,iw z] [])=([qsa (4294967295 - (x.toNat:Int))],some (.int .i64 (.sym (ql4 x y z)),[])):=by kernel_rfl
theorem jja (x y z:W32):ql4 x y z=((qrf x y z).toNat:Int):=by
 have hn:((BitVec.ofInt 32 4294967295 ^^^ x).toNat:Int)=4294967295 - (x.toNat:Int):=by
  have e:BitVec.ofInt 32 4294967295 ^^^ x = ~~~x:=by
   rw [show (BitVec.ofInt 32 4294967295:BitVec 32)=BitVec.allOnes 32 from by decide,BitVec.allOnes_xor]
  rw [e,BitVec.toNat_not]
  have:=x.isLt
  omega
 have h1:=qvl (op:=.and) (a:=BitVec.ofInt 32 4294967295 ^^^ x) (b:=z) rfl
 have h2:=qvl (op:=.xor) (a:=x &&& y) (b:=(BitVec.ofInt 32 4294967295 ^^^ x) &&& z) rfl
 rw [hn] at h1
 have h1:qed .and .i64 (4294967295 - (x.toNat:Int)) (z.toNat:Int)=_:=Option.some.inj h1
 have h2:qed .xor .i64 ((x &&& y).toNat:Int) (((BitVec.ofInt 32 4294967295 ^^^ x) &&& z).toNat:Int)=_:=Option.some.inj h2
 unfold ql4
 rw [h1]
 exact h2
theorem jvg:qob Tryd.prog 61 (qfo qrf):=q5y fun x y z=>⟨_,_,jia x y z,all_cons ⟨by have:=x.isLt; omega,by omega⟩ qca,jja x y z⟩
def cfgR1:Cfg:=cfgG q4c (qjc [(60,qp7),(61,qfo qrf),(62,qfo majW)])
theorem jje:CfgOK cfgR1:=qrd (allS (jie _) (allS (jvg _) (allS (jug _) (by simp))))
end
end Go.Proofs.YthkgcljngalafaaDoor.Aes
