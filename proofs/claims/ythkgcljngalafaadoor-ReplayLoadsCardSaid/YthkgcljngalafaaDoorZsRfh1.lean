/-
  The reference's hash, first part: its functions of words.
-/
import Derived.Test.YthkgcljngalafaaDoorPs9
namespace Go.Proofs.YthkgcljngalafaaDoor.Aes
noncomputable section
open Go.Sim
open Go.Proofs
variable {α:Type}
def iw (x:W32):SV:=.int .i64 (.b32 x)
def ux (l:List W32):List SV:=mapN iw l
def uni (v:SV):Option W32:=v.asInt none fun k n=>boolC (eqK k .i64) (q5q n) none
theorem qym {v:SV} {x:W32} (h:uni v=some x):v=iw x:=by
 unfold uni at h
 rcases q1b v with ⟨k,n,rfl⟩ | hv
 . obtain ⟨hk,h⟩:=qzb (show boolC (eqK k .i64) (q5q n) none=some x from h)
   rw [qbf hk]
   cases n <;> first | (cases h; rfl) | cases h
 . rw [hv] at h; cases h
def iwR (x:W32):R SumRes:=.ok ⟨iw x,[],[]⟩
theorem q37 {I:Ifc} {base:Nat} {v u:SV} {H:List SO} (ho:qwd I.ents 0=[]) (hr:v.ren (I.out base [])=v) (hi:v.Imp u) (hu:v.uses (I.seen [])=true):I.Ends base [] ⟨u,[],[]⟩ v H :=
 ⟨by rw [hr]; exact hi,hu,by rw [ho]; trivial,trivial⟩
theorem qld {k:IntKind} {a b:SI} (h:a.den=b.den):(SV.int k a).Imp (.int k b):=by
 intro γ x hx
 have hx:some (Value.int k a.den)=some x:=hx
 rw [h] at hx; exact hx
def qdl (x:W32) (n:Nat):W32:=BitVec.ofInt 32 (IntKind.i64.wrap ((x.toNat:Int) * 2 ^ (32 - n)))
def q47 (x:W32) (n:Nat):List Prop × Option (SV × List (Option SO)) :=
 ([0<=IntKind.i64.wrap ((x.toNat:Int) * 2 ^ (32 - n)),qpa (((x >>> n).toNat:Int)+((qdl x n).toNat:Int))],some (.int .i64 (.sym (((x >>> n).toNat:Int)+((qdl x n).toNat:Int))),[]))
def qel:List Nat:=[7,18,17,19,6,11,25,2,13,22]
theorem qm4 (x:W32):mapN (fun n=>outP [] (qfa cfg0 400 60 [iw x,.int .i64 (.lit (Int.ofNat n))] [])) qel=mapN (fun n=>q47 x n) qel:=by kernel_rfl
theorem q57 (x:W32) {n:Nat} (hn:n∈qel):outP [] (qfa cfg0 400 60 [iw x,.int .i64 (.lit (Int.ofNat n))] [])=q47 x n:=by
 have h:=qm4 x
 rw [qja,qja] at h
 exact List.map_inj_left.1 h n hn
theorem q67 (x:W32) {n:Nat} (h2:2<=n) (h3:n<=31):0<=IntKind.i64.wrap ((x.toNat:Int) * 2 ^ (32 - n))/\(x >>> n).toNat+(qdl x n).toNat=(rrt x n).toNat:=by
 have hx:=x.isLt
 have hp:2 ^ n * 2 ^ (32 - n)=4294967296:=by rw [← Nat.pow_add,show n+(32 - n)=32 from by omega]
 have hpn:4<=2 ^ n:=by
  have:=Nat.pow_le_pow_right (show 0<2 by omega) h2
  simpa using this
 have hq:2 ^ (32 - n)<=1073741824:=by
  have:=Nat.pow_le_pow_right (show 0<2 by omega) (show 32 - n<=30 by omega)
  simpa using this
 have hprod:x.toNat * 2 ^ (32 - n)<9223372036854775808:=by
  have:x.toNat * 2 ^ (32 - n)<=4294967296 * 1073741824:=Nat.mul_le_mul (by omega) hq
  omega
 have hc:((x.toNat:Int) * 2 ^ (32 - n))=((x.toNat * 2 ^ (32 - n):Nat):Int):=by simp
 have hw:IntKind.i64.wrap ((x.toNat:Int) * 2 ^ (32 - n))=((x.toNat * 2 ^ (32 - n):Nat):Int):=by
  rw [hc,wrap_i64 ⟨by omega,by omega⟩]
 refine ⟨by rw [hw]; omega,?_⟩
 have hv:qdl x n=x <<< (32 - n):=by
  unfold qdl
  rw [hw,← hc,qtr]
 rw [hv]
 unfold rrt
 rw [BitVec.toNat_or,BitVec.toNat_shiftLeft,BitVec.toNat_ushiftRight,Nat.shiftLeft_eq,Nat.shiftRight_eq_div_pow]
 have hb:x.toNat / 2 ^ n<2 ^ (32 - n):=by
  rw [Nat.div_lt_iff_lt_mul (by omega),Nat.mul_comm,hp]; exact hx
 have hm:x.toNat * 2 ^ (32 - n) % 2 ^ 32=2 ^ (32 - n) * (x.toNat % 2 ^ n):=by
  rw [Nat.mul_comm,show (2:Nat) ^ 32=2 ^ (32 - n) * 2 ^ n from by rw [Nat.mul_comm,hp]]
  exact Nat.mul_mod_mul_left _ _ _
 rw [hm,← Nat.two_pow_add_eq_or_of_lt hb]
 omega
def q77:Summ:=fun args _ _=>qhe args fun v u=>optC (uni v) (.stuck 760) fun x=>optC (litI u) (.stuck 760) fun n=>boolC (memN n qel) (iwR (rrt x n)) (.stuck 760)
theorem q87 {n:Nat} (h:n∈qel):2<=n/\n<=31:=by
 unfold qel at h
 simp only [List.mem_cons,List.not_mem_nil,or_false] at h
 omega
theorem jyf:qdb Tryd.prog 60 q77:=by
 intro glob O w0 β H w base args vs hH hG ha
 refine q6b fun v u hv=>qka fun x hx=>qka fun n hn=>qta fun hm => ?_
 rw [hv,qym hx,qzu hn] at ha
 have hm:=memN_iff.1 hm
 obtain ⟨h1,h2⟩:=q87 hm
 obtain ⟨h3,h4⟩:=q67 x h1 h2
 have hb:=(rrt x n).isLt
 exact q3o qqj rfl 400 hH ⟨[],[],[iw x,.int .i64 (.lit (Int.ofNat n))]⟩ ha (q6j rfl) [] (by simp) (by simp) (q57 x hm) (all_cons h3 (all_cons ⟨by omega,by omega⟩ qba)) fun _ _=>q37 rfl rfl (qld (by show (((x >>> n).toNat:Int)+((qdl x n).toNat:Int))=((rrt x n).toNat:Int); omega)) rfl
def qgo (F:W32->W32->W32->W32):Summ:=fun args _ _=>qew args fun a b c=>optC (uni a) (.stuck 761) fun x=>optC (uni b) (.stuck 761) fun y=>optC (uni c) (.stuck 761) fun z=>iwR (F x y z)
theorem q2y {f:FuncId} {F:W32->W32->W32->W32} (hrun:∀ x y z:W32,∃ ps v,outP [] (qfa cfg0 200 f [iw x,iw y,iw z] [])=(ps,some (.int .i64 v,[]))/\(∀ p∈ps,p)/\v.den=((F x y z).toNat:Int)):qdb Tryd.prog f (qgo F):=by
 intro glob O w0 β H w base args vs hH hG ha
 refine q6n fun a b c hv=>qka fun x hx=>qka fun y hy=>qka fun z hz => ?_
 rw [hv,qym hx,qym hy,qym hz] at ha
 obtain ⟨ps,v,h1,h2,h3⟩:=hrun x y z
 exact q3o qqj rfl 200 hH ⟨[],[],[iw x,iw y,iw z]⟩ ha (q6j rfl) [] (by simp) (by simp) h1 h2 fun _ _=>q37 rfl rfl (qld h3) rfl
theorem j1a (x y z:W32):outP [] (qfa cfg0 200 62 [iw x,iw y,iw z] [])=([],some (iw (majW x y z),[])):=by kernel_rfl
theorem jai:qdb Tryd.prog 62 (qgo majW):=q2y fun x y z=>⟨_,_,j1a x y z,qba,rfl⟩
def qn4 (e f g:W32):Int:=qrd .xor .i64 ((e &&& f).toNat:Int) (qrd .and .i64 (4294967295 - (e.toNat:Int)) (g.toNat:Int))
theorem j2a (x y z:W32):outP [] (qfa cfg0 200 61 [iw x,iw y,iw z] [])=([qpa (4294967295 - (x.toNat:Int))],some (.int .i64 (.sym (qn4 x y z)),[])):=by kernel_rfl
theorem j3a (x y z:W32):qn4 x y z=((qvf x y z).toNat:Int):=by
 have hn:((BitVec.ofInt 32 4294967295 ^^^ x).toNat:Int)=4294967295 - (x.toNat:Int):=by
  have e:BitVec.ofInt 32 4294967295 ^^^ x = ~~~x:=by
   rw [show (BitVec.ofInt 32 4294967295:BitVec 32)=BitVec.allOnes 32 from by decide,BitVec.allOnes_xor]
  rw [e,BitVec.toNat_not]
  have:=x.isLt
  omega
 have h1:=qwl (op:=.and) (a:=BitVec.ofInt 32 4294967295 ^^^ x) (b:=z) rfl
 have h2:=qwl (op:=.xor) (a:=x &&& y) (b:=(BitVec.ofInt 32 4294967295 ^^^ x) &&& z) rfl
 rw [hn] at h1
 have h1:qrd .and .i64 (4294967295 - (x.toNat:Int)) (z.toNat:Int)=_:=Option.some.inj h1
 have h2:qrd .xor .i64 ((x &&& y).toNat:Int) (((BitVec.ofInt 32 4294967295 ^^^ x) &&& z).toNat:Int)=_:=Option.some.inj h2
 unfold qn4
 rw [h1]
 exact h2
theorem jbi:qdb Tryd.prog 61 (qgo qvf):=q2y fun x y z=>⟨_,_,j2a x y z,all_cons ⟨by have:=x.isLt; omega,by omega⟩ qba,j3a x y z⟩
def cfgR1:Cfg:=cfgG qxd (qkc [(60,q77),(61,qgo qvf),(62,qgo majW)])
theorem jzf:CfgOK cfgR1:=qie (allS (jyf _) (allS (jbi _) (allS (jai _) (by simp))))
end
end Go.Proofs.YthkgcljngalafaaDoor.Aes
