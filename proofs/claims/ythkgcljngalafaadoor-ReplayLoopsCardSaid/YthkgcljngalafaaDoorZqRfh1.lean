/-
  The reference's hash, first part: its functions of words.
-/
import Derived.Test.YthkgcljngalafaaDoorPq9
namespace Go.Proofs.YthkgcljngalafaaDoor.Aes
noncomputable section
open Go.Sim
open Go.Proofs
variable {α:Type}
def iw (x:W32):SV:=.int .i64 (.b32 x)
def ux (l:List W32):List SV:=mapN iw l
def uni (v:SV):Option W32:=v.asInt none fun k n=>boolC (eqK k .i64) (qes n) none
theorem qun {v:SV} {x:W32} (h:uni v=some x):v=iw x:=by
 unfold uni at h
 rcases qbc v with ⟨k,n,rfl⟩ | hv
 . obtain ⟨hk,h⟩:=q4b (show boolC (eqK k .i64) (qes n) none=some x from h)
   rw [qxf hk]
   cases n <;> first | (cases h; rfl) | cases h
 . rw [hv] at h; cases h
def iwR (x:W32):R SumRes:=.ok ⟨iw x,[],[]⟩
theorem jaa {I:Ifc} {base:Nat} {v u:SV} {H:List SO} (ho:q9d I.ents 0=[]) (hr:v.ren (I.out base [])=v) (hi:v.Imp u) (hu:v.uses (I.seen [])=true):I.Ends base [] ⟨u,[],[]⟩ v H :=
 ⟨by rw [hr]; exact hi,hu,by rw [ho]; trivial,trivial⟩
theorem qvd {k:IntKind} {a b:SI} (h:a.den=b.den):(SV.int k a).Imp (.int k b):=by
 intro γ x hx
 have hx:some (Value.int k a.den)=some x:=hx
 rw [h] at hx; exact hx
def q9l (x:W32) (n:Nat):W32:=BitVec.ofInt 32 (IntKind.i64.wrap ((x.toNat:Int) * 2 ^ (32 - n)))
def jba (x:W32) (n:Nat):List Prop × Option (SV × List (Option SO)) :=
 ([0<=IntKind.i64.wrap ((x.toNat:Int) * 2 ^ (32 - n)),qqa (((x >>> n).toNat:Int)+((q9l x n).toNat:Int))],some (.int .i64 (.sym (((x >>> n).toNat:Int)+((q9l x n).toNat:Int))),[]))
def qam:List Nat:=[7,18,17,19,6,11,25,2,13,22]
theorem qw6 (x:W32):mapN (fun n=>outP [] (qea cfg0 400 60 [iw x,.int .i64 (.lit (Int.ofNat n))] [])) qam=mapN (fun n=>jba x n) qam:=by kernel_rfl
theorem jca (x:W32) {n:Nat} (hn:n∈qam):outP [] (qea cfg0 400 60 [iw x,.int .i64 (.lit (Int.ofNat n))] [])=jba x n:=by
 have h:=qw6 x
 rw [qma,qma] at h
 exact List.map_inj_left.1 h n hn
theorem jda (x:W32) {n:Nat} (h2:2<=n) (h3:n<=31):0<=IntKind.i64.wrap ((x.toNat:Int) * 2 ^ (32 - n))/\(x >>> n).toNat+(q9l x n).toNat=(rrt x n).toNat:=by
 have hx:=x.isLt
 have hp:2 ^ n * 2 ^ (32 - n)=4294967296:=by rw [← Nat.pow_add,show n+(32 - n)=32 from by omega]
 have hpn:4<=2 ^ n:=by
  have:=Nat.pow_le_pow_right (show 0<2 by omega) h2
  simpa using this
 have hq:2 ^ (32 - n)<=1073741824:=by
  have:=Nat.pow_le_pow_right (show 0<2 by omega) (show 32 - n<=30 by omega)
  simpa using this
 have hprod:x.toNat * 2 ^ (32 - n)<9223372036854775808:=by
  have:x.toNat * 2 ^ (32 - n)<=4294967296 * 1073741824:=Nat.mul_le_mul (by omega) hq
  omega
 have hc:((x.toNat:Int) * 2 ^ (32 - n))=((x.toNat * 2 ^ (32 - n):Nat):Int):=by simp
 have hw:IntKind.i64.wrap ((x.toNat:Int) * 2 ^ (32 - n))=((x.toNat * 2 ^ (32 - n):Nat):Int):=by
  rw [hc,wrap_i64 ⟨by omega,by omega⟩]
 refine ⟨by rw [hw]; omega,?_⟩
 have hv:q9l x n=x <<< (32 - n):=by
  unfold q9l
  rw [hw,← hc,q2s]
 rw [hv]
 unfold rrt
 rw [BitVec.toNat_or,BitVec.toNat_shiftLeft,BitVec.toNat_ushiftRight,Nat.shiftLeft_eq,Nat.shiftRight_eq_div_pow]
 have hb:x.toNat / 2 ^ n<2 ^ (32 - n):=by
  rw [Nat.div_lt_iff_lt_mul (by omega),Nat.mul_comm,hp]; exact hx
 have hm:x.toNat * 2 ^ (32 - n) % 2 ^ 32=2 ^ (32 - n) * (x.toNat % 2 ^ n):=by
  rw [Nat.mul_comm,show (2:Nat) ^ 32=2 ^ (32 - n) * 2 ^ n from by rw [Nat.mul_comm,hp]]
  exact Nat.mul_mod_mul_left _ _ _
 rw [hm,← Nat.two_pow_add_eq_or_of_lt hb]
 omega
def jea:Summ:=fun args _ _=>qkd args fun v u=>optC (uni v) (.stuck 760) fun x=>optC (litI u) (.stuck 760) fun n=>boolC (memN n qam) (iwR (rrt x n)) (.stuck 760)
theorem jfa {n:Nat} (h:n∈qam):2<=n/\n<=31:=by
 unfold qam at h
 simp only [List.mem_cons,List.not_mem_nil,or_false] at h
 omega
theorem juh:qdb Tryd.prog 60 jea:=by
 intro glob O w0 β H w base args vs hH hG ha
 refine qrb fun v u hv=>qda fun x hx=>qda fun n hn=>qva fun hm => ?_
 rw [hv,qun hx,qpw hn] at ha
 have hm:=memN_iff.1 hm
 obtain ⟨h1,h2⟩:=jfa hm
 obtain ⟨h3,h4⟩:=jda x h1 h2
 have hb:=(rrt x n).isLt
 exact q1p qkk rfl 400 hH ⟨[],[],[iw x,.int .i64 (.lit (Int.ofNat n))]⟩ ha (qut rfl) [] (by simp) (by simp) (jca x hm) (all_cons h3 (all_cons ⟨by omega,by omega⟩ qaa)) fun _ _=>jaa rfl rfl (qvd (by show (((x >>> n).toNat:Int)+((q9l x n).toNat:Int))=((rrt x n).toNat:Int); omega)) rfl
def qdp (F:W32->W32->W32->W32):Summ:=fun args _ _=>q0p args fun a b c=>optC (uni a) (.stuck 761) fun x=>optC (uni b) (.stuck 761) fun y=>optC (uni c) (.stuck 761) fun z=>iwR (F x y z)
theorem qz0 {f:FuncId} {F:W32->W32->W32->W32} (hrun:∀ x y z:W32,∃ ps v,outP [] (qea cfg0 200 f [iw x,iw y,iw z] [])=(ps,some (.int .i64 v,[]))/\(∀ p∈ps,p)/\v.den=((F x y z).toNat:Int)):qdb Tryd.prog f (qdp F):=by
 intro glob O w0 β H w base args vs hH hG ha
 refine q4i fun a b c hv=>qda fun x hx=>qda fun y hy=>qda fun z hz => ?_
 rw [hv,qun hx,qun hy,qun hz] at ha
 obtain ⟨ps,v,h1,h2,h3⟩:=hrun x y z
 exact q1p qkk rfl 200 hH ⟨[],[],[iw x,iw y,iw z]⟩ ha (qut rfl) [] (by simp) (by simp) h1 h2 fun _ _=>jaa rfl rfl (qvd h3) rfl
theorem j7c (x y z:W32):outP [] (qea cfg0 200 62 [iw x,iw y,iw z] [])=([],some (iw (majW x y z),[])):=by kernel_rfl
theorem jtk:qdb Tryd.prog 62 (qdp majW):=qz0 fun x y z=>⟨_,_,j7c x y z,qaa,rfl⟩
def qx6 (e f g:W32):Int:=q0d .xor .i64 ((e &&& f).toNat:Int) (q0d .and .i64 (4294967295 - (e.toNat:Int)) (g.toNat:Int))
theorem j8c (x y z:W32):outP [] (qea cfg0 200 61 [iw x,iw y,iw z] [])=([qqa (4294967295 - (x.toNat:Int))],some (.int .i64 (.sym (qx6 x y z)),[])):=by kernel_rfl
theorem j9c (x y z:W32):qx6 x y z=((qcg x y z).toNat:Int):=by
 have hn:((BitVec.ofInt 32 4294967295 ^^^ x).toNat:Int)=4294967295 - (x.toNat:Int):=by
  have e:BitVec.ofInt 32 4294967295 ^^^ x = ~~~x:=by
   rw [show (BitVec.ofInt 32 4294967295:BitVec 32)=BitVec.allOnes 32 from by decide,BitVec.allOnes_xor]
  rw [e,BitVec.toNat_not]
  have:=x.isLt
  omega
 have h1:=qtm (op:=.and) (a:=BitVec.ofInt 32 4294967295 ^^^ x) (b:=z) rfl
 have h2:=qtm (op:=.xor) (a:=x &&& y) (b:=(BitVec.ofInt 32 4294967295 ^^^ x) &&& z) rfl
 rw [hn] at h1
 have h1:q0d .and .i64 (4294967295 - (x.toNat:Int)) (z.toNat:Int)=_:=Option.some.inj h1
 have h2:q0d .xor .i64 ((x &&& y).toNat:Int) (((BitVec.ofInt 32 4294967295 ^^^ x) &&& z).toNat:Int)=_:=Option.some.inj h2
 unfold qx6
 rw [h1]
 exact h2
theorem juk:qdb Tryd.prog 61 (qdp qcg):=qz0 fun x y z=>⟨_,_,j8c x y z,all_cons ⟨by have:=x.isLt; omega,by omega⟩ qaa,j9c x y z⟩
def cfgR1:Cfg:=cfgG qhc (qdc [(60,jea),(61,qdp qcg),(62,qdp majW)])
theorem jvh:CfgOK cfgR1:=qzd (allS (juh _) (allS (juk _) (allS (jtk _) (by simp))))
end
end Go.Proofs.YthkgcljngalafaaDoor.Aes
