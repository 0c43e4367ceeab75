/-
  The reference's hash: what the padded string is.
-/
import Derived.Test.YthkgcljngalafaaDoorPs11
namespace Go.Proofs.YthkgcljngalafaaDoor.Aes
noncomputable section
open Go.Sim
open Go.Proofs
variable {α:Type}
theorem qxa (Y:Nat->BitVec 8) (len:Nat) (b:BitVec 8) {i:Nat} (h:i<len):appB Y len b i=Y i:=by
 unfold appB catB
 rw [if_pos h]
 show Y (0+i)=Y i
 rw [Nat.zero_add]
theorem qwf (Y:Nat->BitVec 8) (len:Nat) (b:BitVec 8):appB Y len b len=b:=by
 unfold appB catB
 rw [if_neg (Nat.lt_irrefl _),Nat.sub_self]; rfl
theorem qek {n i:Nat} (h:n<=1152921504606846975):nB n i=qtg n i:=by
 have h8:qyc .i64 (Int.mul 8 (n:Int))=((8 * n:Nat):Int):=by
  show qyc .i64 (8 * (n:Int))=_
  rw [qzc,wrap_i64 ⟨by omega,by omega⟩]; simp
 unfold nB qtg
 rw [h8]
 have h1:(((8 * n:Nat):Int).fdiv (2 ^ (8 * i))).tmod 256=((8 * n / 2 ^ (8 * i) % 256:Nat):Int):=by
  have e:(2:Int) ^ (8 * i)=((2 ^ (8 * i):Nat):Int):=by simp
  rw [e,Int.fdiv_eq_ediv_of_nonneg _ (Int.natCast_nonneg _),← Int.natCast_ediv,show (256:Int)=((256:Nat):Int) from rfl,Int.tmod_eq_emod_of_nonneg (Int.natCast_nonneg _),← Int.natCast_emod]
 rw [h1]
 apply BitVec.eq_of_toNat_eq
 rw [BitVec.toNat_ofInt,BitVec.toNat_setWidth,BitVec.toNat_ushiftRight,BitVec.toNat_mul,BitVec.toNat_ofInt,BitVec.toNat_ofInt,Nat.shiftRight_eq_div_pow]
 have e1:((n:Int) % ((2 ^ 64:Nat):Int)).toNat=n:=by omega
 have e2:((8:Int) % ((2 ^ 64:Nat):Int)).toNat=8:=by decide
 rw [e1,e2,Nat.mod_eq_of_lt (show n * 8<2 ^ 64 by omega),Nat.mul_comm n 8]
 generalize 8 * n / 2 ^ (8 * i)=q
 omega
theorem qqk (n:Nat):n+9<=lenP n/\lenP n<=n+72/\lenP n % 64=0:=by
 unfold lenP; omega
section
variable {X:Nat->BitVec 8} {N o n m:Nat}
structure PadQ (X:Nat->BitVec 8) (o n:Nat) (A:PadA):Prop where
 lo:n+1<=A.len
 hi:A.len+8<=lenP n
 Y:∀ i,i<A.len->A.Y i=if i<n then X (o+i) else if i=n then BitVec.ofNat 8 128 else BitVec.ofNat 8 0
theorem j7f {i:Nat} (hi:i<n+1):pad1 X o n i=if i<n then X (o+i) else if i=n then BitVec.ofNat 8 128 else BitVec.ofNat 8 0:=by
 unfold pad1 catB
 by_cases h:i<n
 . rw [if_pos h,if_pos h]
   show X (o+(0+i))=_
   rw [Nat.zero_add]
 . have:i=n:=by omega
   subst this
   rw [if_neg h,if_neg h,if_pos rfl,Nat.sub_self]; rfl
theorem j8f {A:PadA} (h:PadQ X o n A) (hn:n<=1152921504606846975) (he:A.len+8=lenP n) {i:Nat} (hi:i<lenP n):pad8 n A.Y A.len i=padF (fun i=>X (o+i)) n n i:=by
 have hlo:=h.lo
 have hb:=qqk n
 unfold padF
 by_cases h1:i<A.len
 . unfold pad8
   rw [qxa _ _ _ (by omega),qxa _ _ _ (by omega),qxa _ _ _ (by omega),qxa _ _ _ (by omega),qxa _ _ _ (by omega),qxa _ _ _ (by omega),qxa _ _ _ (by omega),qxa _ _ _ h1,h.Y i h1]
   by_cases h2:i<n
   . rw [if_pos h2,if_pos h2]
   . rw [if_neg h2,if_neg h2]
     by_cases h3:i=n
     . rw [if_pos h3,if_pos h3]
     . rw [if_neg h3,if_neg h3,if_neg (by omega)]
 . rw [if_neg (by omega),if_neg (by omega),if_pos (by omega)]
   unfold pad8
   obtain ⟨k,rfl⟩:∃ k,i=A.len+k:=⟨i - A.len,by omega⟩
   have hk:k<8:=by omega
   have hj:lenP n - 1 - (A.len+k)=7 - k:=by omega
   rw [hj]
   match k,hk with
   | 0,_=>rw [qxa _ _ _ (by omega),qxa _ _ _ (by omega),qxa _ _ _ (by omega),qxa _ _ _ (by omega),qxa _ _ _ (by omega),qxa _ _ _ (by omega),qxa _ _ _ (by omega),Nat.add_zero,qwf,qek hn]
   | 1,_=>rw [qxa _ _ _ (by omega),qxa _ _ _ (by omega),qxa _ _ _ (by omega),qxa _ _ _ (by omega),qxa _ _ _ (by omega),qxa _ _ _ (by omega),qwf,qek hn]
   | 2,_=>rw [qxa _ _ _ (by omega),qxa _ _ _ (by omega),qxa _ _ _ (by omega),qxa _ _ _ (by omega),qxa _ _ _ (by omega),show A.len+2=A.len+1+1 from rfl,qwf,qek hn]
   | 3,_=>rw [qxa _ _ _ (by omega),qxa _ _ _ (by omega),qxa _ _ _ (by omega),qxa _ _ _ (by omega),show A.len+3=A.len+1+1+1 from rfl,qwf,qek hn]
   | 4,_=>rw [qxa _ _ _ (by omega),qxa _ _ _ (by omega),qxa _ _ _ (by omega),show A.len+4=A.len+1+1+1+1 from rfl,qwf,qek hn]
   | 5,_=>rw [qxa _ _ _ (by omega),qxa _ _ _ (by omega),show A.len+5=A.len+1+1+1+1+1 from rfl,qwf,qek hn]
   | 6,_=>rw [qxa _ _ _ (by omega),show A.len+6=A.len+1+1+1+1+1+1 from rfl,qwf,qek hn]
   | 7,_=>rw [show A.len+7=A.len+1+1+1+1+1+1+1 from rfl,qwf,qek hn]
theorem qne {Y:Nat->BitVec 8} {len:Nat} {r:List Prop} (hl:len+1<140737488355328) (hr:∀ p∈r,p):∀ p∈cApp Y len r,p :=
 all_cons (Nat.le_refl _) (all_cons ⟨by omega,qic Y⟩ (all_cons ⟨⟨by omega,by omega⟩,rfl⟩ hr))
theorem jfb (hN:o+n<=N) (hn0:n≠0) (hn:n<=1099511627776):Runs cfg0 50 (qep o n m) [rowF X N] fun v H=>∃ Y,v=.slice ⟨17,.lit 0⟩ (.sym (lenP n)) (.rest 17 0)/\H[17]? = some (.own (.fn (qna Y) (lenP n)) false 5)/\∀ i,i<lenP n->Y i=padF (fun i=>X (o+i)) n n i:=by
 have hb:=qqk n
 refine quc qqj (padC X N o n m) (PadQ X o n) (fun A=>lenP n - A.len) (fun g nm hg=>by cases hg) ?_ fun A hA J => ?_
 . refine q09 (some (1,3)) 4000 ⟨n+1,pad1 X o n⟩ ⟨Nat.le_refl _,by show n+1+8<=_; omega,fun i hi=>j7f hi⟩ (jdb X N o n m ⟨0,X⟩) (qt4 X N o n m _ _) ?_
   exact all_cons hN (all_cons (decide_eq_false hn0) (all_cons ⟨⟨by omega,by omega⟩,rfl⟩ (all_cons (Nat.le_refl _) (all_cons ⟨by omega,fun i=>⟨X (o+i),rfl⟩⟩ (all_cons ⟨⟨by omega,by omega⟩,rfl⟩ qba)))))
 . have hlo:=hA.lo
   have hhi:=hA.hi
   have hmod:(A.len:Int).tmod 64=((A.len % 64:Nat):Int):=by rw [Int.tmod_eq_emod_of_nonneg (by omega)]; omega
   by_cases hc:A.len % 64=56
   . have hlen:A.len+8=lenP n:=by omega
     refine q7b none 4000 (j5f X N o n m A J) (all_cons ?_ ?_) fun H hH=>⟨pad8 n A.Y A.len,?_,?_,fun i hi=>j8f hA (by omega) hlen hi⟩
     . rw [hmod,hc]; rfl
     . exact qne (by omega) (qne (by omega) (qne (by omega) (qne (by omega) (qne (by omega) (qne (by omega) (qne (by omega) (qne (by omega) qba)))))))
     . rw [← hlen]
     . rw [← hlen]; exact (List.cons.inj hH).1
   . refine qtc (some (1,3)) 4000 ⟨A.len+1,appB A.Y A.len (BitVec.ofNat 8 0)⟩ ⟨⟨by show n+1<=A.len+1; omega,by show A.len+1+8<=_; omega,fun i hi => ?_⟩,by show lenP n - (A.len+1)<lenP n - A.len; omega⟩ (jcb X N o n m A J) (qe8 X N o n m _ _) (all_cons ?_ (qne (by omega) qba))
     . have hi:i<A.len+1:=hi
       show appB A.Y A.len _ i=_
       by_cases h1:i<A.len
       . rw [qxa _ _ _ h1,hA.Y i h1]
       . have:i=A.len:=by omega
         subst this
         rw [qwf,if_neg (by omega),if_neg (by omega)]
     . rw [hmod]
       rw [bne_iff_ne]
       omega
end
end
end Go.Proofs.YthkgcljngalafaaDoor.Aes
