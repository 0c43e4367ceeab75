/-
  The hash function: what it comes to, for bytes of any number.
-/
import Derived.Test.YthkgcljngalafaaDoorZqSha2
import Derived.Test.YthkgcljngalafaaDoorPq6
namespace Go.Proofs.YthkgcljngalafaaDoor.Aes
noncomputable section
open Go.Sim
open Go.Proofs
variable {α:Type}
def qdh (n j:Nat):BitVec 8:=((BitVec.ofInt 64 (n:Int) * BitVec.ofInt 64 8) >>> (8 * j)).setWidth 8
def lenP (n:Nat):Nat:=64 * ((n+72) / 64)
def padF (X:Nat->BitVec 8) (n t:Nat):Nat->BitVec 8:=fun i=>if i<n then X i else if i=n then BitVec.ofNat 8 128 else if lenP n<=i+8/\i<lenP n then qdh t (lenP n - 1 - i) else BitVec.ofNat 8 0
def qqj (W:List W32) (Y:Nat->BitVec 8):Nat->List W32
 | 0=>W
 | k+1=>cmpW (q1b (qqj W Y k)) (qjb Y (64 * k))
def shaF (X:Nat->BitVec 8) (n:Nat):List (BitVec 8):=qpj (qqj q3c (padF X n n) ((n+72) / 64))
theorem q9e {X Y:Nat->BitVec 8} {a b:Nat} (h:∀ i,i<64->X (a+i)=Y (b+i)):qjb X a=qjb Y b:=by
 unfold qjb
 rw [qma,qma]
 apply List.map_congr_left
 intro t ht
 rw [q5a,List.mem_range'] at ht
 obtain ⟨j,hj,rfl⟩:=ht
 unfold q8p
 have e:∀ r,r<4->X (a+4 * (0+1 * j)+r)=Y (b+4 * (0+1 * j)+r):=fun r hr=>by
  rw [Nat.add_assoc,Nat.add_assoc]; exact h _ (by omega)
 rw [show a+4 * (0+1 * j)=a+4 * (0+1 * j)+0 from rfl,show b+4 * (0+1 * j)=b+4 * (0+1 * j)+0 from rfl,e 0 (by omega)]
 simp only [Nat.add_zero]
 rw [e 1 (by omega),e 2 (by omega),e 3 (by omega)]
theorem q79 {l v:List α} {i:Nat} (h:i+v.length<=l.length) (j:Nat):(qfi l i v)[j]? = if i<=j/\j<i+v.length then v[j - i]? else l[j]? := by
 rw [qfr _ _ _ h,List.append_assoc,List.getElem?_append,List.getElem?_append,List.length_take,Nat.min_eq_left (by omega),List.getElem?_take,List.getElem?_drop]
 by_cases h1:j<i
 . rw [if_pos h1,if_pos h1,if_neg (by omega)]
 . rw [if_neg h1]
   by_cases h2:j<i+v.length
   . rw [if_pos (by omega),if_pos (by omega)]
   . rw [if_neg (by omega),if_neg (by omega),show i+v.length+(j - i - v.length)=j from by omega]
theorem qjl (o n:Nat) (Y:Nat->BitVec 8):∀ (xs:List (BitVec 8)) (k:Nat),(putB o n Y xs k).length=xs.length
 | [],_=>rfl
 | _::xs,k=>congrArg (· + 1) (qjl o n Y xs (k+1))
theorem qy0 {size len n:Nat} {Y:Nat->BitVec 8} (hs:len+9<=size) {j:Nat} (hj:j<size) :
  q3a (endL size Y len n) j=if j<len then Y j else if j=len then BitVec.ofNat 8 128 else if size<=j+8 then qdh n (size - 1 - j) else BitVec.ofNat 8 0:=by
 unfold q3a endL
 have hl:(mapN (fun j=>((BitVec.ofInt 64 (n:Int) * BitVec.ofInt 64 8) >>> (8 * (7 - j))).setWidth 8) (qka 8 0):List (BitVec 8)).length=8:=rfl
 have hb:(putB (0+(len:Int).toNat * 1) 1 (fun _=>BitVec.ofNat 8 128) (putB 0 len Y (repN (BitVec.ofNat 8 0) size) 0) 0).length=size:=by
  rw [qjl,qjl,q9c,List.length_replicate]
 rw [q79 (by rw [hl,hb]; show size - 8+8<=size; omega),hl]
 rw [qym,qym,q9c,List.getElem?_replicate,if_pos hj]
 simp only [Option.map_some,Nat.zero_add,Int.toNat_natCast,Nat.mul_one,Nat.zero_le,true_and,Nat.sub_zero]
 show ((if Nat.sub size 8<=j/\j<Nat.sub size 8+8 then _ else _:Option (BitVec 8))).getD 0#8=_
 by_cases h1:j<len
 . rw [if_neg (by show ¬ (size - 8<=j/\j<size - 8+8); omega),if_pos h1]
   simp only [Option.getD_some]
   rw [if_neg (by omega),if_pos h1]
 . simp only [if_neg h1]
   by_cases h2:j=len
   . rw [if_neg (by show ¬ (size - 8<=j/\j<size - 8+8); omega),if_pos h2]
     simp only [Option.getD_some]
     rw [if_pos (by omega)]
   . rw [if_neg h2]
     by_cases h3:size<=j+8
     . rw [if_pos (by show size - 8<=j/\j<size - 8+8; omega),if_pos h3,qma,q5a,List.getElem?_map,List.getElem?_range' (by show j - (size - 8)<8; omega)]
       simp only [Option.map_some,Option.getD_some]
       unfold qdh
       rw [show 7 - (0+1 * (j - Nat.sub size 8))=size - 1 - j from by show 7 - (0+1 * (j - (size - 8)))=_; omega]
     . rw [if_neg (by show ¬ (size - 8<=j/\j<size - 8+8); omega),if_neg h3]
       simp only [Option.getD_some]
       rw [if_neg (by omega)]
structure SumQ (X:Nat->BitVec 8) (o n m:Nat) (A:SumA) (k:Nat):Prop where
 le:64 * k<=n
 at_:A.p+A.s.den=o+64 * k
 len:A.len=n - 64 * k
 cap:A.cap=m - 64 * k
 ws:A.ws=qqj q3c (padF (fun i=>X (o+i)) n n) k
theorem q3e (W:List W32) (Y:Nat->BitVec 8) (k:Nat):qqj W Y (k+1)=cmpW (q1b (qqj W Y k)) (qjb Y (64 * k)):=rfl
theorem q9i {a b c d:List W32} (h:a=b) (h':c=d):cmpW (q1b a) c=cmpW (q1b b) d:=by rw [h,h']
theorem jqh {X:Nat->BitVec 8} {o n m:Nat} {A:SumA} {k:Nat} (h:SumQ X o n m A k) (hl:A.len+9<=64):end1 X n A=qqj q3c (padF (fun i=>X (o+i)) n n) ((n+72) / 64):=by
 obtain ⟨h1,h2,h3,h4,h5⟩:=h
 have hk:(n+72) / 64=k+1:=by omega
 have key:∀ i,i<64->q3a (endL 64 (qsn X A) A.len n) (0+i)=padF (fun i=>X (o+i)) n n (64 * k+i):=by
  intro i hi
  rw [Nat.zero_add,qy0 hl hi]
  unfold padF lenP qsn
  rw [hk,h2]
  by_cases c1:i<A.len
  . rw [if_pos c1,if_pos (by omega),Nat.add_assoc]
  . rw [if_neg c1,if_neg (show ¬ 64 * k+i<n by omega)]
    by_cases c2:i=A.len
    . rw [if_pos c2,if_pos (by omega)]
    . rw [if_neg c2,if_neg (show ¬ 64 * k+i=n by omega)]
      by_cases c3:64<=i+8
      . rw [if_pos c3,if_pos (by omega),show 64 * (k+1) - 1 - (64 * k+i)=64 - 1 - i from by omega]
      . rw [if_neg c3,if_neg (by omega)]
 rw [hk,q3e]
 exact q9i h5 (q9e key)
theorem jrh {X:Nat->BitVec 8} {o n m:Nat} {A:SumA} {k:Nat} (h:SumQ X o n m A k) (hl:A.len<64) (hl2:64<A.len+9):end2 X n A=qqj q3c (padF (fun i=>X (o+i)) n n) ((n+72) / 64):=by
 obtain ⟨h1,h2,h3,h4,h5⟩:=h
 have hk:(n+72) / 64=k+2:=by omega
 have key:∀ i,i<128->q3a (endL 128 (qsn X A) A.len n) i=padF (fun i=>X (o+i)) n n (64 * k+i):=by
  intro i hi
  rw [qy0 (by omega) hi]
  unfold padF lenP qsn
  rw [hk,h2]
  by_cases c1:i<A.len
  . rw [if_pos c1,if_pos (by omega),Nat.add_assoc]
  . rw [if_neg c1,if_neg (show ¬ 64 * k+i<n by omega)]
    by_cases c2:i=A.len
    . rw [if_pos c2,if_pos (by omega)]
    . rw [if_neg c2,if_neg (show ¬ 64 * k+i=n by omega)]
      by_cases c3:128<=i+8
      . rw [if_pos c3,if_pos (by omega),show 64 * (k+2) - 1 - (64 * k+i)=128 - 1 - i from by omega]
      . rw [if_neg c3,if_neg (by omega)]
 rw [hk,q3e,q3e]
 exact q9i (q9i h5 (q9e fun i hi=>by rw [key _ (by omega),Nat.zero_add])) (q9e fun i hi=>by rw [key _ (by omega),show 64 * k+(64+i)=64 * (k+1)+i from by omega])
theorem qs6 {f:Nat->Nat}:ImpE f (some (.ent (.own (.lst (kx .u32 startL)) true 97))) (.ent (.own (.lst (wx (q1b q3c))) true 97)):=by
 refine ⟨_,rfl,?_⟩
 show SV.ImpL _ (SV.renL f (wx (q1b q3c)))
 rw [qcu]
 exact qov (by kernel_rfl)
theorem j5c {g nm:Nat} (hg:qoj g=some nm):nm<2:=by
 rcases q2c (show boolC (Nat.beq g 0) (some 0) _=some nm from hg) with ⟨_,h⟩ | h
 . cases h; omega
 obtain ⟨_,h⟩:=q4b h
 cases h; omega
theorem q89 {X:Nat->BitVec 8} {N o n m:Nat} (hn:o+n<=N) (hm:n<=m) :
  Runs cfgH2 44 (q9p o n m) (qpv X N) fun v _=>v=.agg (bx (shaF (fun i=>X (o+i)) n)):=by
 refine qbd qr3 (sumC X N o n m) (fun A=>∃ k,SumQ X o n m A k) (fun A=>A.len) (fun g nm hg=>Nat.lt_of_lt_of_le (j5c hg) (by show 2<=5; omega)) ?_ fun A ⟨k,hQ⟩ J => ?_
 . exact qj9 (some (2,3)) 4000 ⟨o,.lit 0,n,m,q3c⟩ ⟨0,Nat.zero_le _,rfl,rfl,rfl,rfl⟩ (j1c X N o n m) (q3w X N o n m _ _) (fun E0 h=>by cases h; exact qs6) qaa
 . obtain ⟨h1,h2,h3,h4,h5⟩:=id hQ
   by_cases c1:64<=A.len
   . refine q7b (some (2,3)) 4000 ⟨A.p+A.s.den,.lit 64,A.len - 64,A.cap - 64,cmpW (q1b A.ws) (qjb X (A.p+A.s.den+0))⟩ ⟨⟨k+1,by omega,by show A.p+A.s.den+64=_; omega,by simp only; omega,by simp only; omega,?_⟩,by simp only; omega⟩ (j2c X N o n m A J) (q3w X N o n m _ _) ?_
     . rw [q3e]
       refine q9i h5 (q9e fun i hi => ?_)
       unfold padF
       rw [if_pos (by omega),show A.p+A.s.den+i=o+(64 * k+i) from by omega]
     . exact all_cons (decide_eq_true (by omega)) (all_cons (by omega) (all_cons (by omega) (all_cons (qfd X) (all_cons (by omega) (all_cons (by omega) (all_cons (by omega) qaa))))))
   . by_cases c2:A.len+9<=64
     . refine qec none 8000 (j3c X N o n m A J) ?_ fun H _ => ?_
       . exact all_cons (decide_eq_false (by omega)) (all_cons ⟨by omega,by omega⟩ (all_cons (decide_eq_false (by omega)) (all_cons ⟨by omega,qfd X⟩ (all_cons (by omega) (all_cons (by omega) (all_cons ⟨by omega,by omega⟩ (all_cons (by omega) (all_cons (by omega) qaa))))))))
       . rw [jqh hQ c2]; rfl
     . refine qec none 8000 (j4c X N o n m A J) ?_ fun H _ => ?_
       . exact all_cons (decide_eq_false (by omega)) (all_cons ⟨by omega,by omega⟩ (all_cons (decide_eq_true (by omega)) (all_cons ⟨by omega,qfd X⟩ (all_cons (by omega) (all_cons (by omega) (all_cons ⟨by omega,by omega⟩ (all_cons (by omega) (all_cons (by omega) (all_cons (by omega) qaa)))))))))
       . rw [jrh hQ (by omega) (by omega)]; rfl
theorem q99 {γ:Val} {a:SA} {l:SN} {c:SC} {x:Value} (h:(SV.slice a l c).den γ=some x):∃ m,l.den<=m/\(qq6 a.nm a.off.den l.den m).den γ=some x:=by
 obtain ⟨m,hm,hd,_,_⟩:=qyf h
 refine ⟨m,hm,?_⟩
 unfold qq6
 rw [den_slice] at hd
 rw [qnc]
 obtain ⟨A,C,hA,hC,hle,rfl⟩:=hd
 refine ⟨A,C,hA,hC,hle,?_⟩
 show Value.slice (some (if C=0 then A else A.add 0)) _ _=_
 rw [qvk,ite_self]
def nilE:List (BitVec 8):=BitVec.ofNat 8 128::repN (BitVec.ofNat 8 0) 63
theorem jsh:outO [] (qea cfgH2 8000 44 [.nilSlice] (qey [])) []=([0+64<=64],some (.agg (bx (qpj (cmpW (q1b q3c) (qjb (q3a nilE) 0)))),[])):=by kernel_rfl
theorem j6c (X:Nat->BitVec 8):shaF X 0=qpj (cmpW (q1b q3c) (qjb (q3a nilE) 0)):=by
 unfold shaF
 rw [show (0+72) / 64=0+1 from rfl,q3e]
 refine congrArg qpj (q9i rfl (q9e fun i hi => ?_))
 unfold padF lenP nilE q3a
 rw [show 64 * 0+i=i from by omega,Nat.zero_add,if_neg (by omega)]
 cases i with
 | zero=>rfl
 | succ i =>
   have hr:((BitVec.ofNat 8 128::repN (BitVec.ofNat 8 0) 63)[i+1]?).getD 0#8=BitVec.ofNat 8 0:=by
    rw [List.getElem?_cons_succ,q9c,List.getElem?_replicate,if_pos (by omega)]; rfl
   rw [if_neg (by omega),hr]
   split
   . unfold qdh
     simp
   . rfl
def jhf (F:(Nat->BitVec 8)->Nat->List (BitVec 8)):Summ:=fun args H _=>q1d args fun v=>qp6 H (q2l v (.ok ⟨.agg (bx (F (fun _=>0#8) 0)),[],[]⟩) fun a l=>boolC (qyc a.nm) (q5i (nth H a.nm) fun X N=>.need (a.off.den+l.den<=N) (.ok ⟨.agg (bx (F (fun i=>X (a.off.den+i)) l.den)),[],[]⟩)) (.stuck 740))
theorem qeu {I:Ifc} {base:Nat} {l:List (BitVec 8)} {v:SV} {H:List SO} (ho:q9d I.ents 0=[]) (h:v=.agg (bx l)):I.Ends base [] ⟨.agg (bx l),[],[]⟩ v H:=by
 subst h
 refine qvt ho ?_ (qw2 _ _)
 show SV.agg (bx l)=.agg (SV.renL _ (bx l))
 rw [qb9]
theorem nd5 {x:Nat} (h:qyc x=true):[0,1,2,3,x].Nodup:=by
 have:=qae h
 simp only [List.nodup_cons,List.mem_cons,List.not_mem_nil,or_false,not_or,not_false_eq_true,List.nodup_nil,and_true]; omega
theorem sumOK:SumAt Tryd.prog qoj 44 (jhf shaF):=by
 intro O w0 β H w base args vs hH hG ha
 refine q5b fun v hv=>q2w fun hT=>qrh (fun hn => ?_) fun a l c hs=>qva fun hn=>qze fun X N ht=>fun hle => ?_
 . rw [hv,hn] at ha
   rw [j6c]
   exact qrw qr3 8000 hH (qbg [] [] [.nilSlice]) (qqn hG) ha (Ifc.fits (by simp [qbg]) rfl (qpn hT trivial)) [] (by simp) (by simp) jsh (all_cons (by omega) qaa) fun _ _=>qeu rfl rfl
 . rw [hv,hs] at ha
   rw [qfa] at ht
   obtain ⟨x,ys,hx,hys,rfl⟩:=denL_cons.1 ha
   obtain ⟨m,hm,hd⟩:=q99 hx
   exact Go.Sim.sum_runs (c:=cfgH2) hH (qbg [a.nm] [rowF X N] (q9p a.off.den l.den m)) (qqn hG) (denL_cons.2 ⟨_,_,hd,hys,rfl⟩) (Ifc.fits (nd5 hn) rfl (qpn hT ⟨⟨ht _,q6i _ _ _⟩,trivial⟩)) [] (by simp) (by simp)
    (qlb (q89 hle hm) fun v H h=>qeu rfl h)
end
end Go.Proofs.YthkgcljngalafaaDoor.Aes
