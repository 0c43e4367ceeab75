/-
  The hash function: what it comes to, for bytes of any number.
-/
import Derived.Test.YthkgcljngalafaaDoorZsSha2
import Derived.Test.YthkgcljngalafaaDoorPs6
namespace Go.Proofs.YthkgcljngalafaaDoor.Aes
noncomputable section
open Go.Sim
open Go.Proofs
variable {α:Type}
def qtg (n j:Nat):BitVec 8:=((BitVec.ofInt 64 (n:Int) * BitVec.ofInt 64 8) >>> (8 * j)).setWidth 8
def lenP (n:Nat):Nat:=64 * ((n+72) / 64)
def padF (X:Nat->BitVec 8) (n t:Nat):Nat->BitVec 8:=fun i=>if i<n then X i else if i=n then BitVec.ofNat 8 128 else if lenP n<=i+8/\i<lenP n then qtg t (lenP n - 1 - i) else BitVec.ofNat 8 0
def qzi (W:List W32) (Y:Nat->BitVec 8):Nat->List W32
 | 0=>W
 | k+1=>cmpW (qwb (qzi W Y k)) (qfb Y (64 * k))
def shaF (X:Nat->BitVec 8) (n:Nat):List (BitVec 8):=qyi (qzi qsc (padF X n n) ((n+72) / 64))
theorem qse {X Y:Nat->BitVec 8} {a b:Nat} (h:∀ i,i<64->X (a+i)=Y (b+i)):qfb X a=qfb Y b:=by
 unfold qfb
 rw [qja,qja]
 apply List.map_congr_left
 intro t ht
 rw [qya,List.mem_range'] at ht
 obtain ⟨j,hj,rfl⟩:=ht
 unfold qap
 have e:∀ r,r<4->X (a+4 * (0+1 * j)+r)=Y (b+4 * (0+1 * j)+r):=fun r hr=>by
  rw [Nat.add_assoc,Nat.add_assoc]; exact h _ (by omega)
 rw [show a+4 * (0+1 * j)=a+4 * (0+1 * j)+0 from rfl,show b+4 * (0+1 * j)=b+4 * (0+1 * j)+0 from rfl,e 0 (by omega)]
 simp only [Nat.add_zero]
 rw [e 1 (by omega),e 2 (by omega),e 3 (by omega)]
theorem q07 {l v:List α} {i:Nat} (h:i+v.length<=l.length) (j:Nat):(qth l i v)[j]? = if i<=j/\j<i+v.length then v[j - i]? else l[j]? := by
 rw [qdq _ _ _ h,List.append_assoc,List.getElem?_append,List.getElem?_append,List.length_take,Nat.min_eq_left (by omega),List.getElem?_take,List.getElem?_drop]
 by_cases h1:j<i
 . rw [if_pos h1,if_pos h1,if_neg (by omega)]
 . rw [if_neg h1]
   by_cases h2:j<i+v.length
   . rw [if_pos (by omega),if_pos (by omega)]
   . rw [if_neg (by omega),if_neg (by omega),show i+v.length+(j - i - v.length)=j from by omega]
theorem qpk (o n:Nat) (Y:Nat->BitVec 8):∀ (xs:List (BitVec 8)) (k:Nat),(putB o n Y xs k).length=xs.length
 | [],_=>rfl
 | _::xs,k=>congrArg (· + 1) (qpk o n Y xs (k+1))
theorem q1y {size len n:Nat} {Y:Nat->BitVec 8} (hs:len+9<=size) {j:Nat} (hj:j<size) :
  q4a (endL size Y len n) j=if j<len then Y j else if j=len then BitVec.ofNat 8 128 else if size<=j+8 then qtg n (size - 1 - j) else BitVec.ofNat 8 0:=by
 unfold q4a endL
 have hl:(mapN (fun j=>((BitVec.ofInt 64 (n:Int) * BitVec.ofInt 64 8) >>> (8 * (7 - j))).setWidth 8) (qra 8 0):List (BitVec 8)).length=8:=rfl
 have hb:(putB (0+(len:Int).toNat * 1) 1 (fun _=>BitVec.ofNat 8 128) (putB 0 len Y (repN (BitVec.ofNat 8 0) size) 0) 0).length=size:=by
  rw [qpk,qpk,q9c,List.length_replicate]
 rw [q07 (by rw [hl,hb]; show size - 8+8<=size; omega),hl]
 rw [q1l,q1l,q9c,List.getElem?_replicate,if_pos hj]
 simp only [Option.map_some,Nat.zero_add,Int.toNat_natCast,Nat.mul_one,Nat.zero_le,true_and,Nat.sub_zero]
 show ((if Nat.sub size 8<=j/\j<Nat.sub size 8+8 then _ else _:Option (BitVec 8))).getD 0#8=_
 by_cases h1:j<len
 . rw [if_neg (by show ¬ (size - 8<=j/\j<size - 8+8); omega),if_pos h1]
   simp only [Option.getD_some]
   rw [if_neg (by omega),if_pos h1]
 . simp only [if_neg h1]
   by_cases h2:j=len
   . rw [if_neg (by show ¬ (size - 8<=j/\j<size - 8+8); omega),if_pos h2]
     simp only [Option.getD_some]
     rw [if_pos (by omega)]
   . rw [if_neg h2]
     by_cases h3:size<=j+8
     . rw [if_pos (by show size - 8<=j/\j<size - 8+8; omega),if_pos h3,qja,qya,List.getElem?_map,List.getElem?_range' (by show j - (size - 8)<8; omega)]
       simp only [Option.map_some,Option.getD_some]
       unfold qtg
       rw [show 7 - (0+1 * (j - Nat.sub size 8))=size - 1 - j from by show 7 - (0+1 * (j - (size - 8)))=_; omega]
     . rw [if_neg (by show ¬ (size - 8<=j/\j<size - 8+8); omega),if_neg h3]
       simp only [Option.getD_some]
       rw [if_neg (by omega)]
structure SumQ (X:Nat->BitVec 8) (o n m:Nat) (A:SumA) (k:Nat):Prop where
 le:64 * k<=n
 at_:A.p+A.s.den=o+64 * k
 len:A.len=n - 64 * k
 cap:A.cap=m - 64 * k
 ws:A.ws=qzi qsc (padF (fun i=>X (o+i)) n n) k
theorem qme (W:List W32) (Y:Nat->BitVec 8) (k:Nat):qzi W Y (k+1)=cmpW (qwb (qzi W Y k)) (qfb Y (64 * k)):=rfl
theorem qji {a b c d:List W32} (h:a=b) (h':c=d):cmpW (qwb a) c=cmpW (qwb b) d:=by rw [h,h']
theorem juf {X:Nat->BitVec 8} {o n m:Nat} {A:SumA} {k:Nat} (h:SumQ X o n m A k) (hl:A.len+9<=64):end1 X n A=qzi qsc (padF (fun i=>X (o+i)) n n) ((n+72) / 64):=by
 obtain ⟨h1,h2,h3,h4,h5⟩:=h
 have hk:(n+72) / 64=k+1:=by omega
 have key:∀ i,i<64->q4a (endL 64 (qwm X A) A.len n) (0+i)=padF (fun i=>X (o+i)) n n (64 * k+i):=by
  intro i hi
  rw [Nat.zero_add,q1y hl hi]
  unfold padF lenP qwm
  rw [hk,h2]
  by_cases c1:i<A.len
  . rw [if_pos c1,if_pos (by omega),Nat.add_assoc]
  . rw [if_neg c1,if_neg (show ¬ 64 * k+i<n by omega)]
    by_cases c2:i=A.len
    . rw [if_pos c2,if_pos (by omega)]
    . rw [if_neg c2,if_neg (show ¬ 64 * k+i=n by omega)]
      by_cases c3:64<=i+8
      . rw [if_pos c3,if_pos (by omega),show 64 * (k+1) - 1 - (64 * k+i)=64 - 1 - i from by omega]
      . rw [if_neg c3,if_neg (by omega)]
 rw [hk,qme]
 exact qji h5 (qse key)
theorem jvf {X:Nat->BitVec 8} {o n m:Nat} {A:SumA} {k:Nat} (h:SumQ X o n m A k) (hl:A.len<64) (hl2:64<A.len+9):end2 X n A=qzi qsc (padF (fun i=>X (o+i)) n n) ((n+72) / 64):=by
 obtain ⟨h1,h2,h3,h4,h5⟩:=h
 have hk:(n+72) / 64=k+2:=by omega
 have key:∀ i,i<128->q4a (endL 128 (qwm X A) A.len n) i=padF (fun i=>X (o+i)) n n (64 * k+i):=by
  intro i hi
  rw [q1y (by omega) hi]
  unfold padF lenP qwm
  rw [hk,h2]
  by_cases c1:i<A.len
  . rw [if_pos c1,if_pos (by omega),Nat.add_assoc]
  . rw [if_neg c1,if_neg (show ¬ 64 * k+i<n by omega)]
    by_cases c2:i=A.len
    . rw [if_pos c2,if_pos (by omega)]
    . rw [if_neg c2,if_neg (show ¬ 64 * k+i=n by omega)]
      by_cases c3:128<=i+8
      . rw [if_pos c3,if_pos (by omega),show 64 * (k+2) - 1 - (64 * k+i)=128 - 1 - i from by omega]
      . rw [if_neg c3,if_neg (by omega)]
 rw [hk,qme,qme]
 exact qji (qji h5 (qse fun i hi=>by rw [key _ (by omega),Nat.zero_add])) (qse fun i hi=>by rw [key _ (by omega),show 64 * k+(64+i)=64 * (k+1)+i from by omega])
theorem qi4 {f:Nat->Nat}:ImpE f (some (.ent (.own (.lst (kx .u32 startL)) true 97))) (.ent (.own (.lst (wx (qwb qsc))) true 97)):=by
 refine ⟨_,rfl,?_⟩
 show SV.ImpL _ (SV.renL f (wx (qwb qsc)))
 rw [qxs]
 exact q2t (by kernel_rfl)
theorem jza {g nm:Nat} (hg:qxi g=some nm):nm<2:=by
 rcases qpc (show boolC (Nat.beq g 0) (some 0) _=some nm from hg) with ⟨_,h⟩ | h
 . cases h; omega
 obtain ⟨_,h⟩:=qzb h
 cases h; omega
theorem q17 {X:Nat->BitVec 8} {N o n m:Nat} (hn:o+n<=N) (hm:n<=m) :
  Runs cfgH2 44 (qbp o n m) (q3t X N) fun v _=>v=.agg (bx (shaF (fun i=>X (o+i)) n)):=by
 refine quc qk1 (sumC X N o n m) (fun A=>∃ k,SumQ X o n m A k) (fun A=>A.len) (fun g nm hg=>Nat.lt_of_lt_of_le (jza hg) (by show 2<=5; omega)) ?_ fun A ⟨k,hQ⟩ J => ?_
 . exact q66 (some (2,3)) 4000 ⟨o,.lit 0,n,m,qsc⟩ ⟨0,Nat.zero_le _,rfl,rfl,rfl,rfl⟩ (jva X N o n m) (qfv X N o n m _ _) (fun E0 h=>by cases h; exact qi4) qba
 . obtain ⟨h1,h2,h3,h4,h5⟩:=id hQ
   by_cases c1:64<=A.len
   . refine qtc (some (2,3)) 4000 ⟨A.p+A.s.den,.lit 64,A.len - 64,A.cap - 64,cmpW (qwb A.ws) (qfb X (A.p+A.s.den+0))⟩ ⟨⟨k+1,by omega,by show A.p+A.s.den+64=_; omega,by simp only; omega,by simp only; omega,?_⟩,by simp only; omega⟩ (jwa X N o n m A J) (qfv X N o n m _ _) ?_
     . rw [qme]
       refine qji h5 (qse fun i hi => ?_)
       unfold padF
       rw [if_pos (by omega),show A.p+A.s.den+i=o+(64 * k+i) from by omega]
     . exact all_cons (decide_eq_true (by omega)) (all_cons (by omega) (all_cons (by omega) (all_cons (qic X) (all_cons (by omega) (all_cons (by omega) (all_cons (by omega) qba))))))
   . by_cases c2:A.len+9<=64
     . refine q7b none 8000 (jxa X N o n m A J) ?_ fun H _ => ?_
       . exact all_cons (decide_eq_false (by omega)) (all_cons ⟨by omega,by omega⟩ (all_cons (decide_eq_false (by omega)) (all_cons ⟨by omega,qic X⟩ (all_cons (by omega) (all_cons (by omega) (all_cons ⟨by omega,by omega⟩ (all_cons (by omega) (all_cons (by omega) qba))))))))
       . rw [juf hQ c2]; rfl
     . refine q7b none 8000 (jya X N o n m A J) ?_ fun H _ => ?_
       . exact all_cons (decide_eq_false (by omega)) (all_cons ⟨by omega,by omega⟩ (all_cons (decide_eq_true (by omega)) (all_cons ⟨by omega,qic X⟩ (all_cons (by omega) (all_cons (by omega) (all_cons ⟨by omega,by omega⟩ (all_cons (by omega) (all_cons (by omega) (all_cons (by omega) qba)))))))))
       . rw [jvf hQ (by omega) (by omega)]; rfl
theorem q27 {γ:Val} {a:SA} {l:SN} {c:SC} {x:Value} (h:(SV.slice a l c).den γ=some x):∃ m,l.den<=m/\(qg4 a.nm a.off.den l.den m).den γ=some x:=by
 obtain ⟨m,hm,hd,_,_⟩:=qcf h
 refine ⟨m,hm,?_⟩
 unfold qg4
 rw [den_slice] at hd
 rw [qdc]
 obtain ⟨A,C,hA,hC,hle,rfl⟩:=hd
 refine ⟨A,C,hA,hC,hle,?_⟩
 show Value.slice (some (if C=0 then A else A.add 0)) _ _=_
 rw [q3j,ite_self]
def nilE:List (BitVec 8):=BitVec.ofNat 8 128::repN (BitVec.ofNat 8 0) 63
theorem jwf:outO [] (qfa cfgH2 8000 44 [.nilSlice] (qjw [])) []=([0+64<=64],some (.agg (bx (qyi (cmpW (qwb qsc) (qfb (q4a nilE) 0)))),[])):=by kernel_rfl
theorem j0a (X:Nat->BitVec 8):shaF X 0=qyi (cmpW (qwb qsc) (qfb (q4a nilE) 0)):=by
 unfold shaF
 rw [show (0+72) / 64=0+1 from rfl,qme]
 refine congrArg qyi (qji rfl (qse fun i hi => ?_))
 unfold padF lenP nilE q4a
 rw [show 64 * 0+i=i from by omega,Nat.zero_add,if_neg (by omega)]
 cases i with
 | zero=>rfl
 | succ i =>
   have hr:((BitVec.ofNat 8 128::repN (BitVec.ofNat 8 0) 63)[i+1]?).getD 0#8=BitVec.ofNat 8 0:=by
    rw [List.getElem?_cons_succ,q9c,List.getElem?_replicate,if_pos (by omega)]; rfl
   rw [if_neg (by omega),hr]
   split
   . unfold qtg
     simp
   . rfl
def j9c (F:(Nat->BitVec 8)->Nat->List (BitVec 8)):Summ:=fun args H _=>qad args fun v=>qf4 H (q8k v (.ok ⟨.agg (bx (F (fun _=>0#8) 0)),[],[]⟩) fun a l=>boolC (qvj a.nm) (q2f (nth H a.nm) fun X N=>.need (a.off.den+l.den<=N) (.ok ⟨.agg (bx (F (fun i=>X (a.off.den+i)) l.den)),[],[]⟩)) (.stuck 740))
theorem qlw {I:Ifc} {base:Nat} {l:List (BitVec 8)} {v:SV} {H:List SO} (ho:qwd I.ents 0=[]) (h:v=.agg (bx l)):I.Ends base [] ⟨.agg (bx l),[],[]⟩ v H:=by
 subst h
 refine qls ho ?_ (qw0 _ _)
 show SV.agg (bx l)=.agg (SV.renL _ (bx l))
 rw [qx6]
theorem nd5 {x:Nat} (h:qvj x=true):[0,1,2,3,x].Nodup:=by
 have:=qum h
 simp only [List.nodup_cons,List.mem_cons,List.not_mem_nil,or_false,not_or,not_false_eq_true,List.nodup_nil,and_true]; omega
theorem sumOK:SumAt Tryd.prog qxi 44 (j9c shaF):=by
 intro O w0 β H w base args vs hH hG ha
 refine qob fun v hv=>qev fun hT=>q5g (fun hn => ?_) fun a l c hs=>qta fun hn=>qid fun X N ht=>fun hle => ?_
 . rw [hv,hn] at ha
   rw [j0a]
   exact q1u qk1 8000 hH (quf [] [] [.nilSlice]) (qtm hG) ha (Ifc.fits (by simp [quf]) rfl (qsm hT trivial)) [] (by simp) (by simp) jwf (all_cons (by omega) qba) fun _ _=>qlw rfl rfl
 . rw [hv,hs] at ha
   rw [qca] at ht
   obtain ⟨x,ys,hx,hys,rfl⟩:=denL_cons.1 ha
   obtain ⟨m,hm,hd⟩:=q27 hx
   exact Go.Sim.sum_runs (c:=cfgH2) hH (quf [a.nm] [rowF X N] (qbp a.off.den l.den m)) (qtm hG) (denL_cons.2 ⟨_,_,hd,hys,rfl⟩) (Ifc.fits (nd5 hn) rfl (qsm hT ⟨⟨ht _,qfi _ _ _⟩,trivial⟩)) [] (by simp) (by simp)
    (qlb (q17 hle hm) fun v H h=>qlw rfl h)
end
end Go.Proofs.YthkgcljngalafaaDoor.Aes
