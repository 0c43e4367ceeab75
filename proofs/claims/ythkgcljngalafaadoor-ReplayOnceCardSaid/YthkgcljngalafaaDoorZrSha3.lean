/-
  The hash function: what it comes to, for bytes of any number.
-/
import Derived.Test.YthkgcljngalafaaDoorZrSha2
import Derived.Test.YthkgcljngalafaaDoorPr6
namespace Go.Proofs.YthkgcljngalafaaDoor.Aes
noncomputable section
open Go.Sim
open Go.Proofs
variable {α:Type}
def qjg (n j:Nat):BitVec 8:=((BitVec.ofInt 64 (n:Int) * BitVec.ofInt 64 8) >>> (8 * j)).setWidth 8
def lenP (n:Nat):Nat:=64 * ((n+72) / 64)
def padF (X:Nat->BitVec 8) (n t:Nat):Nat->BitVec 8:=fun i=>if i<n then X i else if i=n then BitVec.ofNat 8 128 else if lenP n<=i+8/\i<lenP n then qjg t (lenP n - 1 - i) else BitVec.ofNat 8 0
def q0i (W:List W32) (Y:Nat->BitVec 8):Nat->List W32
 | 0=>W
 | k+1=>cmpW (qvb (q0i W Y k)) (qeb Y (64 * k))
def shaF (X:Nat->BitVec 8) (n:Nat):List (BitVec 8):=qzi (q0i qoc (padF X n n) ((n+72) / 64))
theorem qle {X Y:Nat->BitVec 8} {a b:Nat} (h:∀ i,i<64->X (a+i)=Y (b+i)):qeb X a=qeb Y b:=by
 unfold qeb
 rw [qla,qla]
 apply List.map_congr_left
 intro t ht
 rw [qcb,List.mem_range'] at ht
 obtain ⟨j,hj,rfl⟩:=ht
 unfold qep
 have e:∀ r,r<4->X (a+4 * (0+1 * j)+r)=Y (b+4 * (0+1 * j)+r):=fun r hr=>by
  rw [Nat.add_assoc,Nat.add_assoc]; exact h _ (by omega)
 rw [show a+4 * (0+1 * j)=a+4 * (0+1 * j)+0 from rfl,show b+4 * (0+1 * j)=b+4 * (0+1 * j)+0 from rfl,e 0 (by omega)]
 simp only [Nat.add_zero]
 rw [e 1 (by omega),e 2 (by omega),e 3 (by omega)]
theorem qi7 {l v:List α} {i:Nat} (h:i+v.length<=l.length) (j:Nat):(qmh l i v)[j]? = if i<=j/\j<i+v.length then v[j - i]? else l[j]? := by
 rw [qiq _ _ _ h,List.append_assoc,List.getElem?_append,List.getElem?_append,List.length_take,Nat.min_eq_left (by omega),List.getElem?_take,List.getElem?_drop]
 by_cases h1:j<i
 . rw [if_pos h1,if_pos h1,if_neg (by omega)]
 . rw [if_neg h1]
   by_cases h2:j<i+v.length
   . rw [if_pos (by omega),if_pos (by omega)]
   . rw [if_neg (by omega),if_neg (by omega),show i+v.length+(j - i - v.length)=j from by omega]
theorem qok (o n:Nat) (Y:Nat->BitVec 8):∀ (xs:List (BitVec 8)) (k:Nat),(putB o n Y xs k).length=xs.length
 | [],_=>rfl
 | _::xs,k=>congrArg (· + 1) (qok o n Y xs (k+1))
theorem q4y {size len n:Nat} {Y:Nat->BitVec 8} (hs:len+9<=size) {j:Nat} (hj:j<size) :
  qya (endL size Y len n) j=if j<len then Y j else if j=len then BitVec.ofNat 8 128 else if size<=j+8 then qjg n (size - 1 - j) else BitVec.ofNat 8 0:=by
 unfold qya endL
 have hl:(mapN (fun j=>((BitVec.ofInt 64 (n:Int) * BitVec.ofInt 64 8) >>> (8 * (7 - j))).setWidth 8) (qba 8 0):List (BitVec 8)).length=8:=rfl
 have hb:(putB (0+(len:Int).toNat * 1) 1 (fun _=>BitVec.ofNat 8 128) (putB 0 len Y (repN (BitVec.ofNat 8 0) size) 0) 0).length=size:=by
  rw [qok,qok,qgd,List.length_replicate]
 rw [qi7 (by rw [hl,hb]; show size - 8+8<=size; omega),hl]
 rw [q0l,q0l,qgd,List.getElem?_replicate,if_pos hj]
 simp only [Option.map_some,Nat.zero_add,Int.toNat_natCast,Nat.mul_one,Nat.zero_le,true_and,Nat.sub_zero]
 show ((if Nat.sub size 8<=j/\j<Nat.sub size 8+8 then _ else _:Option (BitVec 8))).getD 0#8=_
 by_cases h1:j<len
 . rw [if_neg (by show ¬ (size - 8<=j/\j<size - 8+8); omega),if_pos h1]
   simp only [Option.getD_some]
   rw [if_neg (by omega),if_pos h1]
 . simp only [if_neg h1]
   by_cases h2:j=len
   . rw [if_neg (by show ¬ (size - 8<=j/\j<size - 8+8); omega),if_pos h2]
     simp only [Option.getD_some]
     rw [if_pos (by omega)]
   . rw [if_neg h2]
     by_cases h3:size<=j+8
     . rw [if_pos (by show size - 8<=j/\j<size - 8+8; omega),if_pos h3,qla,qcb,List.getElem?_map,List.getElem?_range' (by show j - (size - 8)<8; omega)]
       simp only [Option.map_some,Option.getD_some]
       unfold qjg
       rw [show 7 - (0+1 * (j - Nat.sub size 8))=size - 1 - j from by show 7 - (0+1 * (j - (size - 8)))=_; omega]
     . rw [if_neg (by show ¬ (size - 8<=j/\j<size - 8+8); omega),if_neg h3]
       simp only [Option.getD_some]
       rw [if_neg (by omega)]
structure SumQ (X:Nat->BitVec 8) (o n m:Nat) (A:SumA) (k:Nat):Prop where
 le:64 * k<=n
 at_:A.p+A.s.den=o+64 * k
 len:A.len=n - 64 * k
 cap:A.cap=m - 64 * k
 ws:A.ws=q0i qoc (padF (fun i=>X (o+i)) n n) k
theorem qee (W:List W32) (Y:Nat->BitVec 8) (k:Nat):q0i W Y (k+1)=cmpW (qvb (q0i W Y k)) (qeb Y (64 * k)):=rfl
theorem qfi {a b c d:List W32} (h:a=b) (h':c=d):cmpW (qvb a) c=cmpW (qvb b) d:=by rw [h,h']
theorem jee {X:Nat->BitVec 8} {o n m:Nat} {A:SumA} {k:Nat} (h:SumQ X o n m A k) (hl:A.len+9<=64):end1 X n A=q0i qoc (padF (fun i=>X (o+i)) n n) ((n+72) / 64):=by
 obtain ⟨h1,h2,h3,h4,h5⟩:=h
 have hk:(n+72) / 64=k+1:=by omega
 have key:∀ i,i<64->qya (endL 64 (qxm X A) A.len n) (0+i)=padF (fun i=>X (o+i)) n n (64 * k+i):=by
  intro i hi
  rw [Nat.zero_add,q4y hl hi]
  unfold padF lenP qxm
  rw [hk,h2]
  by_cases c1:i<A.len
  . rw [if_pos c1,if_pos (by omega),Nat.add_assoc]
  . rw [if_neg c1,if_neg (show ¬ 64 * k+i<n by omega)]
    by_cases c2:i=A.len
    . rw [if_pos c2,if_pos (by omega)]
    . rw [if_neg c2,if_neg (show ¬ 64 * k+i=n by omega)]
      by_cases c3:64<=i+8
      . rw [if_pos c3,if_pos (by omega),show 64 * (k+1) - 1 - (64 * k+i)=64 - 1 - i from by omega]
      . rw [if_neg c3,if_neg (by omega)]
 rw [hk,qee]
 exact qfi h5 (qle key)
theorem jfe {X:Nat->BitVec 8} {o n m:Nat} {A:SumA} {k:Nat} (h:SumQ X o n m A k) (hl:A.len<64) (hl2:64<A.len+9):end2 X n A=q0i qoc (padF (fun i=>X (o+i)) n n) ((n+72) / 64):=by
 obtain ⟨h1,h2,h3,h4,h5⟩:=h
 have hk:(n+72) / 64=k+2:=by omega
 have key:∀ i,i<128->qya (endL 128 (qxm X A) A.len n) i=padF (fun i=>X (o+i)) n n (64 * k+i):=by
  intro i hi
  rw [q4y (by omega) hi]
  unfold padF lenP qxm
  rw [hk,h2]
  by_cases c1:i<A.len
  . rw [if_pos c1,if_pos (by omega),Nat.add_assoc]
  . rw [if_neg c1,if_neg (show ¬ 64 * k+i<n by omega)]
    by_cases c2:i=A.len
    . rw [if_pos c2,if_pos (by omega)]
    . rw [if_neg c2,if_neg (show ¬ 64 * k+i=n by omega)]
      by_cases c3:128<=i+8
      . rw [if_pos c3,if_pos (by omega),show 64 * (k+2) - 1 - (64 * k+i)=128 - 1 - i from by omega]
      . rw [if_neg c3,if_neg (by omega)]
 rw [hk,qee,qee]
 exact qfi (qfi h5 (qle fun i hi=>by rw [key _ (by omega),Nat.zero_add])) (qle fun i hi=>by rw [key _ (by omega),show 64 * k+(64+i)=64 * (k+1)+i from by omega])
theorem qg4 {f:Nat->Nat}:ImpE f (some (.ent (.own (.lst (kx .u32 startL)) true 97))) (.ent (.own (.lst (wx (qvb qoc))) true 97)):=by
 refine ⟨_,rfl,?_⟩
 show SV.ImpL _ (SV.renL f (wx (qvb qoc)))
 rw [q7s]
 exact qau (by kernel_rfl)
theorem jfa {g nm:Nat} (hg:qyi g=some nm):nm<2:=by
 rcases qnc (show boolC (Nat.beq g 0) (some 0) _=some nm from hg) with ⟨_,h⟩ | h
 . cases h; omega
 obtain ⟨_,h⟩:=qyb h
 cases h; omega
theorem qj7 {X:Nat->BitVec 8} {N o n m:Nat} (hn:o+n<=N) (hm:n<=m) :
  Runs cfgH2 44 (qfp o n m) (qbu X N) fun v _=>v=.agg (bx (shaF (fun i=>X (o+i)) n)):=by
 refine qmf qk1 (sumC X N o n m) (fun A=>∃ k,SumQ X o n m A k) (fun A=>A.len) (fun g nm hg=>Nat.lt_of_lt_of_le (jfa hg) (by show 2<=5; omega)) ?_ fun A ⟨k,hQ⟩ J => ?_
 . exact q46 (some (2,3)) 4000 ⟨o,.lit 0,n,m,qoc⟩ ⟨0,Nat.zero_le _,rfl,rfl,rfl,rfl⟩ (jba X N o n m) (qkv X N o n m _ _) (fun E0 h=>by cases h; exact qg4) qca
 . obtain ⟨h1,h2,h3,h4,h5⟩:=id hQ
   by_cases c1:64<=A.len
   . refine qgc (some (2,3)) 4000 ⟨A.p+A.s.den,.lit 64,A.len - 64,A.cap - 64,cmpW (qvb A.ws) (qeb X (A.p+A.s.den+0))⟩ ⟨⟨k+1,by omega,by show A.p+A.s.den+64=_; omega,by simp only; omega,by simp only; omega,?_⟩,by simp only; omega⟩ (jca X N o n m A J) (qkv X N o n m _ _) ?_
     . rw [qee]
       refine qfi h5 (qle fun i hi => ?_)
       unfold padF
       rw [if_pos (by omega),show A.p+A.s.den+i=o+(64 * k+i) from by omega]
     . exact all_cons (decide_eq_true (by omega)) (all_cons (by omega) (all_cons (by omega) (all_cons (q6c X) (all_cons (by omega) (all_cons (by omega) (all_cons (by omega) qca))))))
   . by_cases c2:A.len+9<=64
     . refine qdd none 8000 (jda X N o n m A J) ?_ fun H _ => ?_
       . exact all_cons (decide_eq_false (by omega)) (all_cons ⟨by omega,by omega⟩ (all_cons (decide_eq_false (by omega)) (all_cons ⟨by omega,q6c X⟩ (all_cons (by omega) (all_cons (by omega) (all_cons ⟨by omega,by omega⟩ (all_cons (by omega) (all_cons (by omega) qca))))))))
       . rw [jee hQ c2]; rfl
     . refine qdd none 8000 (jea X N o n m A J) ?_ fun H _ => ?_
       . exact all_cons (decide_eq_false (by omega)) (all_cons ⟨by omega,by omega⟩ (all_cons (decide_eq_true (by omega)) (all_cons ⟨by omega,q6c X⟩ (all_cons (by omega) (all_cons (by omega) (all_cons ⟨by omega,by omega⟩ (all_cons (by omega) (all_cons (by omega) (all_cons (by omega) qca)))))))))
       . rw [jfe hQ (by omega) (by omega)]; rfl
theorem qk7 {γ:Val} {a:SA} {l:SN} {c:SC} {x:Value} (h:(SV.slice a l c).den γ=some x):∃ m,l.den<=m/\(qe4 a.nm a.off.den l.den m).den γ=some x:=by
 obtain ⟨m,hm,hd,_,_⟩:=q9e h
 refine ⟨m,hm,?_⟩
 unfold qe4
 rw [den_slice] at hd
 rw [qbc]
 obtain ⟨A,C,hA,hC,hle,rfl⟩:=hd
 refine ⟨A,C,hA,hC,hle,?_⟩
 show Value.slice (some (if C=0 then A else A.add 0)) _ _=_
 rw [q0j,ite_self]
def nilE:List (BitVec 8):=BitVec.ofNat 8 128::repN (BitVec.ofNat 8 0) 63
theorem jge:outO [] (qka cfgH2 8000 44 [.nilSlice] (quw [])) []=([0+64<=64],some (.agg (bx (qzi (cmpW (qvb qoc) (qeb (qya nilE) 0)))),[])):=by kernel_rfl
theorem jga (X:Nat->BitVec 8):shaF X 0=qzi (cmpW (qvb qoc) (qeb (qya nilE) 0)):=by
 unfold shaF
 rw [show (0+72) / 64=0+1 from rfl,qee]
 refine congrArg qzi (qfi rfl (qle fun i hi => ?_))
 unfold padF lenP nilE qya
 rw [show 64 * 0+i=i from by omega,Nat.zero_add,if_neg (by omega)]
 cases i with
 | zero=>rfl
 | succ i =>
   have hr:((BitVec.ofNat 8 128::repN (BitVec.ofNat 8 0) 63)[i+1]?).getD 0#8=BitVec.ofNat 8 0:=by
    rw [List.getElem?_cons_succ,qgd,List.getElem?_replicate,if_pos (by omega)]; rfl
   rw [if_neg (by omega),hr]
   split
   . unfold qjg
     simp
   . rfl
def jpc (F:(Nat->BitVec 8)->Nat->List (BitVec 8)):Summ:=fun args H _=>qye args fun v=>qd4 H (q7k v (.ok ⟨.agg (bx (F (fun _=>0#8) 0)),[],[]⟩) fun a l=>boolC (qsj a.nm) (qai (nth H a.nm) fun X N=>.need (a.off.den+l.den<=N) (.ok ⟨.agg (bx (F (fun i=>X (a.off.den+i)) l.den)),[],[]⟩)) (.stuck 740))
theorem q9s {I:Ifc} {base:Nat} {l:List (BitVec 8)} {v:SV} {H:List SO} (ho:qld I.ents 0=[]) (h:v=.agg (bx l)):I.Ends base [] ⟨.agg (bx l),[],[]⟩ v H:=by
 subst h
 refine qvs ho ?_ (q10 _ _)
 show SV.agg (bx l)=.agg (SV.renL _ (bx l))
 rw [qv6]
theorem nd5 {x:Nat} (h:qsj x=true):[0,1,2,3,x].Nodup:=by
 have:=qvm h
 simp only [List.nodup_cons,List.mem_cons,List.not_mem_nil,or_false,not_or,not_false_eq_true,List.nodup_nil,and_true]; omega
theorem sumOK:SumAt Tryd.prog qyi 44 (jpc shaF):=by
 intro O w0 β H w base args vs hH hG ha
 refine qic fun v hv=>qjv fun hT=>qyg (fun hn => ?_) fun a l c hs=>qra fun hn=>qce fun X N ht=>fun hle => ?_
 . rw [hv,hn] at ha
   rw [jga]
   exact q9u qk1 8000 hH (qqf [] [] [.nilSlice]) (qum hG) ha (Ifc.fits (by simp [qqf]) rfl (qtm hT trivial)) [] (by simp) (by simp) jge (all_cons (by omega) qca) fun _ _=>q9s rfl rfl
 . rw [hv,hs] at ha
   rw [qda] at ht
   obtain ⟨x,ys,hx,hys,rfl⟩:=denL_cons.1 ha
   obtain ⟨m,hm,hd⟩:=qk7 hx
   exact Go.Sim.sum_runs (c:=cfgH2) hH (qqf [a.nm] [rowF X N] (qfp a.off.den l.den m)) (qum hG) (denL_cons.2 ⟨_,_,hd,hys,rfl⟩) (Ifc.fits (nd5 hn) rfl (qtm hT ⟨⟨ht _,qbi _ _ _⟩,trivial⟩)) [] (by simp) (by simp)
    (qyc (qj7 hle hm) fun v H h=>q9s rfl h)
end
end Go.Proofs.YthkgcljngalafaaDoor.Aes
