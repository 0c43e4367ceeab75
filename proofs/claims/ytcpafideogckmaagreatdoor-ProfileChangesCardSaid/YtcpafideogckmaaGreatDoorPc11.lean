/-
  Texts behind one another: the symbolic simulator and what it is told of the program.
-/
import Derived.Test.YtcpafideogckmaaGreatDoorCzSha2
import Derived.Test.YtcpafideogckmaaGreatDoorPc10
import Derived.Test.YtcpafideogckmaaGreatDoorRows
import Derived.Lib.LaidPrint
import Derived.Lib.LaidTab
import Derived.MakeChecks
namespace Go.Proofs.YtcpafideogckmaaGreatDoor.Aes
noncomputable section
open Go.Sim
open Go.Proofs
variable {α:Type}
def qbj (n j:Nat):BitVec 8:=((BitVec.ofInt 64 (n:Int) * BitVec.ofInt 64 8) >>> (8 * j)).setWidth 8
def lenP (n:Nat):Nat:=64 * ((n+72) / 64)
def padF (X:Nat->BitVec 8) (n t:Nat):Nat->BitVec 8:=fun i=>if i<n then X i else if i=n then BitVec.ofNat 8 128 else if lenP n<=i+8/\i<lenP n then qbj t (lenP n - 1 - i) else BitVec.ofNat 8 0
def qed (W:List W32) (Y:Nat->BitVec 8):Nat->List W32
 | 0=>W
 | k+1=>cmpW (q0a (qed W Y k)) (q7a Y (64 * k))
def shaF (X:Nat->BitVec 8) (n:Nat):List (BitVec 8):=qfe (qed qyc (padF X n n) ((n+72) / 64))
theorem q1b {X Y:Nat->BitVec 8} {a b:Nat} (h:∀ i,i<64->X (a+i)=Y (b+i)):q7a X a=q7a Y b:=by
 unfold q7a
 rw [qwa,qwa]
 apply List.map_congr_left
 intro t ht
 rw [q2c,List.mem_range'] at ht
 obtain ⟨j,hj,rfl⟩:=ht
 unfold q4s
 have e:∀ r,r<4->X (a+4 * (0+1 * j)+r)=Y (b+4 * (0+1 * j)+r):=fun r hr=>by
  rw [Nat.add_assoc,Nat.add_assoc]; exact h _ (by omega)
 rw [show a+4 * (0+1 * j)=a+4 * (0+1 * j)+0 from rfl,show b+4 * (0+1 * j)=b+4 * (0+1 * j)+0 from rfl,e 0 (by omega)]
 simp only [Nat.add_zero]
 rw [e 1 (by omega),e 2 (by omega),e 3 (by omega)]
theorem qce {W:List W32} {X Y:Nat->BitVec 8}:∀ (k:Nat),(∀ i,i<64 * k->X i=Y i)->qed W X k=qed W Y k
 | 0,_=>rfl
 | k+1,h=>by
   unfold qed
   rw [qce k fun i hi=>h i (by omega),q1b (Y:=Y) (b:=64 * k) fun i hi=>h _ (by omega)]
theorem jzd {l v:List α} {i:Nat} (h:i+v.length<=l.length) (j:Nat):(qhk l i v)[j]? = if i<=j/\j<i+v.length then v[j - i]? else l[j]? := by
 rw [qiu _ _ _ h,List.append_assoc,List.getElem?_append,List.getElem?_append,List.length_take,Nat.min_eq_left (by omega),List.getElem?_take,List.getElem?_drop]
 by_cases h1:j<i
 . rw [if_pos h1,if_pos h1,if_neg (by omega)]
 . rw [if_neg h1]
   by_cases h2:j<i+v.length
   . rw [if_pos (by omega),if_pos (by omega)]
   . rw [if_neg (by omega),if_neg (by omega),show i+v.length+(j - i - v.length)=j from by omega]
theorem qqn (o n:Nat) (Y:Nat->BitVec 8):∀ (xs:List (BitVec 8)) (k:Nat),(putB o n Y xs k).length=xs.length
 | [],_=>rfl
 | _::xs,k=>congrArg (· + 1) (qqn o n Y xs (k+1))
theorem q7p {size len n:Nat} {Y:Nat->BitVec 8} (hs:len+9<=size) {j:Nat} (hj:j<size) :
  qba (endL size Y len n) j=if j<len then Y j else if j=len then BitVec.ofNat 8 128 else if size<=j+8 then qbj n (size - 1 - j) else BitVec.ofNat 8 0:=by
 unfold qba endL
 have hl:(mapN (fun j=>((BitVec.ofInt 64 (n:Int) * BitVec.ofInt 64 8) >>> (8 * (7 - j))).setWidth 8) (q6a 8 0):List (BitVec 8)).length=8:=rfl
 have hb:(putB (0+(len:Int).toNat * 1) 1 (fun _=>BitVec.ofNat 8 128) (putB 0 len Y (repN (BitVec.ofNat 8 0) size) 0) 0).length=size:=by
  rw [qqn,qqn,qai,List.length_replicate]
 rw [jzd (by rw [hl,hb]; show size - 8+8<=size; omega),hl]
 rw [qep,qep,qai,List.getElem?_replicate,if_pos hj]
 simp only [Option.map_some,Nat.zero_add,Int.toNat_natCast,Nat.mul_one,Nat.zero_le,true_and,Nat.sub_zero]
 show ((if Nat.sub size 8<=j/\j<Nat.sub size 8+8 then _ else _:Option (BitVec 8))).getD 0#8=_
 by_cases h1:j<len
 . rw [if_neg (by show ¬ (size - 8<=j/\j<size - 8+8); omega),if_pos h1]
   simp only [Option.getD_some]
   rw [if_neg (by omega),if_pos h1]
 . simp only [if_neg h1]
   by_cases h2:j=len
   . rw [if_neg (by show ¬ (size - 8<=j/\j<size - 8+8); omega),if_pos h2]
     simp only [Option.getD_some]
     rw [if_pos (by omega)]
   . rw [if_neg h2]
     by_cases h3:size<=j+8
     . rw [if_pos (by show size - 8<=j/\j<size - 8+8; omega),if_pos h3,qwa,q2c,List.getElem?_map,List.getElem?_range' (by show j - (size - 8)<8; omega)]
       simp only [Option.map_some,Option.getD_some]
       unfold qbj
       rw [show 7 - (0+1 * (j - Nat.sub size 8))=size - 1 - j from by show 7 - (0+1 * (j - (size - 8)))=_; omega]
     . rw [if_neg (by show ¬ (size - 8<=j/\j<size - 8+8); omega),if_neg h3]
       simp only [Option.getD_some]
       rw [if_neg (by omega)]
structure SumQ (X:Nat->BitVec 8) (o n m:Nat) (A:SumA) (k:Nat):Prop where
 le:64 * k<=n
 at_:A.p+A.s.den=o+64 * k
 len:A.len=n - 64 * k
 cap:A.cap=m - 64 * k
 ws:A.ws=qed qyc (padF (fun i=>X (o+i)) n n) k
theorem qac (W:List W32) (Y:Nat->BitVec 8) (k:Nat):qed W Y (k+1)=cmpW (q0a (qed W Y k)) (q7a Y (64 * k)):=rfl
theorem qkf {a b c d:List W32} (h:a=b) (h':c=d):cmpW (q0a a) c=cmpW (q0a b) d:=by rw [h,h']
theorem jko {X:Nat->BitVec 8} {o n m:Nat} {A:SumA} {k:Nat} (h:SumQ X o n m A k) (hl:A.len+9<=64):end1 X n A=qed qyc (padF (fun i=>X (o+i)) n n) ((n+72) / 64):=by
 obtain ⟨h1,h2,h3,h4,h5⟩:=h
 have hk:(n+72) / 64=k+1:=by omega
 have key:∀ i,i<64->qba (endL 64 (q6p X A) A.len n) (0+i)=padF (fun i=>X (o+i)) n n (64 * k+i):=by
  intro i hi
  rw [Nat.zero_add,q7p hl hi]
  unfold padF lenP q6p
  rw [hk,h2]
  by_cases c1:i<A.len
  . rw [if_pos c1,if_pos (by omega),Nat.add_assoc]
  . rw [if_neg c1,if_neg (show ¬ 64 * k+i<n by omega)]
    by_cases c2:i=A.len
    . rw [if_pos c2,if_pos (by omega)]
    . rw [if_neg c2,if_neg (show ¬ 64 * k+i=n by omega)]
      by_cases c3:64<=i+8
      . rw [if_pos c3,if_pos (by omega),show 64 * (k+1) - 1 - (64 * k+i)=64 - 1 - i from by omega]
      . rw [if_neg c3,if_neg (by omega)]
 rw [hk,qac]
 exact qkf h5 (q1b key)
theorem jlo {X:Nat->BitVec 8} {o n m:Nat} {A:SumA} {k:Nat} (h:SumQ X o n m A k) (hl:A.len<64) (hl2:64<A.len+9):end2 X n A=qed qyc (padF (fun i=>X (o+i)) n n) ((n+72) / 64):=by
 obtain ⟨h1,h2,h3,h4,h5⟩:=h
 have hk:(n+72) / 64=k+2:=by omega
 have key:∀ i,i<128->qba (endL 128 (q6p X A) A.len n) i=padF (fun i=>X (o+i)) n n (64 * k+i):=by
  intro i hi
  rw [q7p (by omega) hi]
  unfold padF lenP q6p
  rw [hk,h2]
  by_cases c1:i<A.len
  . rw [if_pos c1,if_pos (by omega),Nat.add_assoc]
  . rw [if_neg c1,if_neg (show ¬ 64 * k+i<n by omega)]
    by_cases c2:i=A.len
    . rw [if_pos c2,if_pos (by omega)]
    . rw [if_neg c2,if_neg (show ¬ 64 * k+i=n by omega)]
      by_cases c3:128<=i+8
      . rw [if_pos c3,if_pos (by omega),show 64 * (k+2) - 1 - (64 * k+i)=128 - 1 - i from by omega]
      . rw [if_neg c3,if_neg (by omega)]
 rw [hk,qac,qac]
 exact qkf (qkf h5 (q1b fun i hi=>by rw [key _ (by omega),Nat.zero_add])) (q1b fun i hi=>by rw [key _ (by omega),show 64 * k+(64+i)=64 * (k+1)+i from by omega])
theorem q88 {f:Nat->Nat}:ImpE f (some (.ent (.own (.lst (kx .u32 startL)) true 138))) (.ent (.own (.lst (wx (q0a qyc))) true 138)):=by
 refine ⟨_,rfl,?_⟩
 show SV.ImpL _ (SV.renL f (wx (q0a qyc)))
 rw [q1r]
 exact q5s (by kernel_rfl)
theorem q8p {g nm:Nat} (hg:q3b g=some nm):nm<2:=by
 rcases qcd (show boolC (Nat.beq g 3) (some 0) _=some nm from hg) with ⟨_,h⟩ | h
 . cases h; omega
 obtain ⟨_,h⟩:=qtb h
 cases h; omega
theorem j0d {X:Nat->BitVec 8} {N o n m:Nat} (hn:o+n<=N) (hm:n<=m) :
  Runs cfgH2 99 (q6s o n m) (qey X N) fun v _=>v=.agg (bx (shaF (fun i=>X (o+i)) n)):=by
 refine qng q35 (sumC X N o n m) (fun A=>∃ k,SumQ X o n m A k) (fun A=>A.len) (fun g nm hg=>Nat.lt_of_lt_of_le (q8p hg) (by show 2<=5; omega)) ?_ fun A ⟨k,hQ⟩ J => ?_
 . exact jvd (some (2,3)) 4000 ⟨o,.lit 0,n,m,qyc⟩ ⟨0,Nat.zero_le _,rfl,rfl,rfl,rfl⟩ (jfh X N o n m) (qoz X N o n m _ _) (fun E0 h=>by cases h; exact q88) qaa
 . obtain ⟨h1,h2,h3,h4,h5⟩:=id hQ
   by_cases c1:64<=A.len
   . refine qjo (some (2,3)) 4000 ⟨A.p+A.s.den,.lit 64,A.len - 64,A.cap - 64,cmpW (q0a A.ws) (q7a X (A.p+A.s.den+0))⟩ ⟨⟨k+1,by omega,by show A.p+A.s.den+64=_; omega,by simp only; omega,by simp only; omega,?_⟩,by simp only; omega⟩ (jgh X N o n m A J) (qoz X N o n m _ _) ?_
     . rw [qac]
       refine qkf h5 (q1b fun i hi => ?_)
       unfold padF
       rw [if_pos (by omega),show A.p+A.s.den+i=o+(64 * k+i) from by omega]
     . exact all_cons (decide_eq_true (by omega)) (all_cons (by omega) (all_cons (by omega) (all_cons (qda X) (all_cons (by omega) (all_cons (by omega) (all_cons (by omega) qaa))))))
   . by_cases c2:A.len+9<=64
     . refine qti none 8000 (jhh X N o n m A J) ?_ fun H _ => ?_
       . exact all_cons (decide_eq_false (by omega)) (all_cons ⟨by omega,by omega⟩ (all_cons (decide_eq_false (by omega)) (all_cons ⟨by omega,qda X⟩ (all_cons (by omega) (all_cons (by omega) (all_cons ⟨by omega,by omega⟩ (all_cons (by omega) (all_cons (by omega) qaa))))))))
       . rw [jko hQ c2]; rfl
     . refine qti none 8000 (jih X N o n m A J) ?_ fun H _ => ?_
       . exact all_cons (decide_eq_false (by omega)) (all_cons ⟨by omega,by omega⟩ (all_cons (decide_eq_true (by omega)) (all_cons ⟨by omega,qda X⟩ (all_cons (by omega) (all_cons (by omega) (all_cons ⟨by omega,by omega⟩ (all_cons (by omega) (all_cons (by omega) (all_cons (by omega) qaa)))))))))
       . rw [jlo hQ (by omega) (by omega)]; rfl
theorem q5f {c:Cfg} {f:FuncId} {args:List SV} {H:List SO} {D D':SV->List SO->Prop} (h:Runs c f args H D) (hd:∀ v H,D v H->D' v H):Runs c f args H D' :=
 ⟨h.1,fun O w0 w β vs hH hG ha=>(h.2 O w0 w β vs hH hG ha).mono fun _ _ ⟨v,H',x,β',h1,h2,h3⟩=>⟨v,H',x,β',h1,hd _ _ h2,h3⟩⟩
theorem qpz {γ:Val} {a:SA} {l:SN} {c:SC} {x:Value} (h:(SV.slice a l c).den γ=some x):∃ m,l.den<=m/\(q10 a.nm a.off.den l.den m).den γ=some x:=by
 obtain ⟨m,hm,hd,_,_⟩:=q8a h
 refine ⟨m,hm,?_⟩
 unfold q10
 rw [qra] at hd
 rw [q6d]
 obtain ⟨A,C,hA,hC,hle,rfl⟩:=hd
 refine ⟨A,C,hA,hC,hle,?_⟩
 show Value.slice (some (if C=0 then A else A.add 0)) _ _=_
 rw [qxm,ite_self]
theorem q9p {X Y:Nat->BitVec 8} {n:Nat} (h:∀ i,i<n->X i=Y i):shaF X n=shaF Y n:=by
 unfold shaF
 congr 1
 apply qce
 intro i _
 unfold padF
 by_cases hi:i<n
 . rw [if_pos hi,if_pos hi,h i hi]
 . rw [if_neg hi,if_neg hi]
def nilE:List (BitVec 8):=BitVec.ofNat 8 128::repN (BitVec.ofNat 8 0) 63
theorem jmo:outO [] (qca cfgH2 8000 99 [.nilSlice] (qpc [])) []=([0+64<=64],some (.agg (bx (qfe (cmpW (q0a qyc) (q7a (qba nilE) 0)))),[])):=by kernel_rfl
theorem jjh (X:Nat->BitVec 8):shaF X 0=qfe (cmpW (q0a qyc) (q7a (qba nilE) 0)):=by
 unfold shaF
 rw [show (0+72) / 64=0+1 from rfl,qac]
 refine congrArg qfe (qkf rfl (q1b fun i hi => ?_))
 unfold padF lenP nilE qba
 rw [show 64 * 0+i=i from by omega,Nat.zero_add,if_neg (by omega)]
 cases i with
 | zero=>rfl
 | succ i =>
   have hr:((BitVec.ofNat 8 128::repN (BitVec.ofNat 8 0) 63)[i+1]?).getD 0#8=BitVec.ofNat 8 0:=by
    rw [List.getElem?_cons_succ,qai,List.getElem?_replicate,if_pos (by omega)]; rfl
   rw [if_neg (by omega),hr]
   split
   . unfold qbj
     simp
   . rfl
def j0l (F:(Nat->BitVec 8)->Nat->List (BitVec 8)):Summ:=fun args H _=>qgd args fun v=>qbf H (qob v (.ok ⟨.agg (bx (F (fun _=>0#8) 0)),[],[]⟩) fun a l=>boolC (qeb a.nm) (q4b (nth H a.nm) fun X N=>.need (a.off.den+l.den<=N) (.ok ⟨.agg (bx (F (fun i=>X (a.off.den+i)) l.den)),[],[]⟩)) (.stuck 740))
theorem qaq {I:Ifc} {base:Nat} {l:List (BitVec 8)} {v:SV} {H:List SO} (ho:q6b I.ents 0=[]) (h:v=.agg (bx l)):I.Ends base [] ⟨.agg (bx l),[],[]⟩ v H:=by
 subst h
 refine qkb ho ?_ (qfd _ _)
 show SV.agg (bx l)=.agg (SV.renL _ (bx l))
 rw [q9d]
theorem nd5 {x:Nat} (h:qeb x=true):[0,1,2,3,x].Nodup:=by
 have:=qki h
 simp only [List.nodup_cons,List.mem_cons,List.not_mem_nil,or_false,not_or,not_false_eq_true,List.nodup_nil,and_true]; omega
theorem sumOK:SumAt Tryz.prog q3b 99 (j0l shaF):=by
 intro O w0 β H w base args vs hH hG ha
 refine qub fun v hv=>qkc fun hT=>qxa (fun hn => ?_) fun a l c hs=>qfa fun hn=>q5a fun X N ht=>fun hle => ?_
 . rw [hv,hn] at ha
   rw [jjh]
   exact qka q35 8000 hH (qqa [] [] [.nilSlice]) (qma hG) ha (Ifc.fits (by simp [qqa]) rfl (qdb hT trivial)) [] (by simp) (by simp) jmo (all_cons (by omega) qaa) fun _ _=>qaq rfl rfl
 . rw [hv,hs] at ha
   rw [qga] at ht
   obtain ⟨x,ys,hx,hys,rfl⟩:=denL_cons.1 ha
   obtain ⟨m,hm,hd⟩:=qpz hx
   exact Go.Sim.sum_runs (c:=cfgH2) hH (qqa [a.nm] [rowF X N] (q6s a.off.den l.den m)) (qma hG) (denL_cons.2 ⟨_,_,hd,hys,rfl⟩) (Ifc.fits (nd5 hn) rfl (qdb hT ⟨⟨ht _,qya _ _ _⟩,trivial⟩)) [] (by simp) (by simp)
    (q5f (j0d hle hm) fun v H h=>qaq rfl h)
end
noncomputable section
open Go.Sim
open Go.Proofs
variable {α:Type}
def qud:Nat->Option Nat:=fun g=>boolC (Nat.beq g 3) (some 0) (boolC (Nat.beq g 4) (some 1) (boolC (Nat.beq g 1) (some 2) none))
def qpl:SO:=.row (.lst [.slice ⟨3,.lit 0⟩ (.lit 64) (.lit 64)])
def qzw:SO:=.row (.lst (kx .i64 constL))
def shaH (l:List SO):List SO:=q3f::q4f::qpl::qzw::l
def rowS (e:Option SO):Bool:=optC (qic e) false fun l=>List.rec (motive:=fun _=>Bool) false (fun v r _=>boolC (q00 v 3 64) (nilN r) false) l
theorem j1d {e:Option SO} (h:rowS e=true) (g:Nat->Nat) (hg:g 3=3):∃ e',e=some e'/\qrb g qpl e':=by
 unfold rowS at h
 cases hc:qic e with
 | none=>rw [hc] at h; cases h
 | some l =>
   rw [hc] at h
   cases l with
   | nil=>cases h
   | cons v r =>
     obtain ⟨h1,h2⟩:=q7h (show boolC (q00 v 3 64) (nilN r) false=true from h)
     cases r with
     | cons=>cases h2
     | nil =>
       rw [q68 h1] at hc
       refine q7b hc ?_
       show SV.ImpL _ [.slice ⟨g 3,.lit 0⟩ (.lit 64) (.lit 64)]
       rw [hg]; exact .refl _
def shaT (H:List SO) (r:R α):R α:=boolC (rowK .u32 startL (nth H 0)) (boolC (rowK .u32 constL (nth H 1)) (boolC (rowS (nth H 2)) (boolC (rowK .i64 constL (nth H 3)) r (.stuck 730)) (.stuck 731)) (.stuck 732)) (.stuck 733)
structure ShaT (H:List SO):Prop where
 s0:∀ g,∃ e',H[0]? = some e'/\qrb g q3f e'
 s1:∀ g,∃ e',H[1]? = some e'/\qrb g q4f e'
 s2:∀ g:Nat->Nat,g 3=3->∃ e',H[2]? = some e'/\qrb g qpl e'
 s3:∀ g,∃ e',H[3]? = some e'/\qrb g qzw e'
theorem qzg {H:List SO} {r:R α} {φ:α->Prop} (h:ShaT H->r.Sat φ):(shaT H r).Sat φ:=by
 refine qfa fun h0=>qfa fun h1=>qfa fun h2=>qfa fun h3=>h ⟨fun g => ?_,fun g => ?_,fun g hg => ?_,fun g => ?_⟩
 . rw [← qga]; exact q6k h0 g
 . rw [← qga]; exact q6k h1 g
 . rw [← qga]; exact j1d h2 g hg
 . rw [← qga]; exact q6k h3 g
def shaI (names:List Nat) (ents:List SO) (args:List SV):Ifc:=⟨0::1::2::3::names,shaH ents,args⟩
theorem q5e {H:List SO} (hT:ShaT H) {names:List Nat} {ents:List SO} {args:List SV} (h:EntsOK (shaI names ents args).big (shaI names ents args).known H names ents):EntsOK (shaI names ents args).big (shaI names ents args).known H (shaI names ents args).names (shaI names ents args).ents :=
 ⟨⟨hT.s0 _,qii _ _ _⟩,⟨hT.s1 _,qii _ _ _⟩,⟨hT.s2 _ rfl,rfl⟩,⟨hT.s3 _,qii _ _ _⟩,h⟩
theorem qae {β:Val} {names:List Nat} {ents:List SO} {args:List SV} (hG:GlobRel qud β):∀ g j,qud g=some j->(shaI names ents args).known j=true/\∃ l,β ((shaI names ents args).big j)=some l/\l.blk=g/\l.off=0:=by
 intro g j hg
 have hj:j=0\/j=1\/j=2:=by
  rcases qcd (show boolC (Nat.beq g 3) (some 0) _=some j from hg) with ⟨_,h⟩ | h
  . cases h; exact .inl rfl
  rcases qcd h with ⟨_,h⟩ | h
  . cases h; exact .inr (.inl rfl)
  obtain ⟨_,h⟩:=qtb h
  cases h; exact .inr (.inr rfl)
 rcases hj with rfl | rfl | rfl
 . exact ⟨rfl,hG g 0 hg⟩
 . exact ⟨rfl,hG g 1 hg⟩
 . exact ⟨rfl,hG g 2 hg⟩
theorem jno {g nm:Nat} (h:q3b g=some nm):qud g=some nm:=by
 rcases qcd (show boolC (Nat.beq g 3) (some 0) _=some nm from h) with ⟨h1,h2⟩ | h
 . cases h2; unfold qud; rw [h1]; rfl
 obtain ⟨h1,h2⟩:=qtb h
 cases h2
 have e:=qpa h1
 subst e
 rfl
theorem SumAt.up {f:FuncId} {s:Summ} (h:SumAt Tryz.prog q3b f s):SumAt Tryz.prog qud f s:=fun O w0 β H w base args vs hH hG ha=>h O w0 β H w base args vs hH (fun g nm hg=>hG g nm (jno hg)) ha
theorem qbq {g nm:Nat} (hg:qud g=some nm):nm<3:=by
 rcases qcd (show boolC (Nat.beq g 3) (some 0) _=some nm from hg) with ⟨_,h⟩ | h
 . cases h; omega
 rcases qcd h with ⟨_,h⟩ | h
 . cases h; omega
 obtain ⟨_,h⟩:=qtb h
 cases h; omega
end
noncomputable section
open Go.Sim
open Go.Proofs
open Go.RowKit
variable {α:Type}
set_option maxRecDepth 1000000
def qze:Nat->Option Nat:=fun g=>boolC (Nat.beq g 3) (some 0) (boolC (Nat.beq g 4) (some 1) (boolC (Nat.beq g 1) (some 2) (boolC (Nat.beq g 0) (some 4) none)))
theorem j0t {g j:Nat} (h:qud g=some j):qze g=some j:=by
 unfold qud at h
 unfold qze
 cases h1:Nat.beq g 3 with
 | true=>rw [h1] at h; exact h
 | false =>
   rw [h1] at h
   rw [boolC_false] at h ⊢
   cases h2:Nat.beq g 4 with
   | true=>rw [h2] at h; exact h
   | false =>
     rw [h2] at h
     rw [boolC_false] at h ⊢
     cases h3:Nat.beq g 1 with
     | true=>rw [h3] at h; exact h
     | false=>rw [h3] at h; cases h
theorem j1t {g j:Nat} (h:qvg g=some j):j=0/\qze g=some 4:=by
 have h':boolC (Nat.beq g 0) (some 0) none=some j:=h
 obtain ⟨h1,h2⟩:=qtb h'
 cases h2
 have h1:=qpa h1
 subst h1
 exact ⟨rfl,by kernel_rfl⟩
def q98 (H:List SO) (r:R SumRes):R SumRes:=optC (qic (nth H 4)) (.stuck 740) fun l=>boolC (qqs qp8 l) r (.stuck 740)
theorem qqz {H:List SO} {r:R SumRes} {φ:SumRes->Prop} (h:(∀ g,∃ e',H[4]? = some e'/\qrb g tabR e')->r.Sat φ):(q98 H r).Sat φ:=by
 refine qja fun l hl=>qfa fun hs=>h fun g => ?_
 rw [qga] at hl
 rw [qil hs] at hl
 exact q7b hl (by rw [q1k]; exact .refl _)
theorem qa3 {β:Val} {I:Ifc} (h0:I.big 0=4) (hk:I.known 0=true) (hG:GlobRel qze β):∀ g j,qvg g=some j->I.known j=true/\∃ l,β (I.big j)=some l/\l.blk=g/\l.off=0:=by
 intro g j hg
 obtain ⟨rfl,hq⟩:=j1t hg
 rw [h0]; exact ⟨hk,hG g 4 hq⟩
def fnB (xs:Blk):Cells:=.fn (qea (qba xs)) (lenN xs)
theorem j2d {p:Nat->Bool} {g:Nat->Nat} {E:Option SO} {xs:Blk} {w:Bool} {el:TypeId} (h:E=some (.own (.lst (bx xs)) w el)):q5d p g E (.own (fnB xs) w el):=by
 obtain ⟨c,w',el',c',h1,h2,h3,h4⟩:=qbg (p:=p) (g:=g) h
 cases h4
 refine ⟨c,w,el,fnB xs,h1,h2,h3.trans fun γ vs hv => ?_,rfl⟩
 show CellsRel γ (.fn (qea (qba xs)) (lenN xs)) vs
 rw [qva]
 exact qco hv
end
noncomputable section
open Go.Sim
open Go.Proofs
theorem HeapRel.rows {P:Program} {W:World} {β:Val} {H:List SO} (h:∀ n e,H[n]? = some e->∃ c,e=.row c/\qn1 (fun _=>False) W β n c) (hb:∀ n,H.length<=n->β n=none):HeapRel P (fun _=>False) W β H W:=by
 refine ⟨⟨fun n e hn => ?_,fun n m e e' l l' hn hm ho ho' => ?_,fun n e l hn ho => ?_,⟨rfl,rfl,rfl,Nat.le_refl _,fun _ _ _=>rfl⟩⟩,hb⟩
 . obtain ⟨c,rfl,hc⟩:=h n e hn; exact hc
 . obtain ⟨c,rfl,hc⟩:=h n e hn; cases ho
 . obtain ⟨c,rfl,hc⟩:=h n e hn; cases ho
theorem j3d {γ:Val} (k:IntKind):∀ T:List Nat,SV.denL γ (kx k T)=some (T.map fun n=>Value.int k (Int.ofNat n))
 | []=>rfl
 | _::T=>denL_cons.2 ⟨_,_,rfl,j3d k T,rfl⟩
theorem q45 {W:World} {a:Addr} {x:Value} (h:W.cell? a=some x):a.block<W.heap.size:=by
 by_cases hb:a.block<W.heap.size
 . exact hb
 . unfold World.cell? at h
   have hn:W.heap[a.block]? = none:=Array.getElem?_eq_none (by omega)
   simp only [hn] at h
   cases h
theorem q0w {W:World} {β:Val} {n:Nat} {l:Sim.Loc} {k:IntKind} {L:List Nat} (hl:β n=some l) (hc:∀ i,i<L.length->W.cell? ⟨l.blk,l.off+i,none⟩=some (.int k ((L.getD i 0:Nat):Int))):qn1 (fun _=>False) W β n (.lst (kx k L)):=by
 refine ⟨l,_,hl,j3d k L,fun i x hx => ?_⟩
 rw [List.getElem?_map] at hx
 cases hi:L[i]? with
 | none=>rw [hi] at hx; cases hx
 | some t =>
   rw [hi] at hx; cases hx
   have hlt:i<L.length:=(List.getElem?_eq_some_iff.1 hi).1
   have hcell:=hc i hlt
   have e:L.getD i 0=t:=by rw [List.getD_eq_getElem?_getD,hi]; rfl
   rw [e] at hcell
   exact ⟨q45 hcell,fun f=>f,hcell⟩
theorem qb3 {P:Program} {w:World} {name:String} {g:Nat} {t e:TypeId} {k:IntKind} {n:Nat} {L:List Nat} (hn:P.globalNamed name=some g) (hy:(P.globals[g]?).map (·.type)=some t) (ht:P.underlying t=some (.array n e)) (he:P.underlying e=some (.int k)) (hce:P.cellsOf e=1) (hct:P.cellsOf t=n)
  (h:Lib.VarReads P w name (Lib.tabData k (L.map Int.ofNat))):∀ i,i<L.length->w.cell? ⟨g,i,none⟩=some (.int k ((L.getD i 0:Nat):Int)):=by
 obtain ⟨g',t',cs,fuel,p,hg,hty,hvar,hd⟩:=h
 obtain rfl:=Option.some.inj (hn.symm.trans hg)
 obtain rfl:=Option.some.inj (hy.symm.trans hty)
 intro i hi
 have hT:Lib.TabIs P w name k (L.map Int.ofNat):=by
  unfold Lib.TabIs
  rw [hvar,← Lib.cells_of_tab ht he hce hct hd]
 have:=hT.cell hn i (by simpa using hi)
 rw [this]
 simp [List.getD_eq_getElem?_getD,List.getElem?_eq_getElem hi]
theorem jkh {P:Program} {w:World} {name:String} {g:Nat} {t e:TypeId} {k:IntKind} {l:List Nat} (hn:P.globalNamed name=some g) (hy:(P.globals[g]?).map (·.type)=some t)
  (ht:P.underlying t=some (.slice e)) (he:P.underlying e=some (.int k)) (hc:P.cellsOf e=1) (hl:0<l.length) (h:Lib.VarReads P w name (Lib.sliceData k l)) :
  ∃ R o:Nat,w.cell? ⟨g,0,none⟩=some (.slice (some ⟨R,o,none⟩) l.length l.length)/\∀ j,j<l.length->w.cell? ⟨R,o+j,none⟩=some (.int k (l.getD j 0)):=by
 obtain ⟨R,o,c,h1,h2⟩:=Lib.tabSlice_of_reads hn hy ht he hc hl h
 refine ⟨R,o,?_,h2⟩
 obtain ⟨g',t',cs,fuel,p,hg,hty,hvar,hd⟩:=h
 obtain rfl:=Option.some.inj (hn.symm.trans hg)
 obtain rfl:=Option.some.inj (hy.symm.trans hty)
 rcases DataW.trod_slice ht hd with ⟨_,hx⟩ | ⟨a,len,cap,el,rs,m,rfl,hcs,hx,_,hlc,_,hel,helem,hsp,_⟩
 . cases hx
 have e0:=congrArg Prod.fst hx
 simp only [Lib.sliceData,DataW.slice.injEq] at e0
 obtain ⟨eE,eR⟩:=e0
 have hlen:len=l.length:=by
  have:=congrArg List.length eE
  simp at this
  omega
 have hr:=(hsp rfl).1
 have hr0:rs.length=0:=by
  have:=congrArg List.length eR
  simp at this
  simp [this]
 have hcap:cap=l.length:=by omega
 have h3:w.cell? ⟨g,0,none⟩=some (.slice (some a) l.length l.length):=by
  rw [World.var?_cell hg hvar 0,← Array.getElem?_toList,hcs,hlen,hcap]
  rfl
 rw [h1] at h3
 cases h3
 exact h1
end
noncomputable section
open Go.Sim
open Go.Proofs
theorem q_start {W:World} (hL:laidMetH Tryz.prog [("watchword/watchwordref04.constants",Rows.laid_watchword_watchwordref04_constants),("watchword/watchwordref06.substitutes",Rows.laid_watchword_watchwordref06_substitutes),("watchword/sha.start",Rows.laid_watchword_sha_start),("watchword/sha.constants",Rows.laid_watchword_sha_constants)] W) :
  ∃ β,HeapRel Tryz.prog (fun _=>False) W β (shaH [tabR]) W/\GlobRel qze β:=by
 rw [MakeChecks.laidMetH_plain _ _ _ (by kernel_rfl)] at hL
 have e1:(Rows.laid_watchword_watchwordref04_constants:DataW Unit)=Lib.sliceData .i64 constL:=by kernel_rfl
 have e2:(Rows.laid_watchword_sha_start:DataW Unit)=Lib.tabData .u32 (startL.map Int.ofNat):=by kernel_rfl
 have e3:(Rows.laid_watchword_sha_constants:DataW Unit)=Lib.tabData .u32 (constL.map Int.ofNat):=by kernel_rfl
 have e4:(Rows.laid_watchword_watchwordref06_substitutes:DataW Unit)=Lib.tabData .u8 (subs.map Int.ofNat):=by kernel_rfl
 have eT:tabR=.row (.lst (kx .u8 subs)):=by kernel_rfl
 rw [eT]
 rw [e1,e2,e3,e4] at hL
 have r1:=Lib.laidMet.reads hL (n := "watchword/watchwordref04.constants") (d:=Lib.sliceData .i64 constL) (by simp)
 have r2:=Lib.laidMet.reads hL (n := "watchword/sha.start") (d:=Lib.tabData .u32 (startL.map Int.ofNat)) (by simp)
 have r3:=Lib.laidMet.reads hL (n := "watchword/sha.constants") (d:=Lib.tabData .u32 (constL.map Int.ofNat)) (by simp)
 have r4:=Lib.laidMet.reads hL (n := "watchword/watchwordref06.substitutes") (d:=Lib.tabData .u8 (subs.map Int.ofNat)) (by simp)
 have t4:=qb3 (g:=0) (t:=84) (e:=5) (n:=256) (by kernel_rfl) (by kernel_rfl) (by kernel_rfl) (by kernel_rfl) (by kernel_rfl) (by kernel_rfl) r4
 have t2:=qb3 (g:=3) (t:=138) (e:=136) (n:=8) (by kernel_rfl) (by kernel_rfl) (by kernel_rfl) (by kernel_rfl) (by kernel_rfl) (by kernel_rfl) r2
 have t3:=qb3 (g:=4) (t:=162) (e:=136) (n:=64) (by kernel_rfl) (by kernel_rfl) (by kernel_rfl) (by kernel_rfl) (by kernel_rfl) (by kernel_rfl) r3
 obtain ⟨R,o,c1,c2⟩:=jkh (g:=1) (t:=118) (e:=3) (by kernel_rfl) (by kernel_rfl) (by kernel_rfl) (by kernel_rfl) (by kernel_rfl) (by decide) r1
 have hc64:constL.length=64:=rfl
 rw [hc64] at c1
 let β:Val:=fun n=>match n with
  | 0=>some (Sim.Loc.mk 3 0 0)
  | 1=>some (Sim.Loc.mk 4 0 0)
  | 2=>some (Sim.Loc.mk 1 0 0)
  | 3=>some (Sim.Loc.mk R o 0)
  | 4=>some (Sim.Loc.mk 0 0 0)
  | _=>none
 refine ⟨β,HeapRel.rows (fun n e hn => ?_) fun n hn => ?_,fun g nm hg => ?_⟩
 . match n,hn with
   | 0,hn=>cases hn; exact ⟨_,rfl,q0w (l:=Sim.Loc.mk 3 0 0) rfl fun i hi=>by rw [show (Sim.Loc.mk 3 0 0).off+i=i from Nat.zero_add i]; exact t2 i hi⟩
   | 1,hn=>cases hn; exact ⟨_,rfl,q0w (l:=Sim.Loc.mk 4 0 0) rfl fun i hi=>by rw [show (Sim.Loc.mk 4 0 0).off+i=i from Nat.zero_add i]; exact t3 i hi⟩
   | 2,hn =>
     cases hn
     refine ⟨_,rfl,Sim.Loc.mk 1 0 0,[.slice (some ⟨R,o,none⟩) 64 64],rfl,?_,fun i x hx => ?_⟩
     . show SV.denL β [.slice ⟨3,.lit 0⟩ (.lit 64) (.lit 64)]=_
       rfl
     . cases i with
       | zero =>
         cases hx
         exact ⟨q45 c1,fun f=>f,c1⟩
       | succ i=>simp at hx
   | 3,hn=>cases hn; exact ⟨_,rfl,q0w (l:=Sim.Loc.mk R o 0) rfl fun i hi=>c2 i hi⟩
   | 4,hn=>cases hn; exact ⟨_,rfl,q0w (l:=Sim.Loc.mk 0 0 0) rfl fun i hi=>by rw [show (Sim.Loc.mk 0 0 0).off+i=i from Nat.zero_add i]; exact t4 i hi⟩
   | n+5,hn=>simp [shaH] at hn
 . match n,hn with
   | n+5,_=>rfl
   | 4,hn=>simp [shaH] at hn
   | 0,hn=>simp [shaH] at hn
   | 1,hn=>simp [shaH] at hn
   | 2,hn=>simp [shaH] at hn
   | 3,hn=>simp [shaH] at hn
 . rcases qcd (show boolC (Nat.beq g 3) (some 0) _=some nm from hg) with ⟨h1,h2⟩ | h
   . cases h2; exact ⟨_,rfl,(qpa h1).symm,rfl⟩
   . rcases qcd h with ⟨h1,h2⟩ | h
     . cases h2; exact ⟨_,rfl,(qpa h1).symm,rfl⟩
     . rcases qcd h with ⟨h1,h2⟩ | h
       . cases h2; exact ⟨_,rfl,(qpa h1).symm,rfl⟩
       . obtain ⟨h1,h2⟩:=qtb h
         cases h2; exact ⟨_,rfl,(qpa h1).symm,rfl⟩
end
noncomputable section
open Go.Sim
open Go.Proofs
variable {α:Type}
def iw (x:W32):SV:=.int .i64 (.b32 x)
def ux (l:List W32):List SV:=mapN iw l
def uni (v:SV):Option W32:=v.asInt none fun k n=>boolC (eqK k .i64) (qav n) none
theorem qcq {v:SV} {x:W32} (h:uni v=some x):v=iw x:=by
 unfold uni at h
 rcases qxc v with ⟨k,n,rfl⟩ | hv
 . obtain ⟨hk,h⟩:=qtb (show boolC (eqK k .i64) (qav n) none=some x from h)
   rw [qag hk]
   cases n <;> first | (cases h; rfl) | cases h
 . rw [hv] at h; cases h
def iwR (x:W32):R SumRes:=.ok ⟨iw x,[],[]⟩
theorem j4d {I:Ifc} {base:Nat} {v u:SV} {H:List SO} (ho:q6b I.ents 0=[]) (hr:v.ren (I.out base [])=v) (hi:v.Imp u) (hu:v.uses (I.seen [])=true):I.Ends base [] ⟨u,[],[]⟩ v H :=
 ⟨by rw [hr]; exact hi,hu,by rw [ho]; trivial,trivial⟩
theorem qvf {k:IntKind} {a b:SI} (h:a.den=b.den):(SV.int k a).Imp (.int k b):=by
 intro γ x hx
 have hx:some (Value.int k a.den)=some x:=hx
 rw [h] at hx; exact hx
def qlo (x:W32) (n:Nat):W32:=BitVec.ofInt 32 (IntKind.i64.wrap ((x.toNat:Int) * 2 ^ (32 - n)))
def j5d (x:W32) (n:Nat):List Prop × Option (SV × List (Option SO)) :=
 ([0<=IntKind.i64.wrap ((x.toNat:Int) * 2 ^ (32 - n)),qza (((x >>> n).toNat:Int)+((qlo x n).toNat:Int))],some (.int .i64 (.sym (((x >>> n).toNat:Int)+((qlo x n).toNat:Int))),[]))
def qmo:List Nat:=[7,18,17,19,6,11,25,2,13,22]
theorem qa9 (x:W32):mapN (fun n=>outP [] (qca cfg0 400 83 [iw x,.int .i64 (.lit (Int.ofNat n))] [])) qmo=mapN (fun n=>j5d x n) qmo:=by kernel_rfl
theorem j6d (x:W32) {n:Nat} (hn:n∈qmo):outP [] (qca cfg0 400 83 [iw x,.int .i64 (.lit (Int.ofNat n))] [])=j5d x n:=by
 have h:=qa9 x
 rw [qwa,qwa] at h
 exact List.map_inj_left.1 h n hn
theorem j7d (x:W32) {n:Nat} (h2:2<=n) (h3:n<=31):0<=IntKind.i64.wrap ((x.toNat:Int) * 2 ^ (32 - n))/\(x >>> n).toNat+(qlo x n).toNat=(rrt x n).toNat:=by
 have hx:=x.isLt
 have hp:2 ^ n * 2 ^ (32 - n)=4294967296:=by rw [← Nat.pow_add,show n+(32 - n)=32 from by omega]
 have hpn:4<=2 ^ n:=by
  have:=Nat.pow_le_pow_right (show 0<2 by omega) h2
  simpa using this
 have hq:2 ^ (32 - n)<=1073741824:=by
  have:=Nat.pow_le_pow_right (show 0<2 by omega) (show 32 - n<=30 by omega)
  simpa using this
 have hprod:x.toNat * 2 ^ (32 - n)<9223372036854775808:=by
  have:x.toNat * 2 ^ (32 - n)<=4294967296 * 1073741824:=Nat.mul_le_mul (by omega) hq
  omega
 have hc:((x.toNat:Int) * 2 ^ (32 - n))=((x.toNat * 2 ^ (32 - n):Nat):Int):=by simp
 have hw:IntKind.i64.wrap ((x.toNat:Int) * 2 ^ (32 - n))=((x.toNat * 2 ^ (32 - n):Nat):Int):=by
  rw [hc,wrap_i64 ⟨by omega,by omega⟩]
 refine ⟨by rw [hw]; omega,?_⟩
 have hv:qlo x n=x <<< (32 - n):=by
  unfold qlo
  rw [hw,← hc,qsv]
 rw [hv]
 unfold rrt
 rw [BitVec.toNat_or,BitVec.toNat_shiftLeft,BitVec.toNat_ushiftRight,Nat.shiftLeft_eq,Nat.shiftRight_eq_div_pow]
 have hb:x.toNat / 2 ^ n<2 ^ (32 - n):=by
  rw [Nat.div_lt_iff_lt_mul (by omega),Nat.mul_comm,hp]; exact hx
 have hm:x.toNat * 2 ^ (32 - n) % 2 ^ 32=2 ^ (32 - n) * (x.toNat % 2 ^ n):=by
  rw [Nat.mul_comm,show (2:Nat) ^ 32=2 ^ (32 - n) * 2 ^ n from by rw [Nat.mul_comm,hp]]
  exact Nat.mul_mod_mul_left _ _ _
 rw [hm,← Nat.two_pow_add_eq_or_of_lt hb]
 omega
def j8d:Summ:=fun args _ _=>qdd args fun v u=>optC (uni v) (.stuck 760) fun x=>optC (litI u) (.stuck 760) fun n=>boolC (memN n qmo) (iwR (rrt x n)) (.stuck 760)
theorem j9d {n:Nat} (h:n∈qmo):2<=n/\n<=31:=by
 unfold qmo at h
 simp only [List.mem_cons,List.not_mem_nil,or_false] at h
 omega
theorem joo:q3a Tryz.prog 83 j8d:=by
 intro glob O w0 β H w base args vs hH hG ha
 refine qnb fun v u hv=>qja fun x hx=>qja fun n hn=>qfa fun hm => ?_
 rw [hv,qcq hx,qjf hn] at ha
 have hm:=memN_iff.1 hm
 obtain ⟨h1,h2⟩:=j9d hm
 obtain ⟨h3,h4⟩:=j7d x h1 h2
 have hb:=(rrt x n).isLt
 exact qkg q4c rfl 400 hH ⟨[],[],[iw x,.int .i64 (.lit (Int.ofNat n))]⟩ ha (q5c rfl) [] (by simp) (by simp) (j6d x hm) (all_cons h3 (all_cons ⟨by omega,by omega⟩ qaa)) fun _ _=>j4d rfl rfl (qvf (by show (((x >>> n).toNat:Int)+((qlo x n).toNat:Int))=((rrt x n).toNat:Int); omega)) rfl
def q3r (F:W32->W32->W32->W32):Summ:=fun args _ _=>qoc args fun a b c=>optC (uni a) (.stuck 761) fun x=>optC (uni b) (.stuck 761) fun y=>optC (uni c) (.stuck 761) fun z=>iwR (F x y z)
theorem qc3 {f:FuncId} {F:W32->W32->W32->W32} (hrun:∀ x y z:W32,∃ ps v,outP [] (qca cfg0 200 f [iw x,iw y,iw z] [])=(ps,some (.int .i64 v,[]))/\(∀ p∈ps,p)/\v.den=((F x y z).toNat:Int)):q3a Tryz.prog f (q3r F):=by
 intro glob O w0 β H w base args vs hH hG ha
 refine qcb fun a b c hv=>qja fun x hx=>qja fun y hy=>qja fun z hz => ?_
 rw [hv,qcq hx,qcq hy,qcq hz] at ha
 obtain ⟨ps,v,h1,h2,h3⟩:=hrun x y z
 exact qkg q4c rfl 200 hH ⟨[],[],[iw x,iw y,iw z]⟩ ha (q5c rfl) [] (by simp) (by simp) h1 h2 fun _ _=>j4d rfl rfl (qvf h3) rfl
theorem jlh (x y z:W32):outP [] (qca cfg0 200 85 [iw x,iw y,iw z] [])=([],some (iw (majW x y z),[])):=by kernel_rfl
theorem j2t:q3a Tryz.prog 85 (q3r majW):=qc3 fun x y z=>⟨_,_,jlh x y z,qaa,rfl⟩
def qb9 (e f g:W32):Int:=qtf .xor .i64 ((e &&& f).toNat:Int) (qtf .and .i64 (4294967295 - (e.toNat:Int)) (g.toNat:Int))
theorem jmh (x y z:W32):outP [] (qca cfg0 200 84 [iw x,iw y,iw z] [])=([qza (4294967295 - (x.toNat:Int))],some (.int .i64 (.sym (qb9 x y z)),[])):=by kernel_rfl
theorem jnh (x y z:W32):qb9 x y z=((qji x y z).toNat:Int):=by
 have hn:((BitVec.ofInt 32 4294967295 ^^^ x).toNat:Int)=4294967295 - (x.toNat:Int):=by
  have e:BitVec.ofInt 32 4294967295 ^^^ x = ~~~x:=by
   rw [show (BitVec.ofInt 32 4294967295:BitVec 32)=BitVec.allOnes 32 from by decide,BitVec.allOnes_xor]
  rw [e,BitVec.toNat_not]
  have:=x.isLt
  omega
 have h1:=q9o (op:=.and) (a:=BitVec.ofInt 32 4294967295 ^^^ x) (b:=z) rfl
 have h2:=q9o (op:=.xor) (a:=x &&& y) (b:=(BitVec.ofInt 32 4294967295 ^^^ x) &&& z) rfl
 rw [hn] at h1
 have h1:qtf .and .i64 (4294967295 - (x.toNat:Int)) (z.toNat:Int)=_:=Option.some.inj h1
 have h2:qtf .xor .i64 ((x &&& y).toNat:Int) (((BitVec.ofInt 32 4294967295 ^^^ x) &&& z).toNat:Int)=_:=Option.some.inj h2
 unfold qb9
 rw [h1]
 exact h2
theorem j3t:q3a Tryz.prog 84 (q3r qji):=qc3 fun x y z=>⟨_,_,jmh x y z,all_cons ⟨by have:=x.isLt; omega,by omega⟩ qaa,jnh x y z⟩
def cfgR1:Cfg:=cfgG qud (qbb [(83,j8d),(84,q3r qji),(85,q3r majW)])
theorem jpo:CfgOK cfgR1:=qwb (allS (joo _) (allS (j3t _) (allS (j2t _) (by simp))))
end
end Go.Proofs.YtcpafideogckmaaGreatDoor.Aes
