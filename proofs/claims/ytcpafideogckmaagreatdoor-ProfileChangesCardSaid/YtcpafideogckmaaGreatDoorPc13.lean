/-
  Texts behind one another: the symbolic simulator and what it is told of the program.
-/
import Derived.Test.YtcpafideogckmaaGreatDoorCzHas1
import Derived.Test.YtcpafideogckmaaGreatDoorCzHas2
namespace Go.Proofs.YtcpafideogckmaaGreatDoor.Aes
noncomputable section
open Go.Sim
open Go.Proofs
variable {α:Type}
def catF (X:Nat->BitVec 8) (n:Nat) (Y:Nat->BitVec 8):Nat->BitVec 8:=fun i=>if i<n then X i else Y (i - n)
def qok (R:Nat->BitVec 8) (u:Nat) (X:Nat->BitVec 8) (m:Nat):Nat->BitVec 8:=fun i=>if u<=i/\i<u+m then X (i - u) else R i
def qrl (R X:Nat->BitVec 8) (o m:Nat):Nat->BitVec 8:=fun i=>if i<m then X (o+i) else R i
def qdt (S:HSt) (X:Nat->BitVec 8):List W32:=cmpW (q0a S.ws) (q7a (qok S.R (S.n % 64) X (64 - S.n % 64)) 0)
def qoe (S:HSt) (X:Nat->BitVec 8) (m:Nat):HSt :=
 if S.n % 64=0 then ⟨S.K,qed S.ws X (m / 64),qrl S.R X (64 * (m / 64)) (m % 64),S.n+m⟩
 else if S.n % 64+m<64 then ⟨S.K,S.ws,qok S.R (S.n % 64) X m,S.n+m⟩
 else ⟨S.K,qed (qdt S X) (fun i=>X (64 - S.n % 64+i)) ((m - (64 - S.n % 64)) / 64),qrl (qok S.R (S.n % 64) X (64 - S.n % 64)) (fun i=>X (64 - S.n % 64+i)) (64 * ((m - (64 - S.n % 64)) / 64)) ((m - (64 - S.n % 64)) % 64),S.n+m⟩
structure Rep (S:HSt) (Y:Nat->BitVec 8) (N:Nat):Prop where
 n:S.n=N
 ws:q0a S.ws=q0a (qed qyc Y (N / 64))
 rest:∀ i,i<N % 64->S.R i=Y (64 * (N / 64)+i)
theorem qsn {W V:List W32} (h:q0a W=q0a V) (Y:Nat->BitVec 8):∀ k,q0a (qed W Y k)=q0a (qed V Y k)
 | 0=>h
 | k+1=>by rw [qac,qac,qsn h Y k]
theorem q7r (W:List W32) (Y:Nat->BitVec 8) (q:Nat):∀ k,qed W Y (q+k)=qed (qed W Y q) (fun i=>Y (64 * q+i)) k
 | 0=>rfl
 | k+1=>by
   rw [← Nat.add_assoc,qac,qac,q7r W Y q k]
   refine congrArg _ (q1b fun i _ => ?_)
   show Y _=Y _
   rw [show 64 * (q+k)+i=64 * q+(64 * k+i) from by omega]
theorem qni {X Y:Nat->BitVec 8} {n i:Nat} (h:i<n):catF X n Y i=X i:=by unfold catF; rw [if_pos h]
theorem qcj {X Y:Nat->BitVec 8} {n i:Nat} (h:n<=i):catF X n Y i=Y (i - n):=by unfold catF; rw [if_neg (by omega)]
theorem jle {S:HSt} {Y:Nat->BitVec 8} {N:Nat} (h:Rep S Y N) (X:Nat->BitVec 8) (m:Nat):Rep (qoe S X m) (catF Y N X) (N+m):=by
 obtain ⟨h1,h2,h3⟩:=h
 unfold qoe
 rw [h1]
 by_cases c1:N % 64=0
 . rw [if_pos c1]
   have e:(N+m) / 64=N / 64+m / 64:=by omega
   refine ⟨rfl,?_,fun i hi => ?_⟩
   . show q0a (qed S.ws X (m / 64))=_
     rw [e,q7r,qsn (h2.trans (congrArg q0a (qce (X:=Y) (Y:=catF Y N X) (N / 64) fun i hi=>(qni (by omega)).symm))) X]
     refine congrArg q0a (qce _ fun i hi => ?_)
     rw [qcj (by omega),show 64 * (N / 64)+i - N=i from by omega]
   . show qrl S.R X (64 * (m / 64)) (m % 64) i=_
     unfold qrl
     rw [if_pos (by omega),qcj (by omega),e]
     exact congrArg X (by omega)
 . rw [if_neg c1]
   by_cases c2:N % 64+m<64
   . rw [if_pos c2]
     have e:(N+m) / 64=N / 64:=by omega
     refine ⟨rfl,?_,fun i hi => ?_⟩
     . show q0a S.ws=_
       rw [e,h2]
       exact congrArg q0a (qce _ fun i hi=>(qni (by omega)).symm)
     . show qok S.R (N % 64) X m i=_
       unfold qok
       rw [e]
       by_cases c:i<N % 64
       . rw [if_neg (by omega),h3 i c,qni (by omega)]
       . rw [if_pos (by omega),qcj (by omega)]
         exact congrArg X (by omega)
   . rw [if_neg c2]
     have e:(N+m) / 64=N / 64+1+(m - (64 - N % 64)) / 64:=by omega
     refine ⟨rfl,?_,fun i hi => ?_⟩
     . show q0a (qed (qdt S X) (fun i=>X (64 - N % 64+i)) ((m - (64 - N % 64)) / 64))=_
       rw [e,q7r]
       have hf:q0a (qdt S X)=q0a (qed qyc (catF Y N X) (N / 64+1)):=by
        have e1:q0a S.ws=q0a (qed qyc (catF Y N X) (N / 64)):=h2.trans (congrArg q0a (qce (X:=Y) (Y:=catF Y N X) _ fun i hi=>(qni (by omega)).symm))
        have e2:q7a (qok S.R (N % 64) X (64 - N % 64)) 0=q7a (catF Y N X) (64 * (N / 64)):=by
         refine q1b fun i hi => ?_
         unfold qok
         rw [Nat.zero_add]
         by_cases c:i<N % 64
         . rw [if_neg (by omega),h3 i c,qni (by omega)]
         . rw [if_pos (by omega),qcj (by omega)]
           exact congrArg X (by omega)
        unfold qdt
        rw [h1,e1,e2,qac]
       rw [qsn hf]
       refine congrArg q0a (qce _ fun i hi => ?_)
       rw [qcj (by omega)]
       exact congrArg X (by omega)
     . dsimp only
       unfold qrl
       rw [if_pos (by omega),qcj (by omega),e]
       exact congrArg X (by omega)
def q30 (S:HSt):List W32:=cmpW (q0a S.ws) (q7a (qba (endL 64 S.R (S.n % 64) S.n)) 0)
def rstF (S:HSt):Nat->BitVec 8:=fun i=>qbv (q2b S) (136+i)
set_option maxRecDepth 100000 in
theorem j7o (S:HSt):mapN (fun i=>rstF S i) (q6a 64 0)=mapN (fun i=>S.R i) (q6a 64 0):=by kernel_rfl
theorem q95 (S:HSt) {i:Nat} (h:i<64):rstF S i=S.R i:=by
 have:=j7o S
 rw [qwa,qwa,List.map_inj_left] at this
 exact this i (by rw [q2c,List.mem_range'_1]; omega)
def q40 (S:HSt):List W32:=cmpW (q0a (cmpW (q0a S.ws) (q7a (qba (endL 128 (rstF S) (S.n % 64) S.n)) 0))) (q7a (qba (endL 128 (rstF S) (S.n % 64) S.n)) 64)
theorem qyu {S:HSt} {R:Nat->BitVec 8} {Y:Nat->BitVec 8} {N size:Nat} (hR:∀ i,i<64->R i=S.R i) (h:Rep S Y N) (hs:N % 64+9<=size) (hp:lenP N=64 * (N / 64)+size) {i:Nat} (hi:i<size) :
  qba (endL size R (S.n % 64) S.n) i=padF Y N N (64 * (N / 64)+i):=by
 obtain ⟨h1,h2,h3⟩:=h
 rw [h1,q7p hs hi]
 unfold padF
 rw [hp]
 by_cases c1:i<N % 64
 . rw [if_pos c1,if_pos (by omega),hR i (by omega),h3 i c1]
 . rw [if_neg c1,if_neg (show ¬ 64 * (N / 64)+i<N by omega)]
   by_cases c2:i=N % 64
   . rw [if_pos c2,if_pos (by omega)]
   . rw [if_neg c2,if_neg (show ¬ 64 * (N / 64)+i=N by omega)]
     by_cases c3:size<=i+8
     . rw [if_pos c3,if_pos (by omega),show 64 * (N / 64)+size - 1 - (64 * (N / 64)+i)=size - 1 - i from by omega]
     . rw [if_neg c3,if_neg (by omega)]
theorem qi3 {Y:Nat->BitVec 8} {N:Nat}:qed qyc (padF Y N N) (N / 64)=qed qyc Y (N / 64) :=
 qce _ fun i hi=>by unfold padF; rw [if_pos (by omega)]
theorem j6h {S:HSt} {Y:Nat->BitVec 8} {N:Nat} (h:Rep S Y N) (hl:N % 64+9<=64):qfe (q30 S)=shaF Y N:=by
 have hk:(N+72) / 64=N / 64+1:=by omega
 unfold shaF q30
 rw [hk,qac,qi3,h.ws]
 refine congrArg qfe (congrArg _ (q1b fun i hi => ?_))
 rw [Nat.zero_add]
 exact qyu (fun _ _=>rfl) h hl (by unfold lenP; omega) hi
theorem j7h {S:HSt} {Y:Nat->BitVec 8} {N:Nat} (h:Rep S Y N) (hl:64<N % 64+9):qfe (q40 S)=shaF Y N:=by
 have hk:(N+72) / 64=N / 64+2:=by omega
 unfold shaF q40
 rw [hk,qac,qac,qi3,h.ws]
 refine congrArg qfe (qkf (congrArg _ (q1b fun i hi => ?_)) (q1b fun i hi => ?_))
 . rw [Nat.zero_add]
   exact qyu (fun _ hi=>q95 S hi) h (by omega) (by unfold lenP; omega) (by omega)
 . rw [qyu (fun _ hi=>q95 S hi) h (by omega) (by unfold lenP; omega) (by omega),show 64 * (N / 64)+(64+i)=64 * (N / 64+1)+i from by omega]
def keyP (F:(Nat->BitVec 8)->Nat->List (BitVec 8)) (K:Nat->BitVec 8) (n:Nat) (i:Nat):BitVec 8:=if n<=64 then (if i<n then K i else 0#8) else if i<32 then qba (F K n) i else 0#8
def xorP (F:(Nat->BitVec 8)->Nat->List (BitVec 8)) (K:Nat->BitVec 8) (n:Nat) (b:BitVec 8) (i:Nat):BitVec 8:=keyP F K n i ^^^ b
def macB (F:(Nat->BitVec 8)->Nat->List (BitVec 8)) (K:Nat->BitVec 8) (n:Nat) (M:Nat->BitVec 8) (m:Nat):List (BitVec 8) :=
 F (catF (xorP F K n 0x5c#8) 64 (qba (F (catF (xorP F K n 0x36#8) 64 M) (64+m)))) 96
end
noncomputable section
open Go.Sim
open Go.Proofs
variable {α:Type}
set_option maxRecDepth 1000000
def cfgW:Cfg:=cfgG q3b (qbb [(115,qm9)])
theorem q7k:CfgOK cfgW:=qwb (allS jke (by simp))
def qj3 (o n m:Nat):List SV:=[.ptr ⟨4,.lit 0⟩,q10 5 o n m]
def macE (S:HSt):SO:=.own (.lst (q2b S)) true 142
def qk3 (S:HSt) (X:Nat->BitVec 8) (N:Nat):List SO:=qpc [macE S,rowF X N]
def mwT (st:Option (Nat × Nat)) (S:HSt) (X:Nat->BitVec 8) (N o n m:Nat):Tree:=qca (cfgW.at st) 4000 81 (qj3 o n m) (qk3 S X N)
def mwS0 (S:HSt) (X:Nat->BitVec 8) (N o n m:Nat):SS:=qah (mwT (some (2,3)) S X N o n m) [false,false]
structure MwA where
 p:Nat
 s:SN
 len:Nat
 cap:Nat
 ws:List W32
 R:Nat->BitVec 8
 K:Nat->BitVec 8
def mwC (S:HSt) (X:Nat->BitVec 8) (N o n m:Nat) (A:MwA):Cut :=
 ⟨q2f (mwS0 S X N o n m).frames [[(0,.ptr ⟨4,.lit 128⟩),(1,.tail ⟨5,.sym A.p⟩ A.s (.sym A.len) (.sym A.cap))],[]],
  [.ent q3f,.ent q4f,.ent anyR,.ent anyR,.ent (macE ⟨A.K,A.ws,A.R,S.n+n⟩),.ent (rowF X N)]⟩
def mwNs:List Nat:=q6a 6 0
def qcn (o n:Nat) (Y R:Nat->BitVec 8):Nat->BitVec 8:=fun j=>if o<=136+j/\136+j<o+n then Y (136+j - o) else R j
def apM (o n:Nat):Prop:=o+n<=202/\qsh o n [128,129,130,131,132,133,134,135,200,201]
def mwR1 (S:HSt) (X:Nat->BitVec 8) (o n:Nat):Nat->BitVec 8:=qcn (136+S.n % 64 * 1) n (fun i=>X (o+0+i)) S.R
def kC (o n:Nat) (Y K:Nat->BitVec 8):Nat->BitVec 8:=fun i=>if o<=i/\i<o+n then Y (i - o) else K i
def mwK1 (S:HSt) (X:Nat->BitVec 8) (o n:Nat):Nat->BitVec 8:=kC (136+S.n % 64 * 1) n (fun i=>X (o+0+i)) S.K
def mw0 (S:HSt) (n:Nat) (r:List Prop):List Prop:=(((S.n:Int) == 0)=false)::qza ((S.n:Int)+n)::r
def mwB (S:HSt) (X:Nat->BitVec 8) (N o n k:Nat) (b:Bool) (r:List Prop):List Prop :=
 mw0 S n ((decide (((S.n % 64:Nat):Int) > 0)=true)::(0<=((S.n % 64:Nat):Int)/\((S.n % 64:Nat):Int)<=64)::(decide (64=S.n % 64)=false)::(decide (n<=64 - S.n % 64)=b)::(o+0+k<=N/\IsB (qea X))::apM (136+S.n % 64 * 1) k::r)
section
variable (S:HSt) (X:Nat->BitVec 8) (N o n m:Nat) (A:MwA) (J:Junk) (z:Nat->Nat->Nat)
theorem j8h:outL [] (mwC S X N o n m ⟨o,.lit 0,n,m,S.ws,S.R,S.K⟩) mwNs (mwT (some (2,3)) S X N o n m) [false,false] z =
  (mw0 S n [decide (((S.n % 64:Nat):Int) > 0)=false],some (.inr (qhb mwNs 6 (mwC S X N o n m ⟨o,.lit 0,n,m,S.ws,S.R,S.K⟩)))):=by kernel_rfl
def mwQ (k:Nat) (u:Nat) (b:Bool) (r:List Prop):List Prop:=qza (((u:Nat):Int)+k)::(decide (((u:Nat):Int)+k<64)=b)::r
def mwS (k:Nat):List Prop:=[0<=((S.n+n:Nat):Int),0<n,0<=(k:Int)/\(k:Int)<=(n:Int)]
def mwW1 (k:Nat):List W32:=cmpW (q0a S.ws) (q7a (mwR1 S X o k) 0)
def mwA1 (k:Nat):MwA:=⟨o+0,.sym (k * 1),n - k,m - k,mwW1 S X o k,mwR1 S X o k,mwK1 S X o k⟩
theorem j9h:outL [] (mwC S X N o n m (mwA1 S X o n m n)) mwNs (mwT (some (2,3)) S X N o n m) [false,true,false,true,false] z =
  (mwB S X N o n n true (mwQ n (S.n % 64) false (mwS S n n)),some (.inr (qhb mwNs 6 (mwC S X N o n m (mwA1 S X o n m n))))):=by kernel_rfl
theorem jai:outL [] (mwC S X N o n m (mwA1 S X o n m (64 - S.n % 64))) mwNs (mwT (some (2,3)) S X N o n m) [false,true,false,false,false] z =
  (mwB S X N o n (64 - S.n % 64) false (mwQ (64 - S.n % 64) (S.n % 64) false (mwS S n (64 - S.n % 64))),some (.inr (qhb mwNs 6 (mwC S X N o n m (mwA1 S X o n m (64 - S.n % 64)))))):=by kernel_rfl
theorem jbi:outL [4] (mwC S X N o n m A) mwNs (mwT none S X N o n m) [false,true,false,true,true] z =
  (mwB S X N o n n true (mwQ n (S.n % 64) true []),some (.inl (.int .i64 (.lit 0),[some (macE ⟨mwK1 S X o n,S.ws,mwR1 S X o n,S.n+n⟩)]))):=by kernel_rfl
def jcu:List Prop:=[decide ((A.len:Int)>=64)=true,0<A.len,64<=A.cap,0<=((S.n+n:Nat):Int),IsB (qea X),A.p+A.s.den+0+64<=N,0<A.len,64<=A.len]
def jme:MwA:=⟨A.p+A.s.den,.lit 64,A.len - 64,A.cap - 64,cmpW (q0a A.ws) (q7a X (A.p+A.s.den+0)),A.R,A.K⟩
theorem j8o:outL [] (mwC S X N o n m A) mwNs (sim1 (cfgW.at (some (2,3))) 4000 ((mwC S X N o n m A).fill J)) [true] z =
  (jcu S X N n A,some (.inr (qhb mwNs 6 (mwC S X N o n m (jme X A))))):=by kernel_rfl
theorem jdu:outL [4] (mwC S X N o n m A) mwNs (sim1 (cfgW.at none) 4000 ((mwC S X N o n m A).fill J)) [false,true] z =
  ([decide ((A.len:Int)>=64)=false,decide (A.len<=64)=true,(A.p+A.s.den+A.len<=N/\IsB (qea X)),apM 136 A.len],some (.inl (.int .i64 (.lit 0),[some (macE ⟨A.K,A.ws,qcn 136 A.len (fun i=>X (A.p+A.s.den+i)) A.R,S.n+n⟩)]))):=by kernel_rfl
theorem qdq (B:MwA):boolC (qvb 6 mwNs (mwC S X N o n m A) (mwC S X N o n m B)) (allN qlb (mwC S X N o n m B).heap) false=true:=by kernel_rfl
end
end
noncomputable section
open Go.Sim
open Go.Proofs
variable {α:Type}
set_option maxRecDepth 1000000
theorem q8w {X Y:Nat->BitVec 8} {n:Nat} (h:∀ i,i<n->X i=Y i):tabB X n=tabB Y n:=by
 unfold tabB
 rw [qwa,qwa]
 apply List.map_congr_left
 intro i hi
 rw [q2c,List.mem_range'] at hi
 obtain ⟨j,hj,rfl⟩:=hi
 exact h _ (by omega)
theorem ql3 {S T:HSt} (hK:∀ i,i<128->S.K i=T.K i) (hw:q0a S.ws=q0a T.ws) (hR:∀ i,i<64->S.R i=T.R i) (hn:S.n=T.n):q2b S=q2b T:=by
 unfold q2b qfc
 rw [q8w hK,hw,q8w hR,hn]
theorem q1g {S T:HSt} (hK:∀ i,i<128->S.K i=T.K i) (hw:q0a S.ws=q0a T.ws) (hR:∀ i,i<64->S.R i=T.R i) (hn:S.n=T.n):macE S=macE T:=by
 unfold macE
 rw [ql3 hK hw hR hn]
theorem q9w {o n:Nat} (h:136<=o) (h2:o+n<=200):apM o n :=
 ⟨by omega,.inl (by omega),.inl (by omega),.inl (by omega),.inl (by omega),.inl (by omega),.inl (by omega),.inl (by omega),.inl (by omega),.inr (by omega),.inr (by omega),trivial⟩
structure MwQ (S:HSt) (X:Nat->BitVec 8) (o n m c:Nat) (W1:List W32) (R1:Nat->BitVec 8) (A:MwA) (k:Nat):Prop where
 le:64 * k<=n - c
 at_:A.p+A.s.den=o+c+64 * k
 len:A.len=n - c - 64 * k
 cap:A.cap=m - c - 64 * k
 ws:A.ws=qed W1 (fun i=>X (o+c+i)) k
 R:A.R=R1
 K:∀ i,i<128->A.K i=S.K i
def mwF (S:HSt) (X:Nat->BitVec 8) (o n c:Nat) (W1:List W32) (R1:Nat->BitVec 8):HSt:=⟨S.K,qed W1 (fun i=>X (o+c+i)) ((n - c) / 64),qrl R1 (fun i=>X (o+c+i)) (64 * ((n - c) / 64)) ((n - c) % 64),S.n+n⟩
theorem jeu {S:HSt} {X:Nat->BitVec 8} {o n m c:Nat} {W1:List W32} {R1:Nat->BitVec 8} {A:MwA} {k:Nat} (h:MwQ S X o n m c W1 R1 A k) (hl:A.len<64) :
  macE ⟨A.K,A.ws,qcn 136 A.len (fun i=>X (A.p+A.s.den+i)) A.R,S.n+n⟩=macE (mwF S X o n c W1 R1):=by
 obtain ⟨h1,h2,h3,h4,h5,h6,h7⟩:=h
 have hk:(n - c) / 64=k:=by omega
 refine q1g h7 ?_ (fun i hi => ?_) rfl
 . show q0a A.ws=q0a (qed W1 _ ((n - c) / 64))
   rw [h5,hk]
 . unfold mwF
   dsimp only
   unfold qcn qrl
   rw [h6,hk,h2]
   by_cases c1:i<A.len
   . rw [if_pos (by omega),if_pos (by omega)]
     exact congrArg X (by omega)
   . rw [if_neg (by omega),if_neg (by omega)]
theorem qa6 {S:HSt} {X:Nat->BitVec 8} {N o n m c:Nat} {W1:List W32} {R1:Nat->BitVec 8} {A:MwA} {k:Nat} (hN:o+n<=N) (hm:n<=m) (hc:c<=n) (hQ:MwQ S X o n m c W1 R1 A k) (J:Junk) :
  qio cfgW 6 (mwC S X N o n m) (fun a'=>(∃ k,MwQ S X o n m c W1 R1 a' k)/\a'.len<A.len) (fun v H=>v=.int .i64 (.lit 0)/\H[4]? = some (macE (mwF S X o n c W1 R1))) ((mwC S X N o n m A).fill J):=by
 obtain ⟨h1,h2,h3,h4,h5,h6,h7⟩:=id hQ
 by_cases c1:64<=A.len
 . refine qjo (some (2,3)) 4000 (jme X A) ⟨⟨k+1,by omega,by show A.p+A.s.den+64=_; omega,by show A.len - 64=_; omega,by show A.cap - 64=_; omega,?_,h6,h7⟩,by show A.len - 64<A.len; omega⟩ (j8o S X N o n m A J) (qdq S X N o n m _ _) ?_
   . rw [qac]
     refine qkf h5 (q1b fun i hi => ?_)
     exact congrArg X (by omega)
   . exact all_cons (decide_eq_true (by omega)) (all_cons (by omega) (all_cons (by omega) (all_cons (by omega) (all_cons (qda X) (all_cons (by omega) (all_cons (by omega) (all_cons (by omega) qaa)))))))
 . refine qti none 4000 (jdu S X N o n m A J) ?_ fun H hH=>⟨rfl,?_⟩
   . exact all_cons (decide_eq_false (by omega)) (all_cons (decide_eq_true (by omega)) (all_cons ⟨by omega,qda X⟩ (all_cons (q9w (by omega) (by omega)) qaa)))
   . rw [← jeu hQ (by omega)]
     exact (List.cons.inj hH).1
theorem qb6 {S:HSt} {n:Nat} {r:List Prop} (h0:0<S.n) (hb:S.n+n<=1152921504606846976) (hr:∀ p∈r,p):∀ p∈mw0 S n r,p :=
 all_cons (by rw [beq_eq_false_iff_ne]; omega) (all_cons ⟨by omega,by omega⟩ hr)
theorem qky {S:HSt} {X:Nat->BitVec 8} {N o n k:Nat} {b:Bool} {r:List Prop} (h0:0<S.n) (hb:S.n+n<=1152921504606846976) (hu:S.n % 64≠0) (hbb:decide (n<=64 - S.n % 64)=b) (hk:o+k<=N) (hk2:S.n % 64+k<=64) (hr:∀ p∈r,p):∀ p∈mwB S X N o n k b r,p :=
 qb6 h0 hb (all_cons (decide_eq_true (by omega)) (all_cons ⟨by omega,by omega⟩ (all_cons (decide_eq_false (by omega)) (all_cons hbb (all_cons ⟨by omega,qda X⟩ (all_cons (q9w (by omega) (by omega)) hr))))))
theorem qly {S:HSt} {X:Nat->BitVec 8} {o k:Nat} (j:Nat):mwR1 S X o k j=qok S.R (S.n % 64) (fun i=>X (o+i)) k j:=by
 unfold mwR1 qcn qok
 by_cases c:S.n % 64<=j/\j<S.n % 64+k
 . rw [if_pos (by omega),if_pos c]
   exact congrArg X (by omega)
 . rw [if_neg (by omega),if_neg c]
theorem qmy {S:HSt} {X:Nat->BitVec 8} {o k:Nat} (j:Nat) (hj:j<128):mwK1 S X o k j=S.K j:=by
 unfold mwK1 kC
 rw [if_neg (by omega)]
theorem j9o {S:HSt} {X:Nat->BitVec 8} {N o n m:Nat} (hN:o+n<=N) (hm:n<=m) (h0:0<S.n) (hb:S.n+n<=1152921504606846976) :
  Runs cfgW 81 (qj3 o n m) (qk3 S X N) fun v H=>v=.int .i64 (.lit 0)/\H[4]? = some (macE (qoe S (fun i=>X (o+i)) n)):=by
 have hglob:∀ g nm,cfgW.glob g=some nm->nm<(qk3 S X N).length:=fun g nm hg=>Nat.lt_of_lt_of_le (q8p hg) (by show 2<=6; omega)
 by_cases hu:S.n % 64=0
 . have e:macE (qoe S (fun i=>X (o+i)) n)=macE (mwF S X o n 0 S.ws S.R):=by
    unfold qoe
    rw [if_pos hu]
    rfl
   rw [e]
   refine qng q7k (mwC S X N o n m) (fun A=>∃ k,MwQ S X o n m 0 S.ws S.R A k) (fun A=>A.len) hglob ?_ fun A ⟨k,hQ⟩ J=>qa6 hN hm (Nat.zero_le _) hQ J
   exact q3p (some (2,3)) 4000 ⟨o,.lit 0,n,m,S.ws,S.R,S.K⟩ ⟨0,Nat.zero_le _,rfl,rfl,rfl,rfl,rfl,fun _ _=>rfl⟩ (j8h S X N o n m) (qdq S X N o n m _ _) (qb6 h0 hb (all_cons (decide_eq_false (by omega)) qaa))
 . by_cases hs:S.n % 64+n<64
   . have e:macE ⟨mwK1 S X o n,S.ws,mwR1 S X o n,S.n+n⟩=macE (qoe S (fun i=>X (o+i)) n):=by
      unfold qoe
      rw [if_neg hu,if_pos hs]
      exact q1g (fun i hi=>qmy i hi) rfl (fun i _=>qly i) rfl
     rw [← e]
     refine qng q7k (mwC S X N o n m) (fun _=>False) (fun A=>A.len) hglob ?_ fun A h J=>h.elim
     refine jwd none 4000 (jbi S X N o n m ⟨0,.lit 0,0,0,[],S.R,S.K⟩) ?_ fun H hH=>⟨rfl,(List.cons.inj hH).1⟩
     exact qky h0 hb hu (decide_eq_true (by omega)) hN (by omega) (all_cons ⟨by omega,by omega⟩ (all_cons (decide_eq_true (by omega)) qaa))
   . have hc:64 - S.n % 64<=n:=by omega
     have e:macE (qoe S (fun i=>X (o+i)) n)=macE (mwF S X o n (64 - S.n % 64) (mwW1 S X o (64 - S.n % 64)) (mwR1 S X o (64 - S.n % 64))):=by
      have ew:mwW1 S X o (64 - S.n % 64)=qdt S (fun i=>X (o+i)):=by
       unfold mwW1 qdt
       rw [q1b (X:=mwR1 S X o (64 - S.n % 64)) (b:=0) fun i _=>qly (0+i)]
      unfold qoe mwF
      rw [if_neg hu,if_neg hs,ew]
      refine q1g (fun _ _=>rfl) (congrArg q0a (qce _ fun i _ => ?_)) (fun i _ => ?_) rfl
      . exact congrArg X (by omega)
      . dsimp only
        unfold qrl
        by_cases c1:i<(n - (64 - S.n % 64)) % 64
        . rw [if_pos c1,if_pos c1]
          exact congrArg X (by omega)
        . rw [if_neg c1,if_neg c1,qly]
     rw [e]
     refine qng q7k (mwC S X N o n m) (fun A=>∃ k,MwQ S X o n m (64 - S.n % 64) (mwW1 S X o (64 - S.n % 64)) (mwR1 S X o (64 - S.n % 64)) A k) (fun A=>A.len) hglob ?_ fun A ⟨k,hQ⟩ J=>qa6 hN hm hc hQ J
     by_cases he:n<=64 - S.n % 64
     . have hen:n=64 - S.n % 64:=by omega
       refine q3p (some (2,3)) 4000 (mwA1 S X o n m n) ⟨0,Nat.zero_le _,?_,?_,?_,?_,?_,fun i hi=>qmy i hi⟩ (j9h S X N o n m) (qdq S X N o n m _ _) ?_
       . show o+0+n * 1=_; omega
       . show n - n=_; omega
       . show m - n=_; omega
       . show mwW1 S X o n=_; rw [← hen]; rfl
       . show mwR1 S X o n=_; rw [← hen]
       . exact qky h0 hb hu (decide_eq_true he) hN (by omega) (all_cons ⟨by omega,by omega⟩ (all_cons (decide_eq_false (by omega)) (all_cons (by omega) (all_cons (by omega) (all_cons ⟨by omega,by omega⟩ qaa)))))
     . refine q3p (some (2,3)) 4000 (mwA1 S X o n m (64 - S.n % 64)) ⟨0,Nat.zero_le _,?_,?_,?_,rfl,rfl,fun i hi=>qmy i hi⟩ (jai S X N o n m) (qdq S X N o n m _ _) ?_
       . show o+0+(64 - S.n % 64) * 1=_; omega
       . show n - (64 - S.n % 64)=_; omega
       . show m - (64 - S.n % 64)=_; omega
       . exact qky h0 hb hu (decide_eq_false he) (by omega) (by omega) (all_cons ⟨by omega,by omega⟩ (all_cons (decide_eq_false (by omega)) (all_cons (by omega) (all_cons (by omega) (all_cons ⟨by omega,by omega⟩ qaa)))))
end
noncomputable section
open Go.Sim
open Go.Proofs
variable {α:Type}
set_option maxRecDepth 1000000
def hsT (S:HSt):Tree:=qca cfgW 8000 104 [.ptr ⟨4,.lit 128⟩] (qpc [.row (.lst (q2b S))])
def fiT (S:HSt) (Y:Nat->BitVec 8):Tree:=qca cfgW 8000 103 [.ptr ⟨4,.lit 0⟩,.agg (bx (tabB Y 32))] (qpc [.row (.lst (q2b S))])
def hsC (S:HSt) (b:Bool) (sz:Nat) (r:List Prop):List Prop :=
 (((S.n:Int) == 0)=false)::(0<=((S.n % 64:Nat):Int)/\((S.n % 64:Nat):Int)<=64)::(0<=((S.n % 64:Nat):Int)/\((S.n % 64:Nat):Int)<=((S.n % 64:Nat):Int))::(decide (((S.n % 64:Nat):Int)>=64)=false)::qza (((S.n % 64:Nat):Int)+9)::(decide (((S.n % 64:Nat):Int)+9 > 64)=b)::apM 136 (S.n % 64)::(S.n % 64<=sz)::(0+S.n % 64<=sz)::(0<=((S.n % 64:Nat):Int)/\((S.n % 64:Nat):Int)<(sz:Int))::(0+(((S.n % 64:Nat):Int)).toNat * 1+1<=sz)::r
def finW (K Y:Nat->BitVec 8):List W32:=cmpW (q0a (cmpW (q0a qyc) (q7a K 0))) (q7a (qba (endL 64 Y 32 96)) 0)
section
variable (S:HSt) (Y:Nat->BitVec 8)
theorem jap:outO [] (hsT S) [false,false,false]=(hsC S false 64 [0+64<=64],some (.agg (bx (qfe (q30 S))),[])):=by kernel_rfl
theorem jbp:outO [] (hsT S) [false,false,true]=(hsC S true 128 [0+64<=128,64+64<=128],some (.agg (bx (qfe (q40 S))),[])):=by kernel_rfl
def fiC:List Prop:=[(0:Int)<=64,0<=(S.n:Int),false=false,qza 96,false=false,false=false,(0:Int)<=32/\(32:Int)<=64,(0:Int)<=32/\(32:Int)<=32,false=false,qza 41,false=false,(40<=73/\qsh 8 32 [0,1,2,3,4,5,6,7,72]),32<=64,32<=64,(0:Int)<=32/\(32:Int)<64,33<=64,64<=64]
theorem jfu:outO [] (fiT S Y) [false,false,false,false,false]=(fiC S,some (.agg (bx (qfe (finW S.K Y))),[])):=by kernel_rfl
end
end
end Go.Proofs.YtcpafideogckmaaGreatDoor.Aes
