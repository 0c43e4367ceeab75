/-
  Texts behind one another: the symbolic simulator and what it is told of the program.
-/
import Derived.Test.YtbmgahpjgefjaaaGreatDoorOzHas1
import Derived.Test.YtbmgahpjgefjaaaGreatDoorOzHas2
namespace Go.Proofs.YtbmgahpjgefjaaaGreatDoor.Aes
open Go.Sim
open Go.Proofs
variable {α:Type}
def catF (X:Nat→BitVec 8) (n:Nat) (Y:Nat→BitVec 8):Nat→BitVec 8:=fun i=>if i<n then X i else Y (i - n)
noncomputable def qhk (R:Nat→BitVec 8) (u:Nat) (X:Nat→BitVec 8) (m:Nat):Nat→BitVec 8:=fun i=>if u≤i∧i<u+m then X (i - u) else R i
noncomputable def qml (R X:Nat→BitVec 8) (o m:Nat):Nat→BitVec 8:=fun i=>if i<m then X (o+i) else R i
noncomputable def qzs (S:HSt) (X:Nat→BitVec 8):List W32:=cmpW (q0a S.ws) (q6a (qhk S.R (S.n % 64) X (64 - S.n % 64)) 0)
noncomputable def qle (S:HSt) (X:Nat→BitVec 8) (m:Nat):HSt :=
  if S.n % 64=0 then ⟨S.K,qdd S.ws X (m / 64),qml S.R X (64 * (m / 64)) (m % 64),S.n+m⟩
  else if S.n % 64+m<64 then ⟨S.K,S.ws,qhk S.R (S.n % 64) X m,S.n+m⟩
  else ⟨S.K,qdd (qzs S X) (fun i=>X (64 - S.n % 64+i)) ((m - (64 - S.n % 64)) / 64),qml (qhk S.R (S.n % 64) X (64 - S.n % 64)) (fun i=>X (64 - S.n % 64+i)) (64 * ((m - (64 - S.n % 64)) / 64)) ((m - (64 - S.n % 64)) % 64),S.n+m⟩
structure Rep (S:HSt) (Y:Nat→BitVec 8) (N:Nat):Prop where
  n:S.n=N
  ws:q0a S.ws=q0a (qdd qwc Y (N / 64))
  rest:∀ i,i<N % 64→S.R i=Y (64 * (N / 64)+i)
theorem qon {W V:List W32} (h:q0a W=q0a V) (Y:Nat→BitVec 8):∀ k,q0a (qdd W Y k)=q0a (qdd V Y k)
  | 0=>h
  | k+1=>by rw [qac,qac,qon h Y k]
theorem qyr (W:List W32) (Y:Nat→BitVec 8) (q:Nat):∀ k,qdd W Y (q+k)=qdd (qdd W Y q) (fun i=>Y (64 * q+i)) k
  | 0=>rfl
  | k+1=>by
    rw [← Nat.add_assoc,qac,qac,qyr W Y q k]
    refine congrArg _ (q0b fun i _ => ?_)
    show Y _=Y _
    rw [show 64 * (q+k)+i=64 * q+(64 * k+i) from by omega]
theorem qgi {X Y:Nat→BitVec 8} {n i:Nat} (h:i<n):catF X n Y i=X i:=by unfold catF; rw [if_pos h]
theorem q5i {X Y:Nat→BitVec 8} {n i:Nat} (h:n≤i):catF X n Y i=Y (i - n):=by unfold catF; rw [if_neg (by omega)]
theorem j6d {S:HSt} {Y:Nat→BitVec 8} {N:Nat} (h:Rep S Y N) (X:Nat→BitVec 8) (m:Nat):Rep (qle S X m) (catF Y N X) (N+m):=by
  obtain ⟨h1,h2,h3⟩:=h
  unfold qle
  rw [h1]
  by_cases c1:N % 64=0
  · rw [if_pos c1]
    have e:(N+m) / 64=N / 64+m / 64:=by omega
    refine ⟨rfl,?_,fun i hi => ?_⟩
    · show q0a (qdd S.ws X (m / 64))=_
      rw [e,qyr,qon (h2.trans (congrArg q0a (qae (X:=Y) (Y:=catF Y N X) (N / 64) fun i hi=>(qgi (by omega)).symm))) X]
      refine congrArg q0a (qae _ fun i hi => ?_)
      rw [q5i (by omega),show 64 * (N / 64)+i - N=i from by omega]
    · show qml S.R X (64 * (m / 64)) (m % 64) i=_
      unfold qml
      rw [if_pos (by omega),q5i (by omega),e]
      exact congrArg X (by omega)
  · rw [if_neg c1]
    by_cases c2:N % 64+m<64
    · rw [if_pos c2]
      have e:(N+m) / 64=N / 64:=by omega
      refine ⟨rfl,?_,fun i hi => ?_⟩
      · show q0a S.ws=_
        rw [e,h2]
        exact congrArg q0a (qae _ fun i hi=>(qgi (by omega)).symm)
      · show qhk S.R (N % 64) X m i=_
        unfold qhk
        rw [e]
        by_cases c:i<N % 64
        · rw [if_neg (by omega),h3 i c,qgi (by omega)]
        · rw [if_pos (by omega),q5i (by omega)]
          exact congrArg X (by omega)
    · rw [if_neg c2]
      have e:(N+m) / 64=N / 64+1+(m - (64 - N % 64)) / 64:=by omega
      refine ⟨rfl,?_,fun i hi => ?_⟩
      · show q0a (qdd (qzs S X) (fun i=>X (64 - N % 64+i)) ((m - (64 - N % 64)) / 64))=_
        rw [e,qyr]
        have hf:q0a (qzs S X)=q0a (qdd qwc (catF Y N X) (N / 64+1)):=by
          have e1:q0a S.ws=q0a (qdd qwc (catF Y N X) (N / 64)):=h2.trans (congrArg q0a (qae (X:=Y) (Y:=catF Y N X) _ fun i hi=>(qgi (by omega)).symm))
          have e2:q6a (qhk S.R (N % 64) X (64 - N % 64)) 0=q6a (catF Y N X) (64 * (N / 64)):=by
            refine q0b fun i hi => ?_
            unfold qhk
            rw [Nat.zero_add]
            by_cases c:i<N % 64
            · rw [if_neg (by omega),h3 i c,qgi (by omega)]
            · rw [if_pos (by omega),q5i (by omega)]
              exact congrArg X (by omega)
          unfold qzs
          rw [h1,e1,e2,qac]
        rw [qon hf]
        refine congrArg q0a (qae _ fun i hi => ?_)
        rw [q5i (by omega)]
        exact congrArg X (by omega)
      · dsimp only
        unfold qml
        rw [if_pos (by omega),q5i (by omega),e]
        exact congrArg X (by omega)
noncomputable def qv0 (S:HSt):List W32:=cmpW (q0a S.ws) (q6a (qaa (endL 64 S.R (S.n % 64) S.n)) 0)
noncomputable def rstF (S:HSt):Nat→BitVec 8:=fun i=>qtu (q1b S) (136+i)
set_option maxRecDepth 100000 in
theorem jko (S:HSt):mapN (fun i=>rstF S i) (q5a 64 0)=mapN (fun i=>S.R i) (q5a 64 0):=by kernel_rfl
theorem q55 (S:HSt) {i:Nat} (h:i<64):rstF S i=S.R i:=by
  have:=jko S
  rw [qwa,qwa,List.map_inj_left] at this
  exact this i (by rw [q0c,List.mem_range'_1]; omega)
noncomputable def qw0 (S:HSt):List W32:=cmpW (q0a (cmpW (q0a S.ws) (q6a (qaa (endL 128 (rstF S) (S.n % 64) S.n)) 0))) (q6a (qaa (endL 128 (rstF S) (S.n % 64) S.n)) 64)
theorem qfu {S:HSt} {R:Nat→BitVec 8} {Y:Nat→BitVec 8} {N size:Nat} (hR:∀ i,i<64→R i=S.R i) (h:Rep S Y N) (hs:N % 64+9≤size) (hp:lenP N=64 * (N / 64)+size) {i:Nat} (hi:i<size) :
    qaa (endL size R (S.n % 64) S.n) i=padF Y N N (64 * (N / 64)+i):=by
  obtain ⟨h1,h2,h3⟩:=h
  rw [h1,q1p hs hi]
  unfold padF
  rw [hp]
  by_cases c1:i<N % 64
  · rw [if_pos c1,if_pos (by omega),hR i (by omega),h3 i c1]
  · rw [if_neg c1,if_neg (show ¬ 64 * (N / 64)+i<N by omega)]
    by_cases c2:i=N % 64
    · rw [if_pos c2,if_pos (by omega)]
    · rw [if_neg c2,if_neg (show ¬ 64 * (N / 64)+i=N by omega)]
      by_cases c3:size≤i+8
      · rw [if_pos c3,if_pos (by omega),show 64 * (N / 64)+size - 1 - (64 * (N / 64)+i)=size - 1 - i from by omega]
      · rw [if_neg c3,if_neg (by omega)]
theorem qd3 {Y:Nat→BitVec 8} {N:Nat}:qdd qwc (padF Y N N) (N / 64)=qdd qwc Y (N / 64) :=
  qae _ fun i hi=>by unfold padF; rw [if_pos (by omega)]
theorem jqh {S:HSt} {Y:Nat→BitVec 8} {N:Nat} (h:Rep S Y N) (hl:N % 64+9≤64):qde (qv0 S)=shaF Y N:=by
  have hk:(N+72) / 64=N / 64+1:=by omega
  unfold shaF qv0
  rw [hk,qac,qd3,h.ws]
  refine congrArg qde (congrArg _ (q0b fun i hi => ?_))
  rw [Nat.zero_add]
  exact qfu (fun _ _=>rfl) h hl (by unfold lenP; omega) hi
theorem jrh {S:HSt} {Y:Nat→BitVec 8} {N:Nat} (h:Rep S Y N) (hl:64<N % 64+9):qde (qw0 S)=shaF Y N:=by
  have hk:(N+72) / 64=N / 64+2:=by omega
  unfold shaF qw0
  rw [hk,qac,qac,qd3,h.ws]
  refine congrArg qde (qjf (congrArg _ (q0b fun i hi => ?_)) (q0b fun i hi => ?_))
  · rw [Nat.zero_add]
    exact qfu (fun _ hi=>q55 S hi) h (by omega) (by unfold lenP; omega) (by omega)
  · rw [qfu (fun _ hi=>q55 S hi) h (by omega) (by unfold lenP; omega) (by omega),show 64 * (N / 64)+(64+i)=64 * (N / 64+1)+i from by omega]
noncomputable def keyP (F:(Nat→BitVec 8)→Nat→List (BitVec 8)) (K:Nat→BitVec 8) (n:Nat) (i:Nat):BitVec 8:=if n≤64 then (if i<n then K i else 0#8) else if i<32 then qaa (F K n) i else 0#8
noncomputable def xorP (F:(Nat→BitVec 8)→Nat→List (BitVec 8)) (K:Nat→BitVec 8) (n:Nat) (b:BitVec 8) (i:Nat):BitVec 8:=keyP F K n i ^^^ b
noncomputable def macB (F:(Nat→BitVec 8)→Nat→List (BitVec 8)) (K:Nat→BitVec 8) (n:Nat) (M:Nat→BitVec 8) (m:Nat):List (BitVec 8) :=
  F (catF (xorP F K n 0x5c#8) 64 (qaa (F (catF (xorP F K n 0x36#8) 64 M) (64+m)))) 96
end Go.Proofs.YtbmgahpjgefjaaaGreatDoor.Aes
namespace Go.Proofs.YtbmgahpjgefjaaaGreatDoor.Aes
open Go.Sim
open Go.Proofs
variable {α:Type}
set_option maxRecDepth 1000000
noncomputable def cfgW:Cfg:=cfgG q6b (qbb [(127,qf9)])
theorem q2k:CfgOK cfgW:=q2b (allS j5d (by simp))
noncomputable def qe3 (o n m:Nat):List SV:=[.ptr ⟨4,.lit 0⟩,qt0 5 o n m]
noncomputable def macE (S:HSt):SO:=.own (.lst (q1b S)) true 141
noncomputable def qf3 (S:HSt) (X:Nat→BitVec 8) (N:Nat):List SO:=q5c [macE S,rowF X N]
noncomputable def mwT (st:Option (Nat × Nat)) (S:HSt) (X:Nat→BitVec 8) (N o n m:Nat):Tree:=qca (cfgW.at st) 4000 80 (qe3 o n m) (qf3 S X N)
noncomputable def mwS0 (S:HSt) (X:Nat→BitVec 8) (N o n m:Nat):SS:=q4g (mwT (some (2,3)) S X N o n m) [false,false]
structure MwA where
  p:Nat
  s:SN
  len:Nat
  cap:Nat
  ws:List W32
  R:Nat→BitVec 8
  K:Nat→BitVec 8
noncomputable def mwC (S:HSt) (X:Nat→BitVec 8) (N o n m:Nat) (A:MwA):Cut :=
  ⟨qvf (mwS0 S X N o n m).frames [[(0,.ptr ⟨4,.lit 128⟩),(1,.tail ⟨5,.sym A.p⟩ A.s (.sym A.len) (.sym A.cap))],[]],
   [.ent qwf,.ent qxf,.ent anyR,.ent anyR,.ent (macE ⟨A.K,A.ws,A.R,S.n+n⟩),.ent (rowF X N)]⟩
noncomputable def mwNs:List Nat:=q5a 6 0
noncomputable def qan (o n:Nat) (Y R:Nat→BitVec 8):Nat→BitVec 8:=fun j=>if o≤136+j∧136+j<o+n then Y (136+j - o) else R j
noncomputable def apM (o n:Nat):Prop:=o+n≤202∧qlh o n [128,129,130,131,132,133,134,135,200,201]
noncomputable def mwR1 (S:HSt) (X:Nat→BitVec 8) (o n:Nat):Nat→BitVec 8:=qan (136+S.n % 64 * 1) n (fun i=>X (o+0+i)) S.R
noncomputable def kC (o n:Nat) (Y K:Nat→BitVec 8):Nat→BitVec 8:=fun i=>if o≤i∧i<o+n then Y (i - o) else K i
noncomputable def mwK1 (S:HSt) (X:Nat→BitVec 8) (o n:Nat):Nat→BitVec 8:=kC (136+S.n % 64 * 1) n (fun i=>X (o+0+i)) S.K
noncomputable def mw0 (S:HSt) (n:Nat) (r:List Prop):List Prop:=(((S.n:Int) == 0)=false)::qza ((S.n:Int)+n)::r
noncomputable def mwB (S:HSt) (X:Nat→BitVec 8) (N o n k:Nat) (b:Bool) (r:List Prop):List Prop :=
  mw0 S n ((decide (((S.n % 64:Nat):Int) > 0)=true)::(0≤((S.n % 64:Nat):Int)∧((S.n % 64:Nat):Int)≤64)::(decide (64=S.n % 64)=false)::(decide (n≤64 - S.n % 64)=b)::(o+0+k≤N∧IsB (qda X))::apM (136+S.n % 64 * 1) k::r)
section
variable (S:HSt) (X:Nat→BitVec 8) (N o n m:Nat) (A:MwA) (J:Junk) (z:Nat→Nat→Nat)
theorem jsh:outL [] (mwC S X N o n m ⟨o,.lit 0,n,m,S.ws,S.R,S.K⟩) mwNs (mwT (some (2,3)) S X N o n m) [false,false] z =
    (mw0 S n [decide (((S.n % 64:Nat):Int) > 0)=false],some (.inr (qfb mwNs 6 (mwC S X N o n m ⟨o,.lit 0,n,m,S.ws,S.R,S.K⟩)))):=by kernel_rfl
noncomputable def mwQ (k:Nat) (u:Nat) (b:Bool) (r:List Prop):List Prop:=qza (((u:Nat):Int)+k)::(decide (((u:Nat):Int)+k<64)=b)::r
noncomputable def mwS (k:Nat):List Prop:=[0≤((S.n+n:Nat):Int),0<n,0≤(k:Int)∧(k:Int)≤(n:Int)]
noncomputable def mwW1 (k:Nat):List W32:=cmpW (q0a S.ws) (q6a (mwR1 S X o k) 0)
noncomputable def mwA1 (k:Nat):MwA:=⟨o+0,.sym (k * 1),n - k,m - k,mwW1 S X o k,mwR1 S X o k,mwK1 S X o k⟩
theorem jth:outL [] (mwC S X N o n m (mwA1 S X o n m n)) mwNs (mwT (some (2,3)) S X N o n m) [false,true,false,true,false] z =
    (mwB S X N o n n true (mwQ n (S.n % 64) false (mwS S n n)),some (.inr (qfb mwNs 6 (mwC S X N o n m (mwA1 S X o n m n))))):=by kernel_rfl
theorem juh:outL [] (mwC S X N o n m (mwA1 S X o n m (64 - S.n % 64))) mwNs (mwT (some (2,3)) S X N o n m) [false,true,false,false,false] z =
    (mwB S X N o n (64 - S.n % 64) false (mwQ (64 - S.n % 64) (S.n % 64) false (mwS S n (64 - S.n % 64))),some (.inr (qfb mwNs 6 (mwC S X N o n m (mwA1 S X o n m (64 - S.n % 64)))))):=by kernel_rfl
theorem jvh:outL [4] (mwC S X N o n m A) mwNs (mwT none S X N o n m) [false,true,false,true,true] z =
    (mwB S X N o n n true (mwQ n (S.n % 64) true []),some (.inl (.int .i64 (.lit 0),[some (macE ⟨mwK1 S X o n,S.ws,mwR1 S X o n,S.n+n⟩)]))):=by kernel_rfl
noncomputable def jet:List Prop:=[decide ((A.len:Int)≥64)=true,0<A.len,64≤A.cap,0≤((S.n+n:Nat):Int),IsB (qda X),A.p+A.s.den+0+64≤N,0<A.len,64≤A.len]
noncomputable def j7d:MwA:=⟨A.p+A.s.den,.lit 64,A.len - 64,A.cap - 64,cmpW (q0a A.ws) (q6a X (A.p+A.s.den+0)),A.R,A.K⟩
theorem jlo:outL [] (mwC S X N o n m A) mwNs (sim1 (cfgW.at (some (2,3))) 4000 ((mwC S X N o n m A).fill J)) [true] z =
    (jet S X N n A,some (.inr (qfb mwNs 6 (mwC S X N o n m (j7d X A))))):=by kernel_rfl
theorem jft:outL [4] (mwC S X N o n m A) mwNs (sim1 (cfgW.at none) 4000 ((mwC S X N o n m A).fill J)) [false,true] z =
    ([decide ((A.len:Int)≥64)=false,decide (A.len≤64)=true,(A.p+A.s.den+A.len≤N∧IsB (qda X)),apM 136 A.len],some (.inl (.int .i64 (.lit 0),[some (macE ⟨A.K,A.ws,qan 136 A.len (fun i=>X (A.p+A.s.den+i)) A.R,S.n+n⟩)]))):=by kernel_rfl
theorem q7p (B:MwA):boolC (qub 6 mwNs (mwC S X N o n m A) (mwC S X N o n m B)) (allN qlb (mwC S X N o n m B).heap) false=true:=by kernel_rfl
end
end Go.Proofs.YtbmgahpjgefjaaaGreatDoor.Aes
namespace Go.Proofs.YtbmgahpjgefjaaaGreatDoor.Aes
open Go.Sim
open Go.Proofs
variable {α:Type}
set_option maxRecDepth 1000000
theorem qtw {X Y:Nat→BitVec 8} {n:Nat} (h:∀ i,i<n→X i=Y i):tabB X n=tabB Y n:=by
  unfold tabB
  rw [qwa,qwa]
  apply List.map_congr_left
  intro i hi
  rw [q0c,List.mem_range'] at hi
  obtain ⟨j,hj,rfl⟩:=hi
  exact h _ (by omega)
theorem qg3 {S T:HSt} (hK:∀ i,i<128→S.K i=T.K i) (hw:q0a S.ws=q0a T.ws) (hR:∀ i,i<64→S.R i=T.R i) (hn:S.n=T.n):q1b S=q1b T:=by
  unfold q1b qec
  rw [qtw hK,hw,qtw hR,hn]
theorem qug {S T:HSt} (hK:∀ i,i<128→S.K i=T.K i) (hw:q0a S.ws=q0a T.ws) (hR:∀ i,i<64→S.R i=T.R i) (hn:S.n=T.n):macE S=macE T:=by
  unfold macE
  rw [qg3 hK hw hR hn]
theorem quw {o n:Nat} (h:136≤o) (h2:o+n≤200):apM o n :=
  ⟨by omega,.inl (by omega),.inl (by omega),.inl (by omega),.inl (by omega),.inl (by omega),.inl (by omega),.inl (by omega),.inl (by omega),.inr (by omega),.inr (by omega),trivial⟩
structure MwQ (S:HSt) (X:Nat→BitVec 8) (o n m c:Nat) (W1:List W32) (R1:Nat→BitVec 8) (A:MwA) (k:Nat):Prop where
  le:64 * k≤n - c
  at_:A.p+A.s.den=o+c+64 * k
  len:A.len=n - c - 64 * k
  cap:A.cap=m - c - 64 * k
  ws:A.ws=qdd W1 (fun i=>X (o+c+i)) k
  R:A.R=R1
  K:∀ i,i<128→A.K i=S.K i
noncomputable def mwF (S:HSt) (X:Nat→BitVec 8) (o n c:Nat) (W1:List W32) (R1:Nat→BitVec 8):HSt:=⟨S.K,qdd W1 (fun i=>X (o+c+i)) ((n - c) / 64),qml R1 (fun i=>X (o+c+i)) (64 * ((n - c) / 64)) ((n - c) % 64),S.n+n⟩
theorem jgt {S:HSt} {X:Nat→BitVec 8} {o n m c:Nat} {W1:List W32} {R1:Nat→BitVec 8} {A:MwA} {k:Nat} (h:MwQ S X o n m c W1 R1 A k) (hl:A.len<64) :
    macE ⟨A.K,A.ws,qan 136 A.len (fun i=>X (A.p+A.s.den+i)) A.R,S.n+n⟩=macE (mwF S X o n c W1 R1):=by
  obtain ⟨h1,h2,h3,h4,h5,h6,h7⟩:=h
  have hk:(n - c) / 64=k:=by omega
  refine qug h7 ?_ (fun i hi => ?_) rfl
  · show q0a A.ws=q0a (qdd W1 _ ((n - c) / 64))
    rw [h5,hk]
  · unfold mwF
    dsimp only
    unfold qan qml
    rw [h6,hk,h2]
    by_cases c1:i<A.len
    · rw [if_pos (by omega),if_pos (by omega)]
      exact congrArg X (by omega)
    · rw [if_neg (by omega),if_neg (by omega)]
theorem q65 {S:HSt} {X:Nat→BitVec 8} {N o n m c:Nat} {W1:List W32} {R1:Nat→BitVec 8} {A:MwA} {k:Nat} (hN:o+n≤N) (hm:n≤m) (hc:c≤n) (hQ:MwQ S X o n m c W1 R1 A k) (J:Junk) :
    qeo cfgW 6 (mwC S X N o n m) (fun a'=>(∃ k,MwQ S X o n m c W1 R1 a' k)∧a'.len<A.len) (fun v H=>v=.int .i64 (.lit 0)∧H[4]? = some (macE (mwF S X o n c W1 R1))) ((mwC S X N o n m A).fill J):=by
  obtain ⟨h1,h2,h3,h4,h5,h6,h7⟩:=id hQ
  by_cases c1:64≤A.len
  · refine qfo (some (2,3)) 4000 (j7d X A) ⟨⟨k+1,by omega,by show A.p+A.s.den+64=_; omega,by show A.len - 64=_; omega,by show A.cap - 64=_; omega,?_,h6,h7⟩,by show A.len - 64<A.len; omega⟩ (jlo S X N o n m A J) (q7p S X N o n m _ _) ?_
    · rw [qac]
      refine qjf h5 (q0b fun i hi => ?_)
      exact congrArg X (by omega)
    · exact all_cons (decide_eq_true (by omega)) (all_cons (by omega) (all_cons (by omega) (all_cons (by omega) (all_cons (qea X) (all_cons (by omega) (all_cons (by omega) (all_cons (by omega) qba)))))))
  · refine qni none 4000 (jft S X N o n m A J) ?_ fun H hH=>⟨rfl,?_⟩
    · exact all_cons (decide_eq_false (by omega)) (all_cons (decide_eq_true (by omega)) (all_cons ⟨by omega,qea X⟩ (all_cons (quw (by omega) (by omega)) qba)))
    · rw [← jgt hQ (by omega)]
      exact (List.cons.inj hH).1
theorem q75 {S:HSt} {n:Nat} {r:List Prop} (h0:0<S.n) (hb:S.n+n≤1152921504606846976) (hr:∀ p∈r,p):∀ p∈mw0 S n r,p :=
  all_cons (by rw [beq_eq_false_iff_ne]; omega) (all_cons ⟨by omega,by omega⟩ hr)
theorem q9x {S:HSt} {X:Nat→BitVec 8} {N o n k:Nat} {b:Bool} {r:List Prop} (h0:0<S.n) (hb:S.n+n≤1152921504606846976) (hu:S.n % 64≠0) (hbb:decide (n≤64 - S.n % 64)=b) (hk:o+k≤N) (hk2:S.n % 64+k≤64) (hr:∀ p∈r,p):∀ p∈mwB S X N o n k b r,p :=
  q75 h0 hb (all_cons (decide_eq_true (by omega)) (all_cons ⟨by omega,by omega⟩ (all_cons (decide_eq_false (by omega)) (all_cons hbb (all_cons ⟨by omega,qea X⟩ (all_cons (quw (by omega) (by omega)) hr))))))
theorem qay {S:HSt} {X:Nat→BitVec 8} {o k:Nat} (j:Nat):mwR1 S X o k j=qhk S.R (S.n % 64) (fun i=>X (o+i)) k j:=by
  unfold mwR1 qan qhk
  by_cases c:S.n % 64≤j∧j<S.n % 64+k
  · rw [if_pos (by omega),if_pos c]
    exact congrArg X (by omega)
  · rw [if_neg (by omega),if_neg c]
theorem qby {S:HSt} {X:Nat→BitVec 8} {o k:Nat} (j:Nat) (hj:j<128):mwK1 S X o k j=S.K j:=by
  unfold mwK1 kC
  rw [if_neg (by omega)]
theorem jmo {S:HSt} {X:Nat→BitVec 8} {N o n m:Nat} (hN:o+n≤N) (hm:n≤m) (h0:0<S.n) (hb:S.n+n≤1152921504606846976) :
    Runs cfgW 80 (qe3 o n m) (qf3 S X N) fun v H=>v=.int .i64 (.lit 0)∧H[4]? = some (macE (qle S (fun i=>X (o+i)) n)):=by
  have hglob:∀ g nm,cfgW.glob g=some nm→nm<(qf3 S X N).length:=fun g nm hg=>Nat.lt_of_lt_of_le (q2p hg) (by show 2≤6; omega)
  by_cases hu:S.n % 64=0
  · have e:macE (qle S (fun i=>X (o+i)) n)=macE (mwF S X o n 0 S.ws S.R):=by
      unfold qle
      rw [if_pos hu]
      rfl
    rw [e]
    refine qfg q2k (mwC S X N o n m) (fun A=>∃ k,MwQ S X o n m 0 S.ws S.R A k) (fun A=>A.len) hglob ?_ fun A ⟨k,hQ⟩ J=>q65 hN hm (Nat.zero_le _) hQ J
    exact qxp (some (2,3)) 4000 ⟨o,.lit 0,n,m,S.ws,S.R,S.K⟩ ⟨0,Nat.zero_le _,rfl,rfl,rfl,rfl,rfl,fun _ _=>rfl⟩ (jsh S X N o n m) (q7p S X N o n m _ _) (q75 h0 hb (all_cons (decide_eq_false (by omega)) qba))
  · by_cases hs:S.n % 64+n<64
    · have e:macE ⟨mwK1 S X o n,S.ws,mwR1 S X o n,S.n+n⟩=macE (qle S (fun i=>X (o+i)) n):=by
        unfold qle
        rw [if_neg hu,if_pos hs]
        exact qug (fun i hi=>qby i hi) rfl (fun i _=>qay i) rfl
      rw [← e]
      refine qfg q2k (mwC S X N o n m) (fun _=>False) (fun A=>A.len) hglob ?_ fun A h J=>h.elim
      refine jhd none 4000 (jvh S X N o n m ⟨0,.lit 0,0,0,[],S.R,S.K⟩) ?_ fun H hH=>⟨rfl,(List.cons.inj hH).1⟩
      exact q9x h0 hb hu (decide_eq_true (by omega)) hN (by omega) (all_cons ⟨by omega,by omega⟩ (all_cons (decide_eq_true (by omega)) qba))
    · have hc:64 - S.n % 64≤n:=by omega
      have e:macE (qle S (fun i=>X (o+i)) n)=macE (mwF S X o n (64 - S.n % 64) (mwW1 S X o (64 - S.n % 64)) (mwR1 S X o (64 - S.n % 64))):=by
        have ew:mwW1 S X o (64 - S.n % 64)=qzs S (fun i=>X (o+i)):=by
          unfold mwW1 qzs
          rw [q0b (X:=mwR1 S X o (64 - S.n % 64)) (b:=0) fun i _=>qay (0+i)]
        unfold qle mwF
        rw [if_neg hu,if_neg hs,ew]
        refine qug (fun _ _=>rfl) (congrArg q0a (qae _ fun i _ => ?_)) (fun i _ => ?_) rfl
        · exact congrArg X (by omega)
        · dsimp only
          unfold qml
          by_cases c1:i<(n - (64 - S.n % 64)) % 64
          · rw [if_pos c1,if_pos c1]
            exact congrArg X (by omega)
          · rw [if_neg c1,if_neg c1,qay]
      rw [e]
      refine qfg q2k (mwC S X N o n m) (fun A=>∃ k,MwQ S X o n m (64 - S.n % 64) (mwW1 S X o (64 - S.n % 64)) (mwR1 S X o (64 - S.n % 64)) A k) (fun A=>A.len) hglob ?_ fun A ⟨k,hQ⟩ J=>q65 hN hm hc hQ J
      by_cases he:n≤64 - S.n % 64
      · have hen:n=64 - S.n % 64:=by omega
        refine qxp (some (2,3)) 4000 (mwA1 S X o n m n) ⟨0,Nat.zero_le _,?_,?_,?_,?_,?_,fun i hi=>qby i hi⟩ (jth S X N o n m) (q7p S X N o n m _ _) ?_
        · show o+0+n * 1=_; omega
        · show n - n=_; omega
        · show m - n=_; omega
        · show mwW1 S X o n=_; rw [← hen]; rfl
        · show mwR1 S X o n=_; rw [← hen]
        · exact q9x h0 hb hu (decide_eq_true he) hN (by omega) (all_cons ⟨by omega,by omega⟩ (all_cons (decide_eq_false (by omega)) (all_cons (by omega) (all_cons (by omega) (all_cons ⟨by omega,by omega⟩ qba)))))
      · refine qxp (some (2,3)) 4000 (mwA1 S X o n m (64 - S.n % 64)) ⟨0,Nat.zero_le _,?_,?_,?_,rfl,rfl,fun i hi=>qby i hi⟩ (juh S X N o n m) (q7p S X N o n m _ _) ?_
        · show o+0+(64 - S.n % 64) * 1=_; omega
        · show n - (64 - S.n % 64)=_; omega
        · show m - (64 - S.n % 64)=_; omega
        · exact q9x h0 hb hu (decide_eq_false he) (by omega) (by omega) (all_cons ⟨by omega,by omega⟩ (all_cons (decide_eq_false (by omega)) (all_cons (by omega) (all_cons (by omega) (all_cons ⟨by omega,by omega⟩ qba)))))
end Go.Proofs.YtbmgahpjgefjaaaGreatDoor.Aes
namespace Go.Proofs.YtbmgahpjgefjaaaGreatDoor.Aes
open Go.Sim
open Go.Proofs
variable {α:Type}
set_option maxRecDepth 1000000
noncomputable def hsT (S:HSt):Tree:=qca cfgW 8000 107 [.ptr ⟨4,.lit 128⟩] (q5c [.row (.lst (q1b S))])
noncomputable def fiT (S:HSt) (Y:Nat→BitVec 8):Tree:=qca cfgW 8000 106 [.ptr ⟨4,.lit 0⟩,.agg (bx (tabB Y 32))] (q5c [.row (.lst (q1b S))])
noncomputable def hsC (S:HSt) (b:Bool) (sz:Nat) (r:List Prop):List Prop :=
  (((S.n:Int) == 0)=false)::(0≤((S.n % 64:Nat):Int)∧((S.n % 64:Nat):Int)≤64)::(0≤((S.n % 64:Nat):Int)∧((S.n % 64:Nat):Int)≤((S.n % 64:Nat):Int))::(decide (((S.n % 64:Nat):Int)≥64)=false)::qza (((S.n % 64:Nat):Int)+9)::(decide (((S.n % 64:Nat):Int)+9 > 64)=b)::apM 136 (S.n % 64)::(S.n % 64≤sz)::(0+S.n % 64≤sz)::(0≤((S.n % 64:Nat):Int)∧((S.n % 64:Nat):Int)<(sz:Int))::(0+(((S.n % 64:Nat):Int)).toNat * 1+1≤sz)::r
noncomputable def finW (K Y:Nat→BitVec 8):List W32:=cmpW (q0a (cmpW (q0a qwc) (q6a K 0))) (q6a (qaa (endL 64 Y 32 96)) 0)
section
variable (S:HSt) (Y:Nat→BitVec 8)
theorem jno:outO [] (hsT S) [false,false,false]=(hsC S false 64 [0+64≤64],some (.agg (bx (qde (qv0 S))),[])):=by kernel_rfl
theorem joo:outO [] (hsT S) [false,false,true]=(hsC S true 128 [0+64≤128,64+64≤128],some (.agg (bx (qde (qw0 S))),[])):=by kernel_rfl
noncomputable def fiC:List Prop:=[(0:Int)≤64,0≤(S.n:Int),false=false,qza 96,false=false,false=false,(0:Int)≤32∧(32:Int)≤64,(0:Int)≤32∧(32:Int)≤32,false=false,qza 41,false=false,(40≤73∧qlh 8 32 [0,1,2,3,4,5,6,7,72]),32≤64,32≤64,(0:Int)≤32∧(32:Int)<64,33≤64,64≤64]
theorem jht:outO [] (fiT S Y) [false,false,false,false,false]=(fiC S,some (.agg (bx (qde (finW S.K Y))),[])):=by kernel_rfl
end
end Go.Proofs.YtbmgahpjgefjaaaGreatDoor.Aes
