/-
  zda behind one another: the symbolic simulator and what it is told of the program.
-/
import Derived.Test.YtbhlngmhgplepaaDoorZqRtp1
import Derived.Test.YtbhlngmhgplepaaDoorPq10
import Derived.Test.YtbhlngmhgplepaaDoorPq7
import Derived.Deep.Slices
set_option maxRecDepth 1000000
namespace Go.Proofs.YtbhlngmhgplepaaDoor.Aes
noncomputable section
open Go.Sim
open Go.Proofs
open Go.Bfs
variable {α:Type}
section
variable (V:Nat->Value) (N n k:Nat) (x y:ByteArray) (J:zaW) (z:Nat->Nat->Nat) (mn re:Bool) (es:List MapEntry) (c:Nat) (W:Nat->Value) (m i:Nat)
def lpQ:Prop:=x.size<=9223372036854775807/\y.size<=9223372036854775807
def lpG:Prop:=agG (nxI mn es) (zab mn 0 c)
def lpN:List Prop:=[decide ((zcp (nxI mn es) x y).1=(zdk (tR re W m).list x y).1)=true,((zcp (nxI mn es) x y).2 == (zdk (tR re W m).list x y).2)=true]
def lpM (q:List Prop):List Prop:=lpG mn es c::hN re m::((tR re W m).ok/\x.size<=9223372036854775807/\y.size<=9223372036854775807)::q
def u1A:Ss:=⟨q2c [x],1,0,1,false,1⟩
def u1B:Ss:=⟨fun i=>zg3 (zdg (q2c [x]) i),1,0,1,false,1⟩
def u2 (q:Pth):Ss:=⟨fun i=>zg3 (zdg (q2c q) i),q.length,0,q.length,true,0⟩
def lpE (o:Nat):List Prop :=
 ntC o (((zaH x && zaH y)=false)::hN re m::(tR re W m).ok::((zaH x && zaH y)=false)::lpQ x y::lpM x y mn re es c W m ((zck.ok/\zck.ok)::(cB (q3m zck zck)=true)::lpN x y mn re es W m)) fun o =>
 ntC o (((zaH x && zaH y)=true)::(decide (x=y)=true)::hN re m::(tR re W m).ok::((zaH x && zaH y)=true)::(decide (x=y)=true)::lpM x y mn re es c W m (IsS (zdg (q2c [x]))::((u1A x).ok/\(u1B x).ok)::(cB (q3m (u1A x) (u1B x))=true)::lpN x y mn re es W m)) fun o =>
 ntC o (((zaH x && zaH y)=true)::(decide (x=y)=false)::lpG mn es c::((zcy (nxI mn es) x y).isSome=true)::hN re m::(tR re W m).ok::((zaH x && zaH y)=true)::(decide (x=y)=false)::((rbO (tR re W m).list x y).isSome=true)::lpM x y mn re es c W m (IsS (zdg (q2c (seQ (nxI mn es) x y)))::IsS (zdg (q2c (rbQ (tR re W m).list x y)))::((u2 (seQ (nxI mn es) x y)).ok/\(u2 (rbQ (tR re W m).list x y)).ok)::(cB (q3m (u2 (seQ (nxI mn es) x y)) (u2 (rbQ (tR re W m).list x y)))=true)::lpN x y mn re es W m)) fun _ =>
 ((zaH x && zaH y)=true)::(decide (x=y)=false)::lpG mn es c::((zcy (nxI mn es) x y).isSome=false)::hN re m::(tR re W m).ok::((zaH x && zaH y)=true)::(decide (x=y)=false)::((rbO (tR re W m).list x y).isSome=false)::lpM x y mn re es c W m ((zck.ok/\zck.ok)::(cB (q3m zck zck)=true)::lpN x y mn re es W m)
def dE (o:Nat):List Bool:=ntC o [false,false,true,true,true] fun o=>ntC o (zaX true 7) fun o=>ntC o [true,false,true,true,false,true,true,true,true] fun _=>[true,false,false,true,false,false,true,true,true]
def ziD:Option ((SV × List (Option SO)) ⊕ Seen):=some (.inl (.bool (.lit true),[]))
theorem j9n:zar (fun o=>zaq [] (lpC V N n k x y mn re es c W m i) [] (lpS V N n k x y J mn re es c W m i none) (false::false::dE o) z) (qsa 4 0)=zar (fun o=>((decide ((i:Int)<(n:Int))=false)::(decide ((i:Int)<(n:Int))=false)::lpE x y mn re es c W m o,ziD)) (qsa 4 0):=by cases mn <;> cases re <;> kernel_rfl
def lpB (b1:Bool):List Prop:=[N * 3=N * 3 / 3 * 3,((⟨V,N * 3 / 3,n⟩:Pw).n:Int)<=40->(⟨V,N * 3 / 3,n⟩:Pw).okA/\(⟨V,N * 3 / 3,n⟩:Pw).n<=1000000,(!cB (shP ⟨V,N * 3 / 3,n⟩ 40))=b1]
def fwA (b:Bool):List Prop:=[((twS x y).n:Int)<=2->(twS x y).ok,(!cB (zif (twS x y) 2))=b]
theorem jxj:zaq [] (lpC V N n k x y true true es c W m 0) [0,2,3] (lpT V N n k x y (some (1,3))) [false,false] z=(app (lpB V N n false) (fwA x y false),some (.inr (qva [(0,8,.slice ⟨3,.lit 0⟩ (.lit 0) (.lit 0)),(0,10,.int .i64 (.lit 0))] [] (qia [0,2,3] 4 (lpC V N n k x y true true es c W m 0))))):=by kernel_rfl
theorem jyj:zaP [] (lpT V N n k x y none) (zaX true 6)=((N * 3=N * 3 / 3 * 3)::(((⟨V,N * 3 / 3,n⟩:Pw).n:Int)<=40->(⟨V,N * 3 / 3,n⟩:Pw).okA/\(⟨V,N * 3 / 3,n⟩:Pw).n<=1000000)::zaX ((!cB (shP ⟨V,N * 3 / 3,n⟩ 40))=true) 6,some (.bool (.lit true),[])):=by kernel_rfl
theorem jzj:zaP [] (lpT V N n k x y none) [false,true]=(app (lpB V N n false) (fwA x y true),some (.bool (.lit true),[])):=by kernel_rfl
theorem j0j:zaP [] (lpZ x y none) [false,true]=(((!cB ((0:Int)<=40))=false)::fwA x y true,some (.bool (.lit true),[])):=by kernel_rfl
theorem jao:zar (fun o=>zaP [] (lpZ x y none) (false::false::dE o)) (qsa 4 0)=zar (fun o=>(((!cB ((0:Int)<=40))=false)::app (fwA x y false) (lpE x y true true [] 0 (lsV []) 0 o),some (.bool (.lit true),[]))) (qsa 4 0):=by kernel_rfl
theorem np_i:zab (qna 1 [0,2,3] (lpC V N n k x y true true es c W m i) (lpC V N n k x y true true es c W m i)) (zaG qma (lpC V N n k x y true true es c W m i).heap) false=true:=by kernel_rfl
end
end
noncomputable section
open Go.Sim
open Go.Proofs
open Go.Bfs
variable {α:Type}
def NoS (l:List Pr):Prop:=∀ p∈l,p.1≠p.2
theorem NoS.ins {l:List Pr} (h:NoS l) {X Y:ByteArray} (hn:X≠Y):NoS (zcE l (X,Y)):=fun p hp=>by
 rcases ze2.1 hp with rfl | hp
 . exact hn
 . exact h p hp
theorem NoS.del {l:List Pr} (h:NoS l) {q:Pr}:NoS (zc9 l q):=fun p hp=>h p (List.eraseP_sublist.subset hp)
theorem qj3 {X Y:ByteArray} (h:zcV X Y=true):X≠Y:=(zcc.1 h).2.2
theorem qgt {b:Bool} (h:b=true):SV.Imp (.bool (.sym b)) (.bool (.lit true)):=fun γ x hx=>by
 subst h; exact hx
theorem j1j (f:Nat->Nat) (X Y:ByteArray):zfh f (some (.ent (zj1 X Y))) (.ent (.obj (.za6 kPr vBo (zgM X Y) 1))) :=
 ⟨_,rfl,fun β x h=>za7.zbr.2 ⟨fun e he=>by
  obtain rfl:=List.mem_singleton.1 he;exact ⟨fun _=>rfl,fun _=>rfl⟩,by
  have h:some (Obj.map #[⟨kyP (X,Y),.bool true,0⟩] 1)=some x:=h;cases h;rfl⟩⟩
theorem q1i {a:LwS} {l:List Pr} (_:a.fit l) {i:Nat} (hi:i<1000000):∀ p∈cEp a.mn a.re a.es a.c a.W a.m i,p:=zaa ⟨by omega,by omega⟩ qaa
section
variable {V:Nat->Value} {N n:Nat} (k:Nat) {x y:ByteArray}
def lpK (V:Nat->Value) (N n:Nat) (x y:ByteArray) (a:LwS):Cut:=lpC V N n k x y a.mn a.re a.es a.c a.W a.m a.i
def lpI (n:Nat) (a:LwS):Prop:=a.i<=n/\∃ l,a.fit l/\NoS l
def lpD1:SV->List SO->Prop:=fun v _=>v=.bool (.lit true)
def q0g (V:Nat->Value) (N n:Nat) (x y:ByteArray) (a:LwS) (J:zaW):Prop:=qgb zd0 1 (lpK k V N n x y) (fun a'=>lpI n a'/\n - a'.i<n - a.i) lpD1 ((lpK k V N n x y a).fill J)
variable {k}
theorem qzd {a a':LwS} {J:zaW} {names:List Nat} {ds:List Bool} {ps:List Prop} {q:Nat} {l':List Pr} (hi:a.i<n) (hi':a'.i=a.i+1) (hf:a'.fit l'/\NoS l')
  (h:∀ z,lpD V N n k x y J z a.es a.c a.W a.m a.i a.mn a.re ds names=(ps,seN names q (lpK k V N n x y a'))) (hm:a'.mn=a.mn) (hn:zgf names a.mn a.re a'.re) (hp:∀ p∈ps,p):q0g k V N n x y a J:=by
 refine qya (M:=lpC V N n k x y a.mn a.re a.es a.c a.W a.m a.i) (some (1,3)) 20000 a' ⟨⟨by omega,l',hf⟩,by omega⟩ h ?_ hp
 show zab (qna _ _ _ (lpC V N n k x y a'.mn a'.re a'.es a'.c a'.W a'.m a'.i)) (zaG qma (lpC V N n k x y a'.mn a'.re a'.es a'.c a'.W a'.m a'.i).heap) false=true;rw [hm]; exact hn _ _ _ _ _ _ _ _ _ _ _ _ _ _ _ _
theorem qy1 {a:LwS} {l:List Pr} (hns:NoS l) (J:zaW) (hN1:n<=N) (hn:n<=40) (hV:zgD V n) (hs:∀ i,i<n->(aFr V i).size<=60/\(aTo V i).size<=60) (hi:a.i<n) (hf:a.fit l) (hmn:a.mn=false):q0g k V N n x y a J:=by
 obtain ⟨mn,re,es,c,W,m,i⟩:=a;obtain rfl:mn=false:=hmn;have hi:i<n:=hi;have hf0:=hf;obtain ⟨h1,h2,h3⟩:=hf;obtain ⟨hM,rfl⟩:zdJ es c/\l=srL es:=h3;have h1:qck re W m (srL es):=h1;obtain ⟨t1,t2,t3⟩:=qm6 h1 h2;have hz:=hs i hi;have hlen:=qgl es;have hE:∀ p∈cEp false re es c W m i,p:=q1i hf0 (i:=i) (by omega)
 have hR:∀ {q:List Prop},(∀ p∈q,p)->∀ p∈cR re W m (aFr V i) (aTo V i) q,p:=fun hq=>zaa (qbt re m) (zaa ⟨t1,by omega,by omega⟩ hq)
 have hX:∀ (w:Nat),(∀ p∈cW V i w,p)->∀ {q:List Prop},(∀ p∈q,p)->∀ p∈lwX V N n i w q,p:=fun w hw q hq=>qy2 hN1 hV hi (qpa hw hq);have hfit:(⟨false,re,es,c,W,m,i+1⟩:LwS).fit (srL es):=⟨h1,h2,hM,rfl⟩;have hkey:∀ p:Pr,zaT es (pK p.1 p.2)=true↔p∈srL es:=fun p=>zbc hM.key (p:=p);have zeq:∀ {p:Pr} {b:Bool},zaT es (pK p.1 p.2)=b->zfs re W m p.1 p.2 b:=fun {p b} hb=>by
  show cB (p∈(tR re W m).list)=b;rw [t2];cases b with
  | true=>exact q8a ((hkey p).1 hb)
  | false=>exact q0a fun hm=>by rw [(hkey p).2 hm] at hb; cases hb
 generalize hXe:aFr V i=X at *;generalize hYe:aTo V i=Y at *;have hval:zaT es (pK X Y)=true->zd8 (zbF es (pK X Y))=true:=qdk hM.val;obtain ⟨w,hw6,hw⟩:=qd9 V i;obtain ⟨o,ho⟩:=qx2 X Y;have hnm:=np_4 re;by_cases hw3:w<3
 ·
  have same:∀ o',o'<4->(∀ p∈cT re es W m X Y o',p)->q0g k V N n x y ⟨false,re,es,c,W,m,i⟩ J:=fun o' ho' hp=>by
   refine qzd (ds:=app (dW w) (dT o')) (q:=7) hi rfl ⟨hfit,hns⟩ (fun z => ?_) rfl hnm (hX w hw (hR (qpa hp hE)));have:=qhc (qhc (lp_T V N n k x y J z re es c W m i) (by omega)) (by omega)
   rw [hXe,hYe] at this;exact this
  cases ho with
  | bad k1 k2=>exact same 0 (by omega) (zaa k1 k2)
  | same k1 k2=>exact same 1 (by omega) (zaa k1 k2)
  | ok k1 k2 =>
    cases hh:zaT es (pK X Y) with
    | true=>exact same 2 (by omega) (zaa k1 (zaa (zeq (p:=(X,Y)) hh) (k2 (zaa hh (zaa (hval hh) qaa)))))
    | false =>
      by_cases hfu:es.length>=1000
      . exact same 3 (by omega) (zaa k1 (zaa (zeq (p:=(X,Y)) hh) (zaa (decide_eq_true (by rw [t3]; omega)) (k2 (zaa hh (zaa (decide_eq_true (by omega)) qaa))))))
      . have hnot:(X,Y) ∉ srL es:=fun hm=>by rw [(hkey (X,Y)).2 hm] at hh; cases hh
        obtain ⟨m1,m2⟩:=hM.ins hnot;have hrow:qck false (tiW re W m X Y) ((tR re W m).n+1) (zcE (srL es) (X,Y)):=by
         unfold tiW;rw [t2];exact q3q (by rw [qzm,t3])
        have zc7:(⟨false,false,tiK es c X Y,c+1,tiW re W m X Y,(tR re W m).n+1,i+1⟩:LwS).fit (zcE (srL es) (X,Y)):=⟨hrow,by rw [qzm]; omega,m1,m2.symm⟩
        have hc:∀ p∈cT re es W m X Y 4,p:=zaa k1 (zaa (zeq (p:=(X,Y)) hh) (zaa (decide_eq_false (by rw [t3]; omega)) (k2 (zaa hh (zaa (decide_eq_false (by omega)) (zaa hh qaa))))))
        have zgn:NoS (zcE (srL es) (X,Y)):=hns.ins (qj3 k1);refine qzd (ds:=app (dW w) (dT 4)) (q:=8) hi rfl ⟨zc7,zgn⟩ (fun z => ?_) rfl (zka re false) (hX w hw (hR (qpa hc (q1i zc7 (i:=i) (by omega)))))
        have:=qhc (zkq V N n k x y J z re es c W m i) (by omega)
        rw [hXe,hYe] at this;exact this
 by_cases hw4:w=3
 ·
  subst hw4;have same:∀ o',o'<3->(∀ p∈cU re es W m X Y o',p)->q0g k V N n x y ⟨false,re,es,c,W,m,i⟩ J:=fun o' ho' hp=>by
   refine qzd (ds:=app (dW 3) (dU o')) (q:=7) hi rfl ⟨hfit,hns⟩ (fun z => ?_) rfl hnm (hX 3 hw (hR (qpa hp hE)));have:=qhc (lp_U V N n k x y J z re es c W m i) (by omega)
   rw [hXe,hYe] at this;exact this
  cases ho with
  | bad k1 k2=>exact same 0 (by omega) (zaa k1 k2)
  | same k1 k2=>exact same 1 (by omega) (zaa k1 k2)
  | ok k1 k2 =>
    cases hh:zaT es (pK X Y) with
    | false=>exact same 2 (by omega) (zaa k1 (zaa (zeq (p:=(X,Y)) hh) (k2 (zaa hh qaa))))
    | true =>
      have hin:(X,Y)∈srL es:=(hkey (X,Y)).1 hh;have hre:re=false:=by
       cases re with
       | false=>rfl
       | true =>
         have h1:srL es=[]:=h1;rw [h1] at hin; cases hin
      subst hre;obtain ⟨m1,m2⟩:=hM.del (X,Y);have hv2:(!zd8 (zbF es (pK X Y)))=false:=by rw [hval hh]; rfl
      have hdl:=q7s hin;by_cases hone:(tR false W m).n=1
      . have hnil:zc9 (srL es) (X,Y)=[]:=List.length_eq_zero_iff.1 (by rw [hdl,← t3,hone])
        have zc7:(⟨false,true,zdY es (pK X Y),c,W,m,i+1⟩:LwS).fit (zc9 (srL es) (X,Y)):=⟨hnil,by rw [hnil]; exact Nat.zero_le _,m1,m2.symm⟩
        have hc:∀ p∈cU false es W m X Y 3,p:=zaa k1 (zaa (zeq (p:=(X,Y)) hh) (zaa (decide_eq_true hone) (k2 (zaa hh (zaa hv2 qaa)))));have zgn:NoS (zc9 (srL es) (X,Y)):=hns.del;refine qsc (ds:=true::app (dW 3) (dU 3)) (N:=8) (ms:=[(0,8,.slice ⟨5,.lit 0⟩ (.lit 0) (.lit 0))]) (es:=[]) (M:=lpC V N n k x y false false es c W m i) (some (1,3)) 20000 ⟨false,true,zdY es (pK X Y),c,W,m,i+1⟩ ⟨⟨hi,_,zc7,zgn⟩,by show n - (i+1)<n - i; omega⟩ (fun z => ?_) (zka false true V N n k x y es c W m i _ _ _ _ _) (fun q hq p u hp hu => ?_) (fun e he=>by cases he)
         (hX 3 hw (hR (qpa hc (q1i zc7 (i:=i) (by omega)))))
        . have:=zko V N n k x y J z es c W m i;rw [hXe,hYe] at this;exact this
        . obtain rfl:q=(0,8,.slice ⟨5,.lit 0⟩ (.lit 0) (.lit 0)):=by simpa using hq
          exact q6a (q09 V N n k x y (zdY es (pK X Y)) c W m (i+1) false) hp hu (fun γ x hx=>hx)
      . have hrow:qck false (tdW false W m X Y) ((tR false W m).n - 1) (zc9 (srL es) (X,Y)):=by
         unfold tdW;rw [t2];exact q3q (by rw [hdl,t3])
        have zc7:(⟨false,false,zdY es (pK X Y),c,tdW false W m X Y,(tR false W m).n - 1,i+1⟩:LwS).fit (zc9 (srL es) (X,Y)):=⟨hrow,by rw [hdl]; omega,m1,m2.symm⟩
        have hc:∀ p∈cU false es W m X Y 4,p:=zaa k1 (zaa (zeq (p:=(X,Y)) hh) (zaa (decide_eq_false hone) (k2 (zaa hh (zaa hv2 qaa)))));have zgn:NoS (zc9 (srL es) (X,Y)):=hns.del;refine qzd (ds:=app (dW 3) (dU 4)) (q:=8) hi rfl ⟨zc7,zgn⟩ (fun z => ?_) rfl (zka false false) (hX 3 hw (hR (qpa hc (q1i zc7 (i:=i) (by omega)))))
        have:=zkn V N n k x y J z es c W m i;rw [hXe,hYe] at this;exact this
 by_cases hw5:w=4
 ·
  subst hw5;have hb:∃ b,b<3/\(∀ p∈cB1 es b,p)/\∀ e∈es2 es c b,e.val=.bool true:=by
   cases hh:zaT es coK with
   | true=>exact ⟨0,by omega,zaa hh (zaa (qdk hM.val hh) qaa),hM.val⟩
   | false =>
     by_cases hfu:es.length>=1000
     . exact ⟨1,by omega,zaa hh (zaa (decide_eq_true (by omega)) qaa),hM.val⟩
     . refine ⟨2,by omega,zaa hh (zaa (decide_eq_false (by omega)) (zaa hh qaa)),fun e he => ?_⟩
       rcases List.mem_append.1 (show e∈es++[⟨coK,.bool true,c⟩] from he) with he | he
       . exact hM.val e he
       . obtain rfl:=List.mem_singleton.1 he;rfl
  obtain ⟨b,hb3,hb,hbv⟩:=hb;have fin:∀ u,u<4->(∀ p∈cV X Y (es2 es c b) u,p)->q0g k V N n x y ⟨false,re,es,c,W,m,i⟩ J:=fun u hu hp=>by
   refine qzd (ds:=app (dW 4) (app (dB b) (dV u))) (q:=11) hi rfl ⟨hfit,hns⟩ (fun z => ?_) rfl (np_6 re) (hX 4 hw (zaa (q3c coS otS) (zaa (qvh jpe) (qpa hb (qpa hp hE)))));have:=qhc (qhc (lp_C V N n k x y J z re es c W m i) (by omega)) (by omega)
   rw [hXe,hYe] at this;exact this
  cases ho with
  | bad k1 k2=>exact fin 0 (by omega) k2
  | same k1 k2=>exact fin 1 (by omega) k2
  | ok k1 k2 =>
    cases hh:zaT (es2 es c b) (pK X Y) with
    | false=>exact fin 2 (by omega) (k2 (zaa hh qaa))
    | true=>exact fin 3 (by omega) (k2 (zaa hh (zaa (by rw [qdk hbv hh]; rfl) qaa)))
 . obtain rfl:w=5:=by omega
   have hd:(mtB es X Y == cB ((tR re W m).has (X,Y)))=true:=by
    unfold mtB;cases hh:zaT es (pK X Y) with
    | true =>
      have:=zeq (p:=(X,Y)) hh;rw [show cB ((tR re W m).has (X,Y))=true from this,hval hh]; rfl
    | false =>
      have:=zeq (p:=(X,Y)) hh;rw [show cB ((tR re W m).has (X,Y))=false from this]; rfl
   refine qsc (ds:=true::dW 5) (N:=5) (ms:=[(0,9,.bool (.sym (mtB es X Y == cB ((tR re W m).has (X,Y)))))]) (es:=[]) (M:=lpC V N n k x y false re es c W m i) (some (1,3)) 20000 ⟨false,re,es,c,W,m,i+1⟩ ⟨⟨hi,_,hfit,hns⟩,by show n - (i+1)<n - i; omega⟩ (fun z => ?_) (hnm V N n k x y es c W m i _ _ _ _ _) (fun q hq p u hp hu => ?_) (fun e he=>by cases he)
    (hX 5 hw (zaa (qbt re m) (zaa t1 hE)))
   . have:=lp_D V N n k x y J z re es c W m i;rw [hXe,hYe] at this;exact this
   . obtain rfl:=List.mem_singleton.1 hq;exact q6a (q19 V N n k x y re es c W m (i+1) false) hp hu (qgt hd)
theorem qz1 {a:LwS} {l:List Pr} (J:zaW) (hN1:n<=N) (hn:n<=40) (hV:zgD V n) (hs:∀ i,i<n->(aFr V i).size<=60/\(aTo V i).size<=60) (hi:a.i<n) (hf:a.fit l) (hmn:a.mn=true):q0g k V N n x y a J:=by
 obtain ⟨mn,re,es,c,W,m,i⟩:=a;obtain rfl:mn=true:=hmn;have hi:i<n:=hi;have hf0:=hf;obtain ⟨h1,h2,h3⟩:=hf;obtain ⟨rfl,rfl⟩:l=[]/\re=true:=h3;have h1:qck true W m []:=h1;obtain ⟨t1,t2,t3⟩:=qm6 h1 h2;have hz:=hs i hi;have hE:∀ p∈cEp true true es c W m i,p:=q1i hf0 (i:=i) (by omega)
 have hR:∀ {q:List Prop},(∀ p∈q,p)->∀ p∈cR true W m (aFr V i) (aTo V i) q,p:=fun hq=>zaa (qbt true m) (zaa ⟨t1,by omega,by omega⟩ hq)
 have hX:∀ (w:Nat),(∀ p∈cW V i w,p)->∀ {q:List Prop},(∀ p∈q,p)->∀ p∈lwX V N n i w q,p:=fun w hw q hq=>qy2 hN1 hV hi (qpa hw hq);have hfit:(⟨true,true,es,c,W,m,i+1⟩:LwS).fit []:=⟨h1,h2,rfl,rfl⟩;have hns:NoS []:=fun p hp=>by cases hp
 have zeq:∀ p:Pr,zfs true W m p.1 p.2 false:=fun p=>by
  show cB (p∈(tR true W m).list)=false;rw [t2];exact q0a fun hm=>by cases hm
 generalize hXe:aFr V i=X at *;generalize hYe:aTo V i=Y at *;obtain ⟨w,hw6,hw⟩:=qd9 V i;obtain ⟨o,ho⟩:=qx2 X Y;by_cases hw3:w<3
 . have same:∀ o',o'<2->(∀ p∈cTn X Y o',p)->q0g k V N n x y ⟨true,true,es,c,W,m,i⟩ J:=fun o' ho' hp=>by
    refine qzd (ds:=app (dW w) (dTn o')) (q:=6) hi rfl ⟨hfit,hns⟩ (fun z => ?_) rfl zh6 (hX w hw (hR (qpa hp hE)));have:=qhc (qhc (zkp V N n k x y J z es c W m i) (by omega)) (by omega)
    rw [hXe,hYe] at this;exact this
   cases ho with
   | bad k1 k2=>exact same 0 (by omega) (zaa k1 k2)
   | same k1 k2=>exact same 1 (by omega) (zaa k1 k2)
   | ok k1 k2 =>
     obtain ⟨m1,m2⟩:=zdJ.one (X,Y);have hrow:qck false (tiW true W m X Y) 1 (zcE [] (X,Y)):=by
      unfold tiW;rw [t2];exact q3q rfl
     have zc7:(⟨false,false,zgM X Y,1,tiW true W m X Y,1,i+1⟩:LwS).fit (zcE [] (X,Y)):=⟨hrow,by show (1:Nat)<=1000; omega,m1,m2.symm⟩
     have zgn:NoS (zcE [] (X,Y)):=hns.ins (qj3 k1);refine qsc (ds:=true::app (dW w) (true::zaX false 4)) (N:=8) (ms:=[]) (es:=[(3,.ent (zj1 X Y))]) (M:=lpC V N n k x y false false es c W m i) (some (1,3)) 20000 ⟨false,false,zgM X Y,1,tiW true W m X Y,1,i+1⟩ ⟨⟨hi,_,zc7,zgn⟩,by show n - (i+1)<n - i; omega⟩ (fun z => ?_) (zj8 V N n k x y es c W m i _ _ _ _ _) (fun q hq=>by cases hq) (fun e he E0 hE0 => ?_)
      (hX w hw (hR (zaa k1 (zaa (zeq (X,Y)) (zaa (rfl:false=false) (k2 (q1i zc7 (i:=i) (by omega))))))))
     . have:=qhc (j6n V N n k x y J z es c W m i) (by omega)
       rw [hXe,hYe] at this;exact this
     . obtain rfl:=List.mem_singleton.1 he;replace hE0:some (HP.ent (.obj (.za6 kPr vBo (zgM X Y) 1)))=some E0:=hE0;cases hE0;exact j1j _ _ _
 by_cases hw4:w=3
 . subst hw4;have same:∀ o',o'<2->(∀ p∈cTn X Y o',p)->q0g k V N n x y ⟨true,true,es,c,W,m,i⟩ J:=fun o' ho' hp=>by
    refine qzd (ds:=app (dW 3) (dTn o')) (q:=6) hi rfl ⟨hfit,hns⟩ (fun z => ?_) rfl zh6 (hX 3 hw (hR (qpa hp hE)));have:=qhc (zkm V N n k x y J z es c W m i) (by omega)
    rw [hXe,hYe] at this;exact this
   cases ho with
   | bad k1 k2=>exact same 0 (by omega) (zaa k1 k2)
   | same k1 k2=>exact same 1 (by omega) (zaa k1 k2)
   | ok k1 k2 =>
     refine qzd (ds:=app (dW 3) (true::zaX false 3)) (q:=6) hi rfl ⟨hfit,hns⟩ (fun z => ?_) rfl zh6 (hX 3 hw (hR (zaa k1 (zaa (zeq (X,Y)) (k2 hE)))));have:=j7n V N n k x y J z es c W m i;rw [hXe,hYe] at this;exact this
 by_cases hw5:w=4
 . subst hw5;have fin:∀ u,u<4->(∀ p∈cVn X Y u,p)->q0g k V N n x y ⟨true,true,es,c,W,m,i⟩ J:=fun u hu hp=>by
    refine qzd (ds:=app (dW 4) (false::dVn u)) (q:=10) hi rfl ⟨hfit,hns⟩ (fun z => ?_) rfl zj9 (hX 4 hw (zaa (q3c coS otS) (zaa (qvh jpe) (qpa hp hE))));have:=qhc (zks V N n k x y J z es c W m i) (by omega)
    rw [hXe,hYe] at this;exact this
   cases ho with
   | bad k1 k2=>exact fin 0 (by omega) k2
   | same k1 k2=>exact fin 1 (by omega) k2
   | ok k1 k2 =>
     cases hh:(decide (X=coS) && decide (Y=otS)) with
     | false=>exact fin 2 (by omega) (k2 (zaa hh qaa))
     | true=>exact fin 3 (by omega) (k2 (zaa hh (zaa hh qaa)))
 . obtain rfl:w=5:=by omega
   have hd:(false == cB ((tR true W m).has (X,Y)))=true:=by
    rw [show cB ((tR true W m).has (X,Y))=false from zeq (X,Y)]; rfl
   refine qsc (ds:=true::dW 5) (N:=4) (ms:=[(0,9,.bool (.sym (false == cB ((tR true W m).has (X,Y)))))]) (es:=[]) (M:=lpC V N n k x y true true es c W m i) (some (1,3)) 20000 ⟨true,true,es,c,W,m,i+1⟩ ⟨⟨hi,_,hfit,hns⟩,by show n - (i+1)<n - i; omega⟩ (fun z => ?_) (zh6 V N n k x y es c W m i _ _ _ _ _) (fun q hq p u hp hu => ?_) (fun e he=>by cases he)
    (hX 5 hw (zaa (qbt true m) (zaa t1 hE)))
   . have:=zkr V N n k x y J z es c W m i;rw [hXe,hYe] at this;exact this
   . obtain rfl:=List.mem_singleton.1 hq;exact q6a (q19 V N n k x y true es c W m (i+1) true) hp hu (qgt hd)
end
end
end Go.Proofs.YtbhlngmhgplepaaDoor.Aes
namespace Go.Bfs
noncomputable section
def sLt (a b:Str):Prop:=a.data.toList<b.data.toList
def plt:Pth->Pth->Prop
 | a::p,b::q=>sLt a b\/(a=b/\plt p q)
 | _,_=>False
def ple (p q:Pth):Prop:=p=q\/plt p q
theorem zjY {p q:Pth} (r s:Pth) (h:plt p q):plt (p++r) (q++s):=by
 induction p generalizing q with
 | nil=>cases q <;> exact h.elim
 | cons a p ih =>
   cases q with
   | nil=>exact h.elim
   | cons b q=>exact h.imp id fun ⟨h1,h2⟩=>⟨h1,ih h2⟩
theorem j5c (p:Pth) {b c:Str} (h:sLt b c):plt (p++[b]) (p++[c]):=by
 induction p with
 | nil=>exact .inl h
 | cons a p ih=>exact .inr ⟨rfl,ih⟩
def endP (q:Pth):Str:=q.getLast?.getD ⟨#[]⟩
theorem q29 (q:Pth) (b:Str):endP (q++[b])=b:=by unfold endP; simp
section
variable (succ:Str->List Str)
def Wk:Pth->Prop
 | a::b::r=>b∈succ a/\Wk (b::r)
 | _=>True
def Wf (x:Str) (w:Pth):Prop:=w.head? = some x/\Wk succ w
variable {succ}
theorem qvp {p q:Pth}:∀ {r seen:List Str},q∈(ext p r seen).1->∃ b,b∈r/\q=p++[b]
 | [],_,h=>by cases h
 | b::r,seen,h=>by
   by_cases hb:b∈seen
   . rw [qme hb] at h;obtain ⟨c,h1,h2⟩:=qvp h;exact ⟨c,List.mem_cons_of_mem _ h1,h2⟩
   . rw [qrf hb] at h;rcases List.mem_cons.1 h with rfl | h
     . exact ⟨b,List.mem_cons_self,rfl⟩
     . obtain ⟨c,h1,h2⟩:=qvp h;exact ⟨c,List.mem_cons_of_mem _ h1,h2⟩
theorem zdy {p:Pth} {b:Str}:∀ {r seen:List Str},b∈r->b ∉ seen->p++[b]∈(ext p r seen).1
 | [],_,h,_=>by cases h
 | c::r,seen,h,hs=>by
   by_cases hc:c∈seen
   . rw [qme hc];rcases List.mem_cons.1 h with rfl | h
     . exact absurd hc hs
     . exact zdy h hs
   . rw [qrf hc];by_cases e:b=c
     . subst e; exact List.mem_cons_self
     . rcases List.mem_cons.1 h with h | h
       . exact absurd h e
       . refine List.mem_cons_of_mem _ (zdy h fun hm => ?_);rcases List.mem_append.1 hm with hm | hm
         . exact hs hm
         . exact e (List.mem_singleton.1 hm)
theorem qk3 (p:Pth):∀ (r seen:List Str),(ext p r seen).2=seen++(ext p r seen).1.map endP
 | [],seen=>by simp [ext]
 | b::r,seen=>by
   by_cases hb:b∈seen
   . rw [qme hb]; exact qk3 p r seen
   . rw [qrf hb,qk3 p r (seen++[b]),List.map_cons,q29]; simp
theorem qht (p:Pth):∀ (r seen:List Str),r.Pairwise sLt->(ext p r seen).1.Pairwise plt
 | [],seen,_=>List.Pairwise.nil
 | b::r,seen,h=>by
   obtain ⟨h1,h2⟩:=List.pairwise_cons.1 h;by_cases hb:b∈seen
   . rw [qme hb]; exact qht p r seen h2
   . rw [qrf hb];refine List.pairwise_cons.2 ⟨fun q hq => ?_,qht p r _ h2⟩;obtain ⟨c,hc,rfl⟩:=qvp hq;exact j5c p (h1 c hc)
section
variable {S:Pth->List Str}
theorem qt0 {q:Pth}:∀ {L:List Pth} {seen:List Str},q∈(step S L seen).1->∃ p b,p∈L/\b∈S p/\q=p++[b]
 | [],_,h=>by cases h
 | p::L,seen,h=>by
   rw [step] at h;rcases List.mem_append.1 h with h | h
   . obtain ⟨b,h1,h2⟩:=qvp h;exact ⟨p,b,List.mem_cons_self,h1,h2⟩
   . obtain ⟨p',b,h1,h2⟩:=qt0 h;exact ⟨p',b,List.mem_cons_of_mem _ h1,h2⟩
end
structure LvI (succ:Str->List Str) (x y:Str) (k:Nat) (L:List Pth) (old:List Str):Prop where
 wf:∀ q∈L,Wf succ x q/\q.length=k+1
 so:L.Pairwise plt
 all:∀ w,Wf succ x w->w.length<=k+1->endP w∈old++L.map endP
 best:∀ w,Wf succ x w->w.length=k+1->endP w ∉ old->∃ q∈L,endP q=endP w/\ple q w
 closed:∀ v∈old,∀ b∈succ v,b∈old++L.map endP
 noy:y ∉ old++L.map endP
section
variable {S:Pth->List Str} {x y:Str} {k:Nat} {L:List Pth} {old:List Str}
def Best (succ:Str->List Str) (x y:Str) (q:Pth):Prop:=Wf succ x q/\q.getLast? = some y/\∀ w,Wf succ x w->w.getLast? = some y->q.length<w.length\/(q.length=w.length/\ple q w)
end
end
end
noncomputable section
section
variable {succ:Str->List Str} {x y:Str}
end
end
noncomputable section
theorem qu0 {N:List Str} {S:Pth->List Str} (hS:∀ q b,b∈S q->b∈N) {M:Nat} {L:List Pth} {seen:List Str} (hL:∀ p∈L,p.length+un N seen<=M):∀ q∈(step S L seen).1,q.length+un N (step S L seen).2<=M:=fun q hq=>by
 have h1:=qup hS (L:=L) (seen:=seen);have h2:1<=(step S L seen).1.length:=List.length_pos_iff.2 (List.ne_nil_of_mem hq);obtain ⟨p,b,hp,_,rfl⟩:=qt0 hq;have:=hL p hp;rw [List.length_append,List.length_singleton];omega
theorem Bfs.len {N:List Str} {S:Pth->List Str} (hS:∀ q b,b∈S q->b∈N) {M:Nat} {y:Str} {L:List Pth} {seen:List Str} {o:Option Pth} (h:Bfs S y L seen o) (hL:∀ p∈L,p.length+un N seen<=M) {q:Pth} (ho:o=some q):q.length<=M:=by
 induction h with
 | found hf =>
   cases ho;have:=qu0 hS hL q (List.mem_of_find?_eq_some hf);omega
 | over=>cases ho
 | next _ _ _ ih=>exact ih (qu0 hS hL) ho
end
end Go.Bfs
namespace Go.Proofs.YtbhlngmhgplepaaDoor.Aes
noncomputable section
open Go.Sim
open Go.Proofs
open Go.Sort
open Go.Bfs
variable {α:Type}
theorem qit {f g:Nat->Bool}:∀ {n:Nat},(∀ j,j<n->f j=g j)->zdq f n=zdq g n
 | 0,_=>rfl
 | n+1,h=>by
   unfold zdq;rw [h n (by omega),qit fun j hj=>h j (by omega)]
theorem q39 (x y:ByteArray):zbT x y 0=x:=by
 unfold zbT zfE;rw [if_pos (Nat.zero_le _)]; rfl
theorem jbo {es:List MapEntry} {c:Nat} (h:zdJ es c) (hn:NoS (srL es)) (x y:ByteArray):zdk (srL es) x y=zcp es x y:=by
 unfold zdk zcp;by_cases hxy:x=y
 . rw [decide_eq_true hxy];cases (zaH x && zaH y) <;> rfl
 . rw [qf3 hxy];have hf:∀ j,zee (srL es) x y j=mtB es x (zbT x y j):=fun j=>by
    have hm:mtB es x (zbT x y j)=cB ((x,zbT x y j)∈srL es):=by
     unfold mtB;cases hk:zaT es (pK x (zbT x y j)) with
     | true=>rw [qdk h.val hk,q8a ((zbc h.key (p:=(x,zbT x y j))).1 hk)]; rfl
     | false =>
       rw [q0a fun hm => ?_]; rfl;rw [show zaT es (pK x (zbT x y j))=true from (zbc h.key (p:=(x,zbT x y j))).2 hm] at hk
       cases hk
    unfold zee;by_cases hj:j=0
    . rw [decide_eq_true hj,hm,hj,q39,q0a fun hm=>hn _ hm rfl]; rfl
    . rw [decide_eq_false hj,hm]; rfl
   rw [qit fun j _=>hf j]
theorem zdJ.nil:zdJ [] 0:=⟨⟨List.nodup_nil,fun _ h=>by cases h⟩,fun _ h=>(by cases h),fun _ h=>(by cases h),List.nodup_nil⟩
theorem j2j {es:List MapEntry} {x y:ByteArray} {q:Pth} (h:zcy es x y=some q):q.length<=es.length+1:=by
 have h1:=qr0 es x y;rw [h] at h1;refine h1.len (N:=(srL es).map (·.2)) (fun q b h=>qsp h) (fun p hp => ?_) rfl
 rw [List.mem_singleton.1 hp];have:=qo6 ((srL es).map (·.2)) [x]
 rw [List.length_map,qgl] at this;show 1+un _ [x]<=_;omega
section
variable {a:LwS} {l:List Pr} {x y:ByteArray}
theorem j3j (hf:a.fit l):zdJ (nxI a.mn a.es) (zab a.mn 0 a.c)/\l=srL (nxI a.mn a.es)/\agG (nxI a.mn a.es) (zab a.mn 0 a.c):=by
 obtain ⟨mn,re,es,c,W,m,i⟩:=a;obtain ⟨h1,h2,h3⟩:=hf;cases mn with
 | true =>
   obtain ⟨h4,_⟩:l=[]/\re=true:=h3;subst h4;exact ⟨zdJ.nil,(List.length_eq_zero_iff.1 (by rw [qgl]; rfl)).symm,jbj⟩
 | false =>
   obtain ⟨h4,h5⟩:zdJ es c/\l=srL es:=h3;have:=qgl es;have h2:l.length<=1000:=h2;exact ⟨h4,h5,h4.ok,by show es.length<=_; rw [← this,← h5]; omega⟩
theorem ql3 (hf:a.fit l) (hns:NoS l) (hx:x.size<=60) (hy:y.size<=60):∃ o,o<4/\∀ p∈lpE x y a.mn a.re a.es a.c a.W a.m o,p:=by
 obtain ⟨hM,hl,hg⟩:=j3j hf;obtain ⟨t1,t2,t3⟩:=qm6 hf.1 hf.2.1;have hN:=qbt a.re a.m;have hz:lpQ x y:=⟨by omega,by omega⟩
 have hP:zdk (tR a.re a.W a.m).list x y=zcp (nxI a.mn a.es) x y:=by rw [t2,hl]; exact jbo hM (hl▸hns) x y
 have hNs:∀ p∈lpN x y a.mn a.re a.es a.W a.m,p:=zaa (by rw [hP]; exact decide_eq_true rfl) (zaa (by rw [hP]; exact beq_self_eq_true _) qaa)
 have hMs:∀ {q:List Prop},(∀ p∈q,p)->∀ p∈lpM x y a.mn a.re a.es a.c a.W a.m q,p:=fun hq=>zaa hg (zaa hN (zaa ⟨t1,hz⟩ hq));have hnil:∀ p∈((zck.ok/\zck.ok)::(cB (q3m zck zck)=true)::lpN x y a.mn a.re a.es a.W a.m),p:=zaa ⟨qe9,qe9⟩ (zaa (q8a ⟨rfl,fun i hi=>rfl⟩) hNs);cases hr:(zaH x && zaH y) with
 | false=>exact ⟨0,by omega,zaa hr (zaa hN (zaa t1 (zaa hr (zaa hz (hMs hnil)))))⟩
 | true =>
   cases hxy:decide (x=y) with
   | true =>
     refine ⟨1,by omega,zaa hr (zaa hxy (zaa hN (zaa t1 (zaa hr (zaa hxy (hMs (zaa ?_ (zaa ⟨?_,?_⟩ (zaa (q8a ⟨rfl,fun i hi => ?_⟩) hNs)))))))))⟩
     . exact fun _=>rfl
     . exact ⟨Nat.le_refl _,by show (1:Nat)<=_; omega⟩
     . exact ⟨Nat.le_refl _,by show (1:Nat)<=_; omega⟩
     . rfl
   | false =>
     have hS:=qf3 (es:=nxI a.mn a.es) (of_decide_eq_false hxy);have hT:(tR a.re a.W a.m).list=srL (nxI a.mn a.es):=by rw [t2,hl]
     cases hb:(zcy (nxI a.mn a.es) x y).isSome with
     | false =>
       have hb2:(rbO (tR a.re a.W a.m).list x y).isSome=false:=by rw [hT,hS]; exact hb
       exact ⟨3,by omega,zaa hr (zaa hxy (zaa hg (zaa hb (zaa hN (zaa t1 (zaa hr (zaa hxy (zaa hb2 (hMs hnil)))))))))⟩
     | true =>
       have hb2:(rbO (tR a.re a.W a.m).list x y).isSome=true:=by rw [hT,hS]; exact hb
       have hQ:rbQ (tR a.re a.W a.m).list x y=seQ (nxI a.mn a.es) x y:=by unfold rbQ seQ; rw [hT,hS]
       have hok:(u2 (seQ (nxI a.mn a.es) x y)).ok:=by
        refine ⟨Nat.le_of_eq (Nat.zero_add _),?_⟩;show (seQ (nxI a.mn a.es) x y).length<=_;obtain ⟨q,hq⟩:=Option.isSome_iff_exists.1 hb;have h1:=j2j hq;have h2:l.length<=1000:=hf.2.1;rw [hl,qgl] at h2;unfold seQ;rw [hq];show q.length<=_;omega
       refine ⟨2,by omega,zaa hr (zaa hxy (zaa hg (zaa hb (zaa hN (zaa t1 (zaa hr (zaa hxy (zaa hb2 (hMs (zaa (fun _=>rfl) (zaa (fun _=>rfl) (zaa ⟨hok,?_⟩ (zaa ?_ hNs)))))))))))))⟩
       . rw [hQ]; exact hok
       . rw [hQ]; exact q8a ⟨rfl,fun i hi=>rfl⟩
end
section
variable {V:Nat->Value} {N n k:Nat} {x y:ByteArray}
theorem qvv (x y:ByteArray):(∀ p∈fwA x y true,p)\/((∀ p∈fwA x y false,p)/\x.size<=60/\y.size<=60):=by
 have hok:((twS x y).n:Int)<=2->(twS x y).ok:=fun _=>q3c x y;by_cases h:zif (twS x y) 2
 . exact .inr ⟨zaa hok (zaa (by rw [q8a h]; rfl) qaa),h.2 0 (by show (0:Nat)<2; omega),h.2 1 (by show (1:Nat)<2; omega)⟩
 . exact .inl (zaa hok (zaa (by rw [q0a h]; rfl) qaa))
theorem j4j (hN:n<=N) (hz:(n:Int)<=40->(⟨V,N,n⟩:Pw).okA):Runs zd0 3 [slP 0 n k,.str (.sym x),.str (.sym y)] [rwA V N] lpD1:=by
 have hsh:((⟨V,N * 3 / 3,n⟩:Pw).n:Int)<=40->(⟨V,N * 3 / 3,n⟩:Pw).okA/\(⟨V,N * 3 / 3,n⟩:Pw).n<=1000000:=fun h=>by
  have h:(n:Int)<=40:=h;rw [j8l];exact ⟨hz h,by show n<=_; omega⟩
 have h3:N * 3=N * 3 / 3 * 3:=by omega
 by_cases hp:shP ⟨V,N * 3 / 3,n⟩ 40
 . have hn:(n:Int)<=40:=hp.1;have hn':n<=40:=by omega
   have hV:zgD V n:=(hz hn).2;have hs:∀ i,i<n->(aFr V i).size<=60/\(aTo V i).size<=60:=hp.2;have hB:∀ p∈lpB V N n false,p:=zaa h3 (zaa hsh (zaa (qvh hp) qaa));rcases qvv x y with hw | ⟨hw,hx,hy⟩
   . exact qld (c:=zd0) zdA (q5a (jzj V N n k x y) (qpa hB hw) fun H2 _=>rfl)
   refine q7c zdA (lpK k V N n x y) (lpI n) (fun a=>n - a.i) (fun g nm hg=>by cases hg) ?_ fun a ⟨hi,l,hf,hns⟩ J => ?_
   . refine qgc (M:=lpC V N n k x y true true [] 0 (lsV []) 0 0) (names:=[0,2,3]) (some (1,3)) 20000 ⟨true,true,[],0,lsV [],0,0⟩ ⟨Nat.zero_le _,[],⟨rfl,Nat.zero_le _,rfl,rfl⟩,fun p hp=>by cases hp⟩ (fun z=>jxj V N n k x y z [] 0 (lsV []) 0) (np_i V N n k x y [] 0 (lsV []) 0 0) (fun q hq p u hp hu => ?_) (fun e he=>by cases he) (qpa hB hw)
     rcases List.mem_cons.1 hq with rfl | hq
     . exact q6a (q09 V N n k x y [] 0 (lsV []) 0 0 true) hp hu (fun γ x hx=>hx)
     . obtain rfl:=List.mem_singleton.1 hq;exact q6a (j8n V N n k x y true [] 0 (lsV []) 0 0 true) hp hu (qab rfl)
   . by_cases hin:a.i<n
     . cases hm:a.mn with
       | true=>exact qz1 J hN hn' hV hs hin hf hm
       | false=>exact qy1 hns J hN hn' hV hs hin hf hm
     . obtain ⟨o,ho,hE⟩:=ql3 (x:=x) (y:=y) hf hns hx hy;exact qta none 20000 (fun z=>qhc (j9n V N n k x y J z a.mn a.re a.es a.c a.W a.m a.i) ho) (zaa (decide_eq_false (by omega)) (zaa (decide_eq_false (by omega)) hE)) fun H _=>rfl
 . exact qld (c:=zd0) zdA (q5a (jyj V N n k x y) (zaa h3 (zaa hsh (qtb (q4w hp) 6))) fun H2 _=>rfl)
theorem j5j (x y:ByteArray):∃ ds ps,zaP [] (lpZ x y none) ds=(ps,some (.bool (.lit true),[]))/\∀ p∈ps,p:=by
 have h0:(!cB ((0:Int)<=40))=false:=qvh (by omega)
 rcases qvv x y with hw | ⟨hw,hx,hy⟩
 . exact ⟨_,_,j0j x y,zaa h0 hw⟩
 . obtain ⟨o,ho,hE⟩:=ql3 (a:=⟨true,true,[],0,lsV [],0,0⟩) (l:=[]) (x:=x) (y:=y) ⟨rfl,Nat.zero_le _,rfl,rfl⟩ (fun p hp=>by cases hp) hx hy
   exact ⟨_,_,qhc (jao x y) ho,zaa h0 (qpa hw hE)⟩
end
end
noncomputable section
open Go.Sim Go.WideShapes Go.ChangeShapes
open Go.Proofs
open Go.RowKit
variable {α:Type}
theorem q49 {P:Program} {w:World} {β:Val} {H:List SO} (h:zae P (fun _=>False) w β H w) {x:Addr} {len cap M:Nat} {V:Nat->Value} (hs:x.spot=none) (hl:len<=cap)
  (hx:∀ i,i<M->w.cell? (x.add i)=some (V i)) :
  ∃ β',zae P (fun _=>False) w β' (H++[.row (.raw V M)]) w/\β.le β'/\(slP H.length len cap).den β'=some (.slice (some x) len cap):=by
 have hsn:=h.snoc (Go.Sim.Loc.mk x.block x.off 0) (.row (.raw V M)) ?_ (fun ho=>by cases ho)
 . refine ⟨_,hsn.1,hsn.2,?_⟩;simp only [slP,SV.den,SA.den,SC.den,Val.upd_same,Option.map_some,Option.bind_some,SN.den,Nat.add_zero,qbn];cases x; cases hs;exact if_pos hl
 . refine ⟨_,(List.range M).map V,Val.upd_same ..,⟨by simp,fun i y hy => ?_⟩,fun i y hy => ?_⟩
   . rw [List.getElem?_map] at hy;cases hi:(List.range M)[i]? with
     | none=>rw [hi] at hy; cases hy
     | some j =>
       rw [hi] at hy; cases hy;obtain ⟨h1,h2⟩:=List.getElem?_eq_some_iff.1 hi;rw [List.getElem_range] at h2;subst h2; rfl
   . rw [List.getElem?_map] at hy;cases hi:(List.range M)[i]? with
     | none=>rw [hi] at hy; cases hy
     | some j =>
       rw [hi] at hy; cases hy;obtain ⟨h1,h2⟩:=List.getElem?_eq_some_iff.1 hi;rw [List.getElem_range] at h2;subst h2;have hi:i<M:=by simpa using h1
       have hc:=hx i hi;have e:(x.add i:Addr)=⟨x.block,x.off+i,none⟩:=by
        cases x; cases hs;unfold Addr.add;split
        . rename_i h0; rw [h0]; rfl
        . rfl
       rw [e] at hc;refine ⟨?_,fun f=>f,hc⟩;unfold World.cell? at hc;show x.block<w.heap.size;by_cases hb:x.block<w.heap.size
       . exact hb
       . have hn:w.heap[x.block]? = none:=Array.getElem?_eq_none (by omega)
         simp only [hn] at hc;cases hc
def zeG (w:World) (a:Option Addr) (len cap:Nat) (V:Nat->Value):Prop :=
 (a=none/\len=0/\cap=0)\/∃ x,a=some x/\x.spot=none/\len<=cap/\(∀ i,i<cap * 3->w.cell? (x.add i)=some (V i))/\zgD V cap
def zgU (q:Nat->Int × ByteArray × ByteArray) (j:Nat):Value:=if j % 3=0 then .int .i64 (q (j / 3)).1 else if j % 3=1 then .string (q (j / 3)).2.1 else .string (q (j / 3)).2.2
theorem qm3 (q:Nat->Int × ByteArray × ByteArray) (i:Nat):zgU q (i * 3)=.int .i64 (q i).1/\zgU q (i * 3+1)=.string (q i).2.1/\zgU q (i * 3+2)=.string (q i).2.2:=by
 unfold zgU;refine ⟨?_,?_,?_⟩
 . rw [if_pos (by omega),show i * 3 / 3=i by omega]
 . rw [if_neg (by omega),if_pos (by omega),show (i * 3+1) / 3=i by omega]
 . rw [if_neg (by omega),if_neg (by omega),show (i * 3+2) / 3=i by omega]
theorem j6j (q:Nat->Int × ByteArray × ByteArray) (n:Nat):zgD (zgU q) n:=fun i hi=>by
 obtain ⟨h0,h1,h2⟩:=qm3 q i;unfold aFr aTo;rw [Nat.zero_add,h0,h1,h2];exact ⟨⟨_,rfl⟩,rfl,rfl⟩
section
variable {H:Type} {enc:TypeId × Value->H} {P:Program} {w:World} {r:Reach} {b0 base:Nat} {held:Bool}
theorem zfe {ts te ti tx:TypeId} {f0 f1 f2:Field} {n:Nat} {c:Value} {y:DataW H × List MemPlace} (hs:P.underlying ts=some (.slice te)) (he:P.underlying te=some (.struct #[f0,f1,f2])) (h0:f0.type=ti/\f0.offset=0) (h1:f1.type=tx/\f1.offset=1) (h2:f2.type=tx/\f2.offset=2)
  (hi:P.underlying ti=some (.int .i64)) (hx:P.underlying tx=some .string) (ce:P.cellsOf te=3) (ci:P.cellsOf ti=1) (cx:P.cellsOf tx=1) (k:DataW.trod enc P w base (fun _=>true) held n ts [c]=some y) (hsp:∀ x l m,c=.slice (some x) l m->x.spot=none) :
  ∃ a len cap V,c=.slice a len cap/\zeG w a len cap V:=by
 rcases Go.Deep.open_slice hs k with ⟨hc,_⟩ | ⟨x,l,m,q,n',D,Pl,hc,_,hl,_,hq,_,hcell⟩
 . obtain rfl:c=.slice none 0 0:=by simpa using hc
   exact ⟨none,0,0,fun _=>.bool true,rfl,.inl ⟨rfl,rfl,rfl⟩⟩
 . obtain rfl:c=.slice (some x) l m:=by simpa using hc
   rw [if_pos rfl] at hq;subst hq;have each:∀ i,i<q->∃ p:Int × ByteArray × ByteArray,w.cell? (x.add (i * 3))=some (.int .i64 p.1)/\w.cell? (x.add (i * 3+1))=some (.string p.2.1)/\w.cell? (x.add (i * 3+2))=some (.string p.2.2):=by
    intro i hiq;obtain ⟨cs',g1,g2⟩:=hcell i hiq;rw [ce] at g1;obtain ⟨_,hlen,hcl⟩:=World.cells?_some g1;obtain ⟨xs,k',_,_,_,hxl,hf⟩:=DataW.trod_struct he g2;match xs,hxl,cs',hlen with
    | [y0,y1,y2],_,[v0,v1,v2],_ =>
      have k0:=hf 0 f0 rfl;have k1:=hf 1 f1 rfl;have k2:=hf 2 f2 rfl;rw [h0.1,h0.2,ci] at k0;rw [h1.1,h1.2,cx] at k1;rw [h2.1,h2.2,cx] at k2;obtain ⟨z,rfl⟩:=jvb hi (show DataW.trod enc P w base (fun _=>true) held k' ti [v0]=some y0 from k0)
      obtain ⟨s,rfl⟩:=qiz hx (show DataW.trod enc P w base (fun _=>true) held k' tx [v1]=some y1 from k1)
      obtain ⟨t,rfl⟩:=qiz hx (show DataW.trod enc P w base (fun _=>true) held k' tx [v2]=some y2 from k2)
      have e0:=hcl 0 (by omega)
      have e1:=hcl 1 (by omega)
      have e2:=hcl 2 (by omega)
      rw [Go.Deep.add_add] at e0 e1 e2;exact ⟨(z,s,t),by simpa using e0,by simpa using e1,by simpa using e2⟩
   obtain ⟨p,hp⟩:=Go.Deep.choose_lt each;refine ⟨some x,l,q,zgU p,rfl,.inr ⟨x,rfl,hsp _ _ _ rfl,hl,fun j hj => ?_,j6j p q⟩⟩;obtain ⟨e0,e1,e2⟩:=hp (j / 3) (by omega)
   obtain ⟨v0,v1,v2⟩:=qm3 p (j / 3);rcases (show j=j / 3 * 3\/j=j / 3 * 3+1\/j=j / 3 * 3+2 by omega) with c | c | c
   . rw [c,v0]; exact e0
   . rw [c,v1]; exact e1
   . rw [c,v2]; exact e2
end
end
noncomputable section
open Go.Sim Go.WideShapes Go.ChangeShapes
open Go.Proofs
open Go.RowKit
variable {α:Type}
theorem zeY {w:World} {a:Option Addr} {len cap:Nat} {V:Nat->Value} (hr:zeG w a len cap V) (x y:ByteArray) :
  Calls Tryd.prog 3 #[.slice a len cap,.string x,.string y] w fun e w'=>e=.returned (.bool true)/\Below w.heap.size w w':=by
 rcases hr with ⟨rfl,rfl,rfl⟩ | ⟨v,rfl,hs,hl,hx,hV⟩
 . have ha:SV.zak (fun _=>none) [.zac,.str (.sym x),.str (.sym y)]=some [.slice none 0 0,.string x,.string y]:=rfl;obtain ⟨ds,ps,hr,hp⟩:=j5j x y;exact j0k (zdA.at none) 20000 (zae.start _ _ w) (zaC.none _) ha ds hr hp
 . obtain ⟨β,hH,_,hd⟩:=q49 (zae.start Tryd.prog (fun _=>False) w) hs hl hx;have ha:SV.zak β [slP 0 len cap,.str (.sym x),.str (.sym y)]=some [.slice (some v) len cap,.string x,.string y]:=zad.2 ⟨_,_,hd,rfl,rfl⟩;exact job hH (zaC.none _) ha (j4j (k:=cap) (N:=cap) hl fun _=>⟨hl,fun i hi=>hV i (Nat.lt_of_lt_of_le hi hl)⟩)
end
end Go.Proofs.YtbhlngmhgplepaaDoor.Aes
