/-
  Texts behind one another: the symbolic simulator and what it is told of the program.
-/
import Derived.Test.YtcpafideogckmaaGreatDoorCzAes5
import Derived.Test.YtcpafideogckmaaGreatDoorPc5
namespace Go.Proofs.YtcpafideogckmaaGreatDoor.Aes
noncomputable section
open Go.Sim
open Go.Proofs
variable {α:Type}
def qus (v:SV):Bool:=v.asBool false fun b=>SB.rec (motive:=fun _=>Bool) (fun b=>b) (fun _=>false) b
def qvs (l:List SV):Bool:=List.rec (motive:=fun _=>Bool) false (fun v r _=>boolC (qus v) (List.rec (motive:=fun _=>Bool) true (fun _ _ _=>false) r) false) l
theorem ql2 {v:SV} (h:qus v=true):v=.bool (.lit true):=by
 cases v <;> first | (cases h; done) | skip
 rename_i b
 cases b with
 | lit b=>cases (show b=true from h); rfl
 | sym b=>cases h
theorem qqr {l:List SV} (h:qvs l=true):l=[.bool (.lit true)]:=by
 cases l with
 | nil=>cases h
 | cons v r =>
   have h':boolC (qus v) (List.rec (motive:=fun _=>Bool) true (fun _ _ _=>false) r) false=true:=h
   cases hv:qus v with
   | false=>rw [hv] at h'; cases h'
   | true =>
     rw [hv] at h'
     rw [ql2 hv]
     cases r with
     | nil=>rfl
     | cons=>cases h'
def q7x (e:Option SO):Option (List (BitVec 8)) :=
 optC (qic e) none fun l=>boolC (q0h tabI l) (optC (unb (qfb (qyb l 512) 176)) none fun ks=>boolC (Nat.beq (lenN ks) 176) (boolC (qvs (qyb (qyb l 512) 176)) (some ks) none) none) none
theorem qm2 {ks:List (BitVec 8)} (h:ks.length=176):qfg (qba ks)=ks:=by
 have hf:∀ n k:Nat,q6a n k=List.range' k n:=by
  intro n
  induction n with
  | zero=>intro k; rfl
  | succ n ih=>intro k; show k::q6a n (k+1)=_; rw [ih]; rfl
 unfold qfg
 rw [qwa,hf]
 apply List.ext_getElem
 . simp [h]
 . intro i h1 h2
   simp [qba,List.getElem?_eq_getElem h2]
theorem qn2 {e:Option SO} {ks:List (BitVec 8)} (h:q7x e=some ks):∃ l,qic e=some l/\SV.ImpL l (q0c (qfg (qba ks))):=by
 obtain ⟨l,hl,h⟩:=qdf h
 obtain ⟨h1,h⟩:=qtb h
 obtain ⟨xs,hx,h⟩:=qdf h
 obtain ⟨h2,h⟩:=qtb h
 obtain ⟨h3,h⟩:=qtb h
 cases h
 refine ⟨l,hl,?_⟩
 have h2:=qpa h2
 rw [qva] at h2
 rw [qm2 h2]
 have hlen:lenN tabI=512:=by kernel_rfl
 have h1:=qsi h1
 rw [hlen] at h1
 rw [h1]
 refine qzi (.refl _) ?_
 rw [← q9g (qyb l 512) 176,qqr h3]
 exact qzi (qeh hx) (.refl _)
theorem qpn (f:Nat->Nat) (ks:List (BitVec 8)):SV.renL f (q0c ks)=q0c ks:=by
 unfold q0c
 rw [qof,qof,q1k,q9d]; rfl
theorem q2h (p:Nat->Bool) (ks:List (BitVec 8)):SV.usesL p (q0c ks)=true:=by
 unfold q0c
 rw [q3e,q3e,q8i,qfd]; rfl
theorem qlm {f:Nat->Nat} {e:Option SO} {ks:List (BitVec 8)} (h:q7x e=some ks):∃ e',e=some e'/\qrb f (.row (.lst (q0c (qfg (qba ks))))) e':=by
 obtain ⟨l,hl,hi⟩:=qn2 h
 exact q7b hl (by rw [qpn]; exact hi)
def errR (v:SV) (e:Nat):R SumRes:=.ok ⟨.tuple [v,.int .i64 (.lit (.ofNat e))],[],[]⟩
def j0s (F:(Nat->BitVec 8)->List (BitVec 8)->List (BitVec 8)) (H:List SO) (base:Nat) (ks:List (BitVec 8)) (a:SA):R SumRes :=
 (q4b (nth H a.nm) fun X n=>.need (a.off.den+16<=n)
  (.ok ⟨.tuple [.slice ⟨base,.lit 0⟩ (.lit 16) (.rest base 0),.int .i64 (.lit (.ofNat 0))],[],[.own (.lst (bx (F (qba ks) (qha X a.off.den)))) false 5]⟩))
def qrr (F:(Nat->BitVec 8)->List (BitVec 8)->List (BitVec 8)):Summ:=fun args H base=>qdd args fun c v=>optC (qeg c) (.stuck 650) fun p=>optC (q7x (nth H p)) (.stuck 651) fun ks =>
 qob v (errR .nilSlice 2) fun a l=>boolC (Nat.beq p a.nm) (.stuck 652) (qod l 16 (j0s F H base ks a) (boolC (quc (nth H a.nm)) (errR .nilSlice 2) (.stuck 653)))
theorem qt5 {f:FuncId} {F:(Nat->BitVec 8)->List (BitVec 8)->List (BitVec 8)}
  (hrun:∀ (K X:Nat->BitVec 8) (o n m k:Nat),outF [24] (qca cfg5 6000 f [.ptr ⟨0,.lit 0⟩,.slice ⟨1,.sym o⟩ (.sym k) (.sym m)] [.row (.lst (q0c (qfg K))),rowF X n]) =
   some (((k:Int) != 16),([],some (.tuple [.nilSlice,.int .i64 (.lit (.ofNat 2))],[none])),[16<=k,o+16<=n],some (.tuple [.slice ⟨24,.lit 0⟩ (.lit 16) (.rest 24 0),.int .i64 (.lit (.ofNat 0))],[some (.own (.lst (bx (F K (qha X o)))) false 5)])))
  (herr:∀ (K:Nat->BitVec 8) (o m k:Nat),outF [] (qca cfg5 6000 f [.ptr ⟨0,.lit 0⟩,.slice ⟨1,.sym o⟩ (.sym k) (.sym m)] [.row (.lst (q0c (qfg K))),.gone])=some (((k:Int) != 16),([],some (.tuple [.nilSlice,.int .i64 (.lit (.ofNat 2))],[])),([16<=k],none)))
  (hnil:∀ K:Nat->BitVec 8,outP [] (qca cfg5 6000 f [.ptr ⟨0,.lit 0⟩,.nilSlice] [.row (.lst (q0c (qfg K)))])=([],some (.tuple [.nilSlice,.int .i64 (.lit (.ofNat 2))],[]))) :
  q3a Tryz.prog f (qrr F):=by
 intro glob O w0 β H w base args vs hH hG ha
 refine qnb fun c v hv=>qja fun p h1=>qja fun ks hk=>qxa (fun hn => ?_) fun a l cc hs => ?_
 . rw [hv,q3c h1,hn] at ha
   rw [qga] at hk
   exact qkg qk2 rfl 6000 hH ⟨[p],[.row (.lst (q0c (qfg (qba ks))))],[.ptr ⟨0,.lit 0⟩,.nilSlice]⟩ ha (Ifc.fits (by simp) rfl ⟨⟨qlm hk,q2h _ _⟩,trivial⟩) [] (by simp) (by simp)
    (hnil _) (by simp) fun H2 _=>qkb rfl rfl rfl
 . rw [hv,q3c h1,hs] at ha
   rw [qga] at hk
   obtain ⟨x,ys,hx,hys,rfl⟩:=denL_cons.1 ha
   obtain ⟨y,zs,hy,hz,rfl⟩:=denL_cons.1 hys
   obtain ⟨m,hlm,hd,_,_⟩:=q8a hy
   refine qna (fun _=>trivial) fun hpa => ?_
   refine qxb (fun hl => ?_) fun hl => ?_
   . refine q5a fun X n ht=>fun hn => ?_
     rw [qga] at ht
     refine qru qk2 rfl 6000 hH ⟨[p,a.nm],[.row (.lst (q0c (qfg (qba ks)))),rowF X n],[.ptr ⟨0,.lit 0⟩,.slice ⟨1,.sym a.off.den⟩ (.sym l.den) (.sym m)]⟩ (denL_cons.2 ⟨_,_,hx,denL_cons.2 ⟨_,_,hd,hz,rfl⟩,rfl⟩)
      (Ifc.fits (by simpa using qmb hpa) rfl ⟨⟨qlm hk,q2h _ _⟩,⟨ht _,qya _ _ _⟩,trivial⟩) [24] (by simp) (by simp)
      (hrun (qba ks) X a.off.den n m l.den) (fun hb => ?_) fun _ t' ht'=>qfh ht' ?_ fun H2 hH2 => ?_
     . rw [hl] at hb; cases hb
     . intro q hq
       simp only [List.mem_cons,List.not_mem_nil,or_false] at hq
       rcases hq with rfl | rfl
       . omega
       . exact hn
     . have hH2:H2[24]? = some (.own (.lst (bx (F (qba ks) (qha X a.off.den)))) false 5):=(List.cons.inj hH2).1
       refine ⟨SV.imp_of_eq rfl,rfl,trivial,⟨qbc hH2 (qfd _ _) ?_,trivial⟩⟩
       show SO.own (.lst (SV.renL _ (bx _))) false _=_
       rw [q9d]
   ·
    refine qfa fun hpl => ?_
    rw [qga] at hpl
    refine qru qk2 rfl 6000 hH ⟨[p,a.nm],[.row (.lst (q0c (qfg (qba ks)))),.gone],[.ptr ⟨0,.lit 0⟩,.slice ⟨1,.sym a.off.den⟩ (.sym l.den) (.sym m)]⟩ (denL_cons.2 ⟨_,_,hx,denL_cons.2 ⟨_,_,hd,hz,rfl⟩,rfl⟩)
     (Ifc.fits (by simpa using qmb hpa) rfl ⟨⟨qlm hk,q2h _ _⟩,⟨qxe hpl,trivial⟩,trivial⟩) [] (by simp) (by simp)
     (herr (qba ks) a.off.den m l.den) (fun _ t' ht'=>qpp ht' fun H2 _=>qkb rfl rfl rfl) fun hb => ?_
    exfalso; apply hl
    have:((l.den:Int) == 16)=true:=by simpa [bne] using hb
    have:(l.den:Int)=16:=by simpa using this
    omega
theorem j6c:q3a Tryz.prog 89 (qrr encL):=qt5 jyn (fun K o m k=>(qs5 K o m k).1) fun K=>(qr5 K).1
theorem j7c:q3a Tryz.prog 78 (qrr decL):=qt5 jzn (fun K o m k=>(qs5 K o m k).2) fun K=>(qr5 K).2
end
noncomputable section
open Go.Sim
open Go.Proofs
variable {α:Type}
def qvg:Nat->Option Nat:=fun g=>boolC (Nat.beq g 0) (some 0) none
theorem qk8 (x:BitVec 8):qca cfg0 100 56 [.int .u8 (.b8 x)] []=.fork (decide ((x.toNat:Int)>=128)) (.done (.int .u8 (.b8 (x <<< 1 ^^^ BitVec.ofInt 8 27))) []) (.done (.int .u8 (.b8 (x <<< 1))) []):=by kernel_rfl
theorem qo2:q3a Tryz.prog 56 dblS:=by
 intro glob O w0 β H w base args vs hH hG ha
 refine qub fun v hv=>qja fun x hx => ?_
 subst hv
 refine que q4c rfl 100 hH ⟨[],[],[.int .u8 (.b8 x)]⟩ (q2m ha (qtg hx)) (q5c rfl) [] (by simp) (by simp) ?_
 rw [qk8]
 refine ⟨fun h => ?_,fun h => ?_⟩
 . have e:dbl x=x <<< 1 ^^^ BitVec.ofInt 8 27:=by
    have:128<=x.toNat:=by have:=of_decide_eq_true h; omega
    unfold dbl; rw [if_pos this]; rfl
   rw [e]; exact qkb rfl rfl rfl
 . have e:dbl x=x <<< 1:=by
    have:¬ 128<=x.toNat:=by have:=of_decide_eq_false h; omega
    unfold dbl; rw [if_neg this]
   rw [e]; exact qkb rfl rfl rfl
def qjl:Cfg:=qle (qbb [(56,dblS)])
theorem j1n:CfgOK qjl:=q8b (all1 qo2)
theorem ql8 (x:BitVec 8) :
  qca qjl 400 69 [.int .u8 (.lit 1),.int .u8 (.b8 x)] []=.done (.int .u8 (.b8 (BitVec.ofInt 8 0 ^^^ x))) [] /\
  qca qjl 400 69 [.int .u8 (.lit 2),.int .u8 (.b8 x)] []=.done (.int .u8 (.b8 (BitVec.ofInt 8 0 ^^^ dbl x))) [] /\
  qca qjl 400 69 [.int .u8 (.lit 3),.int .u8 (.b8 x)] []=.done (.int .u8 (.b8 (BitVec.ofInt 8 0 ^^^ x ^^^ dbl x))) [] /\
  qca qjl 400 69 [.int .u8 (.lit 9),.int .u8 (.b8 x)] []=.done (.int .u8 (.b8 (BitVec.ofInt 8 0 ^^^ x ^^^ dbl (dbl (dbl x))))) [] /\
  qca qjl 400 69 [.int .u8 (.lit 11),.int .u8 (.b8 x)] []=.done (.int .u8 (.b8 (BitVec.ofInt 8 0 ^^^ x ^^^ dbl x ^^^ dbl (dbl (dbl x))))) [] /\
  qca qjl 400 69 [.int .u8 (.lit 13),.int .u8 (.b8 x)] []=.done (.int .u8 (.b8 (BitVec.ofInt 8 0 ^^^ x ^^^ dbl (dbl x) ^^^ dbl (dbl (dbl x))))) [] /\
  qca qjl 400 69 [.int .u8 (.lit 14),.int .u8 (.b8 x)] []=.done (.int .u8 (.b8 (BitVec.ofInt 8 0 ^^^ dbl x ^^^ dbl (dbl x) ^^^ dbl (dbl (dbl x))))) []:=by
 refine ⟨?_,?_,?_,?_,?_,?_,?_⟩ <;> kernel_rfl
theorem jlg:q3a Tryz.prog 69 qhw:=by
 intro glob O w0 β H w base args vs hH hG ha
 refine qnb fun u v hv=>qja fun n hn=>qja fun x hx => ?_
 subst hv
 have hu:=qnr hn
 subst hu
 obtain ⟨h1,h2,h3,h9,h11,h13,h14⟩:=ql8 x
 have key:∀ (m:Int) (y z:BitVec 8) (o:R SumRes),qca qjl 400 69 [.int .u8 (.lit m),.int .u8 (.b8 x)] []=.done (.int .u8 (.b8 z)) []->z=y->o.Sat (q4a Tryz.prog H β w base 69 vs) ->
   (boolC (eqI n m) (qwi y) o).Sat (q4a Tryz.prog H β w base 69 vs):=by
  intro m y z o hrun hz ho
  refine qna (fun hm => ?_) fun _=>ho
  have hn:=qhm hm
  subst hn; subst hz
  refine que j1n rfl 400 hH ⟨[],[],[.int .u8 (.lit n),.int .u8 (.b8 x)]⟩ (qoa (.refl _) (qoa (qtg hx) q9b) _ _ ha) (q5c rfl) [] (by simp) (by simp) ?_
  rw [hrun]
  exact qkb rfl rfl rfl
 have z0:BitVec.ofInt 8 0=0#8:=by rfl
 rw [z0] at h1 h2 h3 h9 h11 h13 h14
 refine key 1 _ _ _ h1 (by simp) (key 2 _ _ _ h2 (by simp) (key 3 _ _ _ h3 (by simp [m3]) (key 9 _ _ _ h9 (by simp [m9]) (key 11 _ _ _ h11 (by simp [m11]) (key 13 _ _ _ h13 (by simp [m13]) (key 14 _ _ _ h14 (by simp [m14]) ?_))))))
 trivial
def at2 (W:Nat->BitVec 8) (o:Nat):Nat->BitVec 8:=fun i=>W (o+i)
def qp2 (f g:Nat->Prop) (n:Nat):Nat->List Prop:=Nat.rec (motive:=fun _=>Nat->List Prop) (fun _=>[]) (fun _ ih i=>f i::g i::ih (Nat.succ i)) n
theorem qlw {f g:Nat->Prop}:∀ {n i:Nat},(∀ j,i<=j->j<i+n->f j/\g j)->∀ p∈qp2 f g n i,p
 | 0,i,_,p,hp=>by cases hp
 | n+1,i,h,p,hp=>by
   rcases List.mem_cons.1 (show p∈f i::g i::qp2 f g n (i+1) from hp) with rfl | hp
   . exact (h i (by omega) (by omega)).1
   . rcases List.mem_cons.1 hp with rfl | hp
     . exact (h i (by omega) (by omega)).2
     . exact qlw (fun j h1 h2=>h j (by omega) (by omega)) p hp
theorem jmg (X W:Nat->BitVec 8) (n m o o2 n2 m2 r:Nat) (hr:r<11):outP [2] (qca cfg0 6000 57 [.slice ⟨0,.sym o⟩ (.lit 16) (.sym m),.slice ⟨1,.sym o2⟩ (.lit 176) (.sym m2),.int .i64 (.lit (.ofNat r))] [rowF X n,rowF W n2]) =
  (qp2 (fun i=>o+i<n) (fun i=>o2+(16 * r+i)<n2) 16 0,some (.slice ⟨2,.lit 0⟩ (.lit 16) (.lit 16),[some (.own (.lst (bx (addL (qha X o) (rkey (at2 W o2) r)))) true 5)])):=by
 have hr':r=0\/r=1\/r=2\/r=3\/r=4\/r=5\/r=6\/r=7\/r=8\/r=9\/r=10:=by omega
 rcases hr' with rfl | rfl | rfl | rfl | rfl | rfl | rfl | rfl | rfl | rfl | rfl <;> (show (_:List Prop × Option (SV × List (Option SO)))=_) <;> kernel_rfl
def qq2 (base:Nat) (xs:List (BitVec 8)):R SumRes:=.ok ⟨.slice ⟨base,.lit 0⟩ (.lit 16) (.lit 16),[],[.own (.lst (bx xs)) true 5]⟩
def jcl:Summ:=fun args H base=>qoc args fun v u r=>qob v (.stuck 720) fun a l=>qob u (.stuck 720) fun b l2=>optC (litI r) (.stuck 720) fun r =>
 qod l 16 (qod l2 176 (boolC (Nat.blt r 11) (boolC (Nat.beq a.nm b.nm) (.stuck 721) (q4b (nth H a.nm) fun X n=>q4b (nth H b.nm) fun W n2=>.need (a.off.den+16<=n/\b.off.den+176<=n2) (qq2 base (addL (qha X a.off.den) (rkey (at2 W b.off.den) r))))) (.stuck 722)) (.stuck 722)) (.stuck 722)
theorem qbg {p:Nat->Bool} {g:Nat->Nat} {E:Option SO} {xs:List (BitVec 8)} {w:Bool} {el:TypeId} (h:E=some (.own (.lst (bx xs)) w el)):q5d p g E (.own (.lst (bx xs)) w el):=by
 refine qbc h (qfd _ _) ?_
 show SO.own (.lst (SV.renL _ (bx _))) w el=_
 rw [q9d]
theorem j1s:q3a Tryz.prog 57 jcl:=by
 intro glob O w0 β H w base args vs hH hG ha
 refine qcb fun v u r hv=>qxa (fun _=>trivial) fun a l c1 hs1=>qxa (fun _=>trivial) fun b l2 c2 hs2=>qja fun r hr=>qxb (fun hl=>qxb (fun hl2=>qfa fun hr11=>qna (fun _=>trivial) fun hab=>q5a fun X n ht=>q5a fun W n2 ht2=>fun hn => ?_) fun _=>trivial) fun _=>trivial
 rw [hv,hs1,hs2,qjf hr] at ha
 rw [qga] at ht ht2
 obtain ⟨x,ys,hx,hys,rfl⟩:=denL_cons.1 ha
 obtain ⟨y,zs,hy,hz,rfl⟩:=denL_cons.1 hys
 obtain ⟨m,_,hd,_,_⟩:=q8a hx
 obtain ⟨m2,_,hd2,_,_⟩:=q8a hy
 rw [hl] at hd
 rw [hl2] at hd2
 refine que q4c rfl 6000 hH ⟨[a.nm,b.nm],[rowF X n,rowF W n2],[.slice ⟨0,.sym a.off.den⟩ (.lit 16) (.sym m),.slice ⟨1,.sym b.off.den⟩ (.lit 176) (.sym m2),.int .i64 (.lit (.ofNat r))]⟩
  (denL_cons.2 ⟨_,_,hd,denL_cons.2 ⟨_,_,hd2,hz,rfl⟩,rfl⟩) (Ifc.fits (by simpa using qmb hab) rfl ⟨⟨ht _,qya _ _ _⟩,⟨ht2 _,qya _ _ _⟩,trivial⟩) [2] (by simp) (by simp) ?_
 show (qca cfg0 6000 57 [.slice ⟨0,.sym a.off.den⟩ (.lit 16) (.sym m),.slice ⟨1,.sym b.off.den⟩ (.lit 176) (.sym m2),.int .i64 (.lit (.ofNat r))] [rowF X n,rowF W n2]).Ob _ _
 have hrun:=jmg X W n m a.off.den b.off.den n2 m2 r (qnf hr11)
 generalize qca cfg0 6000 57 [.slice ⟨0,.sym a.off.den⟩ (.lit 16) (.sym m),.slice ⟨1,.sym b.off.den⟩ (.lit 176) (.sym m2),.int .i64 (.lit (.ofNat r))] [rowF X n,rowF W n2]=t at hrun ⊢
 refine qfh hrun (qlw fun j h1 h2 => ?_) fun H2 hH2=>⟨SV.imp_of_eq rfl,rfl,trivial,⟨qbg (List.cons.inj hH2).1,trivial⟩⟩
 have:=qnf hr11
 omega
def pm (k:Bool) (j:Nat) (x:BitVec 8):BitVec 8 :=
 match k,j with
 | true,0=>dbl x
 | true,1=>m3 x
 | true,_=>x
 | false,0=>m14 x
 | false,1=>m11 x
 | false,2=>m13 x
 | false,_=>m9 x
def qne (k:Bool) (l:List (BitVec 8)) (c r:Nat):BitVec 8 :=
 BitVec.ofInt 8 0 ^^^ pm k ((4 - r) % 4) (qba l (4 * c)) ^^^ pm k ((5 - r) % 4) (qba l (4 * c+1)) ^^^ pm k ((6 - r) % 4) (qba l (4 * c+2)) ^^^ pm k ((7 - r) % 4) (qba l (4 * c+3))
def qm8 (k:Bool) (xs:List (BitVec 8)):List (BitVec 8) :=
 [qne k xs 0 0,qne k xs 0 1,qne k xs 0 2,qne k xs 0 3,qne k xs 1 0,qne k xs 1 1,qne k xs 1 2,qne k xs 1 3,
  qne k xs 2 0,qne k xs 2 1,qne k xs 2 2,qne k xs 2 3,qne k xs 3 0,qne k xs 3 1,qne k xs 3 2,qne k xs 3 3]
theorem j2s (a b c:BitVec 8):a ^^^ (b ^^^ c)=b ^^^ (a ^^^ c):=by rw [← BitVec.xor_assoc,BitVec.xor_comm a b,BitVec.xor_assoc]
theorem j8c (k:Bool) (l:List (BitVec 8)) (c r:Nat) (hr:r<4):qne k l c r=qme k l c r:=by
 have z0:BitVec.ofInt 8 0=0#8:=by rfl
 have hr':r=0\/r=1\/r=2\/r=3:=by omega
 unfold qne qme mixW
 rw [z0,BitVec.zero_xor]
 cases k <;> rcases hr' with rfl | rfl | rfl | rfl <;> simp only [pm,Nat.reduceSub,Nat.reduceMod,Nat.add_zero,Nat.reduceAdd,if_true,Bool.false_eq_true,if_false] <;> simp only [BitVec.xor_assoc,BitVec.xor_comm,j2s]
theorem jng (k:Bool) (xs:List (BitVec 8)):qm8 k xs=mixL k xs:=by
 unfold qm8 mixL
 simp only [j8c,Nat.reduceLT]
def qu0:Cfg:=qle (qbb [(69,qhw)])
theorem j2n:CfgOK qu0:=q8b (all1 jlg)
end
end Go.Proofs.YtcpafideogckmaaGreatDoor.Aes
namespace Go.Sim
noncomputable section
open Go.RowKit
variable {α:Type}
theorem spot_of {P:Program} {w:World} {r:Reach} {base t e:Nat} {a:Option Addr} {len cap:Nat} (ht:P.underlying t=some (.slice e)) (h:Value.okWide P w r base t (.slice a len cap)):∀ x,a=some x->x.spot=none:=by
 rintro x rfl
 simp only [Value.okWide,ht,Cell.okWide,Cell.ok] at h
 exact h.2.2.2.1
def ByteRow (w:World) (a:Option Addr) (len cap:Nat) (X:Nat->BitVec 8):Prop :=
 (a=none/\len=0/\cap=0)\/∃ x,a=some x/\x.spot=none/\len<=cap/\cap<=maxLen/\∀ i,i<cap->w.cell? (x.add i)=some (.int .u8 ((X i).toNat:Int))
theorem byteRow_of {w:World} {a:Option Addr} {len cap:Nat} {zs:List Int}
  (h:(a=none/\len=0/\cap=0/\zs=[])\/∃ x,a=some x/\len<=cap/\cap<=maxLen/\zs.length=cap/\(∀ i,i<zs.length->w.cell? (x.add i)=some (.int .u8 (zs.getD i 0)))/\∀ n∈zs,(Lit.int .u8 n).wf=true)
  (hs:∀ x,a=some x->x.spot=none):ByteRow w a len cap fun i=>BitVec.ofInt 8 (zs.getD i 0):=by
 rcases h with ⟨h1,h2,h3,_⟩ | ⟨x,hx,h1,h2,h3,h4,h5⟩
 . exact .inl ⟨h1,h2,h3⟩
 . refine .inr ⟨x,hx,hs x hx,h1,h2,fun i hi => ?_⟩
   rw [h4 i (by omega)]
   have hm:zs.getD i 0∈zs:=by
    rw [List.getD_eq_getElem?_getD,List.getElem?_eq_getElem (by omega)]
    exact List.getElem_mem _
   have hw:=h5 _ hm
   have hr:0<=zs.getD i 0/\zs.getD i 0<=255:=by
    generalize zs.getD i 0=n at hw
    simp [Lit.wf,IntKind.min,IntKind.max,IntKind.signed,IntKind.bits] at hw
    omega
   have:((BitVec.ofInt 8 (zs.getD i 0)).toNat:Int)=zs.getD i 0:=by
    rw [BitVec.toNat_ofInt]
    omega
   show _=some (Value.int .u8 ((BitVec.ofInt 8 (zs.getD i 0)).toNat:Int))
   rw [this]
theorem qsr {P:Program} {w:World} {β:Val} {H:List SO} (h:HeapRel P (fun _=>False) w β H w) {x:Addr} {len cap:Nat} {X:Nat->BitVec 8} (hs:x.spot=none) (hl:len<=cap)
  (hx:∀ i,i<cap->w.cell? (x.add i)=some (.int .u8 ((X i).toNat:Int))) :
  ∃ β',HeapRel P (fun _=>False) w β' (H++[rowF X cap]) w/\β.le β'/\(SV.slice ⟨H.length,.lit 0⟩ (.sym len) (.sym cap)).den β'=some (.slice (some x) len cap):=by
 have hsn:=h.snoc (⟨x.block,x.off,0⟩:Loc) (rowF X cap) ?_ (fun ho=>by cases ho)
 . refine ⟨_,hsn.1,hsn.2,?_⟩
   simp only [SV.den,SA.den,SC.den,Val.upd_same,Option.map_some,Option.bind_some,SN.den,Nat.add_zero,q5l]
   cases x; cases hs
   exact if_pos hl
 . refine ⟨_,(List.range cap).map fun i=>Value.int .u8 ((X i).toNat:Int),Val.upd_same ..,⟨by simp,fun i y hy => ?_⟩,fun i y hy => ?_⟩
   . rw [List.getElem?_map] at hy
     cases hi:(List.range cap)[i]? with
     | none=>rw [hi] at hy; cases hy
     | some j =>
       rw [hi] at hy; cases hy
       have:=List.getElem?_eq_some_iff.1 hi
       obtain ⟨h1,h2⟩:=this
       rw [List.getElem_range] at h2
       subst h2; rfl
   . rw [List.getElem?_map] at hy
     cases hi:(List.range cap)[i]? with
     | none=>rw [hi] at hy; cases hy
     | some j =>
       rw [hi] at hy; cases hy
       obtain ⟨h1,h2⟩:=List.getElem?_eq_some_iff.1 hi
       rw [List.getElem_range] at h2
       subst h2
       have hi:i<cap:=by simpa using h1
       have hc:=hx i hi
       have e:(x.add i:Addr)=⟨x.block,x.off+i,none⟩:=by
        cases x; cases hs
        unfold Addr.add
        split
        . rename_i h0; rw [h0]; rfl
        . rfl
       rw [e] at hc
       refine ⟨?_,fun f=>f,hc⟩
       unfold World.cell? at hc
       show x.block<w.heap.size
       by_cases hb:x.block<w.heap.size
       . exact hb
       . have hn:w.heap[x.block]? = none:=Array.getElem?_eq_none (by omega)
         simp only [hn] at hc
         cases hc
theorem qn8 {c:Cfg} (hc:CfgOK c) (n:Nat) {w:World} {β:Val} {H:List SO} {f:FuncId} {args:List SV} {vs:List Value} (hH:HeapRel c.P (fun _=>False) w β H w) (hG:GlobRel c.glob β) (ha:SV.denL β args=some vs)
  (hob:(qca c n f args H).Ob (fun v _=>v=.bool (.lit true)) fun _=>False):Calls c.P f vs.toArray w fun e w'=>e=.returned (.bool true)/\Below w.heap.size w w':=by
 refine (qqu hc hH hG ha hob).mono fun e w' hcame => ?_
 obtain ⟨v,H',x,β',rfl,rfl,_,hv,hH'⟩:=hcame
 cases hv
 exact ⟨rfl,hH'.keep.below⟩
def outO (js:List Nat) (t:Tree):List Bool->List Prop × Option (SV × List (Option SO)) :=
 Tree.rec (motive:=fun _=>List Bool->List Prop × Option (SV × List (Option SO))) (fun v H _=>([],some (v,mapN (fun j=>nth H j) js))) (fun _ _=>([],none)) (fun p _ ih ds=>(p::(ih ds).1,(ih ds).2))
  (fun b _ _ iht ihf ds=>List.rec (motive:=fun _=>List Prop × Option (SV × List (Option SO))) ([],none) (fun d r _=>((b=d)::(boolC d (iht r) (ihf r)).1,(boolC d (iht r) (ihf r)).2)) ds) (fun _ _=>([],none)) (fun _ _ _=>([],none)) t
theorem q9i {js:List Nat} {t:Tree} {ds:List Bool} {ps:List Prop} {v:SV} {es:List (Option SO)} (h:outO js t ds=(ps,some (v,es))) (hp:∀ p∈ps,p) {D:SV->List SO->Prop} {S:SS->Prop} (hD:∀ H:List SO,js.map (fun j=>H[j]?)=es->D v H):t.Ob D S:=by
 induction t generalizing ps ds with
 | done v' H =>
   have h':([],some (v',mapN (fun j=>nth H j) js))=(ps,some (v,es)):=h
   have h1:=Option.some.inj (Prod.mk.inj h').2
   obtain ⟨h2,h3⟩:=Prod.mk.inj h1
   subst h2
   refine hD H ?_
   rw [qwa] at h3
   rw [← h3]
   exact List.map_congr_left fun j _=>(qga H j).symm
 | stop=>cases (Prod.mk.inj (show ([],none)=(ps,some (v,es)) from h)).2
 | need p t ih =>
   have h':(p::(outO js t ds).1,(outO js t ds).2)=(ps,some (v,es)):=h
   obtain ⟨h1,h2⟩:=Prod.mk.inj h'
   subst h1
   exact ⟨hp p List.mem_cons_self,ih (ds:=ds) (ps:=(outO js t ds).1) (by rw [← h2]) fun q hq=>hp q (List.mem_cons_of_mem _ hq)⟩
 | fork b t f iht ihf =>
   cases ds with
   | nil=>cases (Prod.mk.inj (show ([],none)=(ps,some (v,es)) from h)).2
   | cons d r =>
     have h':((b=d)::(boolC d (outO js t r) (outO js f r)).1,(boolC d (outO js t r) (outO js f r)).2)=(ps,some (v,es)):=h
     obtain ⟨h1,h2⟩:=Prod.mk.inj h'
     subst h1
     have hb:=hp _ List.mem_cons_self
     cases d with
     | true=>exact ⟨fun _=>iht (ds:=r) (ps:=(outO js t r).1) (by rw [← h2]; rfl) fun q hq=>hp q (List.mem_cons_of_mem _ hq),fun hf=>by rw [hf] at hb; cases hb⟩
     | false=>exact ⟨fun ht=>(by rw [ht] at hb; cases hb),fun _=>ihf (ds:=r) (ps:=(outO js f r).1) (by rw [← h2]; rfl) fun q hq=>hp q (List.mem_cons_of_mem _ hq)⟩
 | stuck=>cases (Prod.mk.inj (show ([],none)=(ps,some (v,es)) from h)).2
 | any=>cases (Prod.mk.inj (show ([],none)=(ps,some (v,es)) from h)).2
def outZ (js:List Nat) (t:Tree):List Bool->(Nat->Nat->Nat)->List Prop × Option (SV × List (Option SO)) :=
 Tree.rec (motive:=fun _=>List Bool->(Nat->Nat->Nat)->List Prop × Option (SV × List (Option SO))) (fun v H _ _=>([],some (v,mapN (fun j=>nth H j) js))) (fun _ _ _=>([],none)) (fun p _ ih ds z=>(p::(ih ds z).1,(ih ds z).2))
  (fun b _ _ iht ihf ds z=>List.rec (motive:=fun _=>List Prop × Option (SV × List (Option SO))) ([],none) (fun d r _=>((b=d)::(boolC d (iht r z) (ihf r z)).1,(boolC d (iht r z) (ihf r z)).2)) ds) (fun _ _ _=>([],none)) (fun _ ih ds z=>ih (z 0) ds fun i=>z (i+1)) t
theorem j3n {js:List Nat} {t:Tree} {ds:List Bool} {ps:(Nat->Nat->Nat)->List Prop} {v:(Nat->Nat->Nat)->SV} {es:(Nat->Nat->Nat)->List (Option SO)} (h:∀ z,outZ js t ds z=(ps z,some (v z,es z))) (hp:∀ z,∀ p∈ps z,p) {D:SV->List SO->Prop} {S:SS->Prop} (hD:∀ z,∀ H:List SO,js.map (fun j=>H[j]?)=es z->D (v z) H):t.Ob D S:=by
 have z0:Nat->Nat->Nat:=fun _ _=>0
 induction t generalizing ps v es ds with
 | done v' H =>
   have h:=h z0
   have hD:=hD z0
   have h':([],some (v',mapN (fun j=>nth H j) js))=(ps z0,some (v z0,es z0)):=h
   have h1:=Option.some.inj (Prod.mk.inj h').2
   obtain ⟨h2,h3⟩:=Prod.mk.inj h1
   rw [← h2] at hD
   refine hD H ?_
   rw [qwa] at h3
   rw [← h3]
   exact List.map_congr_left fun j _=>(qga H j).symm
 | stop=>cases (Prod.mk.inj (show ([],none)=(ps z0,some (v z0,es z0)) from h z0)).2
 | need p t ih =>
   have h':∀ z,(p::(outZ js t ds z).1,(outZ js t ds z).2)=(ps z,some (v z,es z)):=h
   refine ⟨?_,ih (ds:=ds) (ps:=fun z=>(outZ js t ds z).1) (v:=v) (es:=es) (fun z=>by rw [← (Prod.mk.inj (h' z)).2]) (fun z q hq=>hp z q ?_) hD⟩
   . have:=(Prod.mk.inj (h' z0)).1
     exact hp z0 p (by rw [← this]; exact List.mem_cons_self)
   . rw [← (Prod.mk.inj (h' z)).1]; exact List.mem_cons_of_mem _ hq
 | fork b t f iht ihf =>
   cases ds with
   | nil=>cases (Prod.mk.inj (show ([],none)=(ps z0,some (v z0,es z0)) from h z0)).2
   | cons d r =>
     have h':∀ z,((b=d)::(boolC d (outZ js t r z) (outZ js f r z)).1,(boolC d (outZ js t r z) (outZ js f r z)).2)=(ps z,some (v z,es z)):=h
     have hb:b=d:=hp z0 _ (by rw [← (Prod.mk.inj (h' z0)).1]; exact List.mem_cons_self)
     have hq:∀ z,∀ q∈(boolC d (outZ js t r z) (outZ js f r z)).1,q:=fun z q hq=>hp z q (by rw [← (Prod.mk.inj (h' z)).1]; exact List.mem_cons_of_mem _ hq)
     cases d with
     | true=>exact ⟨fun _=>iht (ds:=r) (ps:=fun z=>(outZ js t r z).1) (v:=v) (es:=es) (fun z=>by rw [← (Prod.mk.inj (h' z)).2]; rfl) hq hD,fun hf=>by rw [hf] at hb; cases hb⟩
     | false=>exact ⟨fun ht=>(by rw [ht] at hb; cases hb),fun _=>ihf (ds:=r) (ps:=fun z=>(outZ js f r z).1) (v:=v) (es:=es) (fun z=>by rw [← (Prod.mk.inj (h' z)).2]; rfl) hq hD⟩
 | stuck=>cases (Prod.mk.inj (show ([],none)=(ps z0,some (v z0,es z0)) from h z0)).2
 | any k ih =>
   have h':∀ z,outZ js (k (z 0)) ds (fun i=>z (i+1))=(ps z,some (v z,es z)):=h
   intro y
   let c:(Nat->Nat->Nat)->Nat->Nat->Nat:=fun z i=>Nat.rec (motive:=fun _=>Nat->Nat) y (fun j _=>z j) i
   exact ih y (ds:=ds) (ps:=fun z=>ps (c z)) (v:=fun z=>v (c z)) (es:=fun z=>es (c z)) (fun z=>h' (c z)) (fun z=>hp (c z)) (fun z=>hD (c z))
theorem qqb {c:Cfg} (hc:CfgOK c) (hgl:c.glob=fun _=>none) (n:Nat) {O:Nat->Prop} {w0 w:World} {β:Val} {H:List SO} {base:Nat} {f:FuncId} {vs:List Value} (hH:HeapRel0 c.P O w0 β H w)
  (I:Ifc) (ha:SV.denL β (SV.renL I.big I.args)=some vs) (hI:I.Fits H) {r:SumRes} (keep:List Nat) (hk:∀ j∈keep,I.names.length<=j) (hkn:keep.Nodup)
  {js:List Nat} {ds:List Bool} {ps:List Prop} {v:SV} {es:List (Option SO)} (h:outO js (qca c n f I.args I.ents) ds=(ps,some (v,es))) (hp:∀ p∈ps,p) (hD:∀ H2:List SO,js.map (fun j=>H2[j]?)=es->I.Ends base keep r v H2):q4a c.P H β w base f vs r :=
 que hc hgl n hH I ha hI keep hk hkn (q9i h hp hD)
theorem qka {c:Cfg} (hc:CfgOK c) (n:Nat) {O:Nat->Prop} {w0 w:World} {β:Val} {H:List SO} {base:Nat} {f:FuncId} {vs:List Value} (hH:HeapRel0 c.P O w0 β H w)
  (I:Ifc) (hgl:∀ g j,c.glob g=some j->I.known j=true/\∃ l,β (I.big j)=some l/\l.blk=g/\l.off=0) (ha:SV.denL β (SV.renL I.big I.args)=some vs) (hI:I.Fits H) {r:SumRes} (keep:List Nat) (hk:∀ j∈keep,I.names.length<=j) (hkn:keep.Nodup)
  {js:List Nat} {ds:List Bool} {ps:List Prop} {v:SV} {es:List (Option SO)} (h:outO js (qca c n f I.args I.ents) ds=(ps,some (v,es))) (hp:∀ p∈ps,p) (hD:∀ H2:List SO,js.map (fun j=>H2[j]?)=es->I.Ends base keep r v H2):q4a c.P H β w base f vs r :=
 qsg hc n hH I hgl ha hI keep hk hkn (q9i h hp hD)
theorem qaa:∀ p∈([]:List Prop),p:=by simp
theorem all_cons {p:Prop} {ps:List Prop} (h:p) (hs:∀ q∈ps,q):∀ q∈p::ps,q:=by
 intro q hq
 rcases List.mem_cons.1 hq with rfl | hq
 . exact h
 . exact hs q hq
theorem q4e {c:Cfg} (hc:CfgOK c) (n:Nat) {w:World} {β:Val} {H:List SO} {f:FuncId} {args:List SV} {vs:List Value} (hH:HeapRel c.P (fun _=>False) w β H w) (hG:GlobRel c.glob β) (ha:SV.denL β args=some vs) (ds:List Bool)
  {ps:List Prop} (h:outO [] (qca c n f args H) ds=(ps,some (.bool (.lit true),[]))) (hp:∀ p∈ps,p):Calls c.P f vs.toArray w fun e w'=>e=.returned (.bool true)/\Below w.heap.size w w' :=
 qn8 hc n hH hG ha (by generalize qca c n f args H=t at h ⊢; exact q9i h hp fun _ _=>rfl)
def qrp (f:Nat->Prop) (n:Nat):List Prop:=mapN f (q6a n 0)
theorem qez:∀ n k:Nat,q6a n k=List.range' k n:=by
 intro n
 induction n with
 | zero=>intro k; rfl
 | succ n ih=>intro k; show k::q6a n (k+1)=_; rw [ih]; rfl
theorem qtr {f:Nat->Prop} {n:Nat} (h:∀ i,i<n->f i):∀ p∈qrp f n,p:=by
 intro p hp
 unfold qrp at hp
 rw [qwa,qez] at hp
 obtain ⟨i,hi,rfl⟩:=List.mem_map.1 hp
 rw [List.mem_range'] at hi
 obtain ⟨j,hj,rfl⟩:=hi
 exact h _ (by omega)
end
end Go.Sim
namespace Go.Proofs.YtcpafideogckmaaGreatDoor.Aes
noncomputable section
open Go.Sim
open Go.Proofs
variable {α:Type}
set_option maxRecDepth 1000000
theorem jog (k:Bool) (X:Nat->BitVec 8) (n m o:Nat):outP [2] (qca qu0 8000 58 [.slice ⟨0,.sym o⟩ (.lit 16) (.sym m),.agg (lx (qlg k))] [rowF X n]) =
  (qrp (fun i=>o+(4 * (i / 16)+i % 4)<n) 64,some (.slice ⟨2,.lit 0⟩ (.lit 16) (.lit 16),[some (.own (.lst (bx (qm8 k (qha X o)))) true 5)])):=by
 cases k <;> kernel_rfl
def aggL (v:SV):Option (List SV):=v.asAgg none some
theorem j9c {v:SV} {l:List SV} (h:aggL v=some l):v=.agg l:=by
 cases v <;> first | (cases h; done) | (cases h; rfl)
def qo8 (k:Bool) (base:Nat) (X:Nat->BitVec 8) (o:Nat) (g:List SV) (e:R SumRes):R SumRes:=boolC (qqs (qlg k) g) (qq2 base (mixL k (qha X o))) e
def jdl:Summ:=fun args H base=>qdd args fun v g=>qob v (.stuck 730) fun a l=>optC (aggL g) (.stuck 730) fun g =>
 qod l 16 (q4b (nth H a.nm) fun X n=>.need (a.off.den+16<=n) (qo8 true base X a.off.den g (qo8 false base X a.off.den g (.stuck 731)))) (.stuck 731)
theorem j3s:q3a Tryz.prog 58 jdl:=by
 intro glob O w0 β H w base args vs hH hG ha
 refine qnb fun v g hv=>qxa (fun _=>trivial) fun a l c1 hs1=>qja fun g hg=>qxb (fun hl=>q5a fun X n ht=>fun hn => ?_) fun _=>trivial
 rw [hv,hs1,j9c hg] at ha
 rw [qga] at ht
 obtain ⟨x,ys,hx,hys,rfl⟩:=denL_cons.1 ha
 obtain ⟨m,_,hd,_,_⟩:=q8a hx
 rw [hl] at hd
 have key:∀ (k:Bool) (e:R SumRes),e.Sat (q4a Tryz.prog H β w base 58 (x::ys))->(qo8 k base X a.off.den g e).Sat (q4a Tryz.prog H β w base 58 (x::ys)):=by
  intro k e he
  refine qna (fun hk => ?_) fun _=>he
  rw [qil hk] at hys
  refine que j2n rfl 8000 hH ⟨[a.nm],[rowF X n],[.slice ⟨0,.sym a.off.den⟩ (.lit 16) (.sym m),.agg (lx (qlg k))]⟩
   (denL_cons.2 ⟨_,_,hd,?_,rfl⟩) (Ifc.fits (by simp) (by show (true && (SV.usesL _ (lx (qlg k)) && true))=true; rw [q8i]; rfl) ⟨⟨ht _,qya _ _ _⟩,trivial⟩) [2] (by simp) (by simp) ?_
  . show SV.denL β [.agg (SV.renL _ (lx (qlg k)))]=_
    rw [q1k]; exact hys
  . show (qca qu0 8000 58 [.slice ⟨0,.sym a.off.den⟩ (.lit 16) (.sym m),.agg (lx (qlg k))] [rowF X n]).Ob _ _
    have hrun:=jog k X n m a.off.den
    generalize qca qu0 8000 58 [.slice ⟨0,.sym a.off.den⟩ (.lit 16) (.sym m),.agg (lx (qlg k))] [rowF X n]=t at hrun ⊢
    rw [jng] at hrun
    exact qfh hrun (qtr fun j h1=>by omega) fun H2 hH2=>⟨SV.imp_of_eq rfl,rfl,trivial,⟨qbg (List.cons.inj hH2).1,trivial⟩⟩
 exact key true _ (key false _ trivial)
def qp8:List Int:=subs.map Int.ofNat
def tabR:SO:=.row (.lst (lx qp8))
def qkl:Cfg:=cfgG qvg (qbb [(56,dblS),(57,jcl),(58,jdl)])
theorem qu5:CfgOK qkl:=qwb fun x hx=>(allC qo2 (allC j1s (all1 j3s))) x hx _
end
end Go.Proofs.YtcpafideogckmaaGreatDoor.Aes
