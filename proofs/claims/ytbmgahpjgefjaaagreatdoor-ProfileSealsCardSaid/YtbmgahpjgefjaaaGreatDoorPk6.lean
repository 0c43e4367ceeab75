/-
  Texts behind one another: the symbolic simulator and what it is told of the program.
-/
import Derived.Test.YtbmgahpjgefjaaaGreatDoorZAes5
import Derived.Test.YtbmgahpjgefjaaaGreatDoorPk5
namespace Go.Proofs.YtbmgahpjgefjaaaGreatDoor.Aes
open Go.Sim
open Go.Proofs
variable {α:Type}
noncomputable def qts (v:SV):Bool:=v.asBool false fun b=>SB.rec (motive:=fun _=>Bool) (fun b=>b) (fun _=>false) b
noncomputable def qus (l:List SV):Bool:=List.rec (motive:=fun _=>Bool) false (fun v r _=>boolC (qts v) (List.rec (motive:=fun _=>Bool) true (fun _ _ _=>false) r) false) l
theorem qm2 {v:SV} (h:qts v=true):v=.bool (.lit true):=by
  cases v <;> first | (cases h; done) | skip
  rename_i b
  cases b with
  | lit b=>cases (show b=true from h); rfl
  | sym b=>cases h
theorem qpr {l:List SV} (h:qus l=true):l=[.bool (.lit true)]:=by
  cases l with
  | nil=>cases h
  | cons v r =>
    have h':boolC (qts v) (List.rec (motive:=fun _=>Bool) true (fun _ _ _=>false) r) false=true:=h
    cases hv:qts v with
    | false=>rw [hv] at h'; cases h'
    | true =>
      rw [hv] at h'
      rw [qm2 hv]
      cases r with
      | nil=>rfl
      | cons=>cases h'
noncomputable def q9x (e:Option SO):Option (List (BitVec 8)) :=
  optC (qlc e) none fun l=>boolC (qth tabI l) (optC (unb (qfb (qyb l 512) 176)) none fun ks=>boolC (Nat.beq (lenN ks) 176) (boolC (qus (qyb (qyb l 512) 176)) (some ks) none) none) none
theorem qn2 {ks:List (BitVec 8)} (h:ks.length=176):q0f (qaa ks)=ks:=by
  have hf:∀ n k:Nat,qka n k=List.range' k n:=by
    intro n
    induction n with
    | zero=>intro k; rfl
    | succ n ih=>intro k; show k::qka n (k+1)=_; rw [ih]; rfl
  unfold q0f
  rw [qua,hf]
  apply List.ext_getElem
  · simp [h]
  · intro i h1 h2
    simp [qaa,List.getElem?_eq_getElem h2]
theorem qo2 {e:Option SO} {ks:List (BitVec 8)} (h:q9x e=some ks):∃ l,qlc e=some l∧SV.ImpL l (qyc (q0f (qaa ks))):=by
  obtain ⟨l,hl,h⟩:=qye h
  obtain ⟨h1,h⟩:=qsb h
  obtain ⟨xs,hx,h⟩:=qye h
  obtain ⟨h2,h⟩:=qsb h
  obtain ⟨h3,h⟩:=qsb h
  cases h
  refine ⟨l,hl,?_⟩
  have h2:=qna h2
  rw [qwa] at h2
  rw [qn2 h2]
  have hlen:lenN tabI=512:=by kernel_rfl
  have h1:=qki h1
  rw [hlen] at h1
  rw [h1]
  refine qqi (.refl _) ?_
  rw [← qxg (qyb l 512) 176,qpr h3]
  exact qqi (q3g hx) (.refl _)
theorem qnn (f:Nat→Nat) (ks:List (BitVec 8)):SV.renL f (qyc ks)=qyc ks:=by
  unfold qyc
  rw [qdf,qdf,q1k,qyd]; rfl
theorem quh (p:Nat→Bool) (ks:List (BitVec 8)):SV.usesL p (qyc ks)=true:=by
  unfold qyc
  rw [qre,qre,q3i,qcd]; rfl
theorem qlm {f:Nat→Nat} {e:Option SO} {ks:List (BitVec 8)} (h:q9x e=some ks):∃ e',e=some e'∧q3b f (.row (.lst (qyc (q0f (qaa ks))))) e':=by
  obtain ⟨l,hl,hi⟩:=qo2 h
  exact q6b hl (by rw [qnn]; exact hi)
noncomputable def errR (v:SV) (e:Nat):R SumRes:=.ok ⟨.tuple [v,.int .i64 (.lit (.ofNat e))],[],[]⟩
noncomputable def j9q (F:(Nat→BitVec 8)→List (BitVec 8)→List (BitVec 8)) (H:List SO) (base:Nat) (ks:List (BitVec 8)) (a:SA):R SumRes :=
  (qxb (nth H a.nm) fun X n=>.need (a.off.den+16≤n)
    (.ok ⟨.tuple [.slice ⟨base,.lit 0⟩ (.lit 16) (.rest base 0),.int .i64 (.lit (.ofNat 0))],[],[.own (.lst (bx (F (qaa ks) (qha X a.off.den)))) false 5]⟩))
noncomputable def qqr (F:(Nat→BitVec 8)→List (BitVec 8)→List (BitVec 8)):Summ:=fun args H base=>q9c args fun c v=>optC (qzf c) (.stuck 650) fun p=>optC (q9x (nth H p)) (.stuck 651) fun ks =>
  qkb v (errR .nilSlice 2) fun a l=>boolC (Nat.beq p a.nm) (.stuck 652) (qad l 16 (j9q F H base ks a) (boolC (qrc (nth H a.nm)) (errR .nilSlice 2) (.stuck 653)))
theorem qr5 {f:FuncId} {F:(Nat→BitVec 8)→List (BitVec 8)→List (BitVec 8)}
    (hrun:∀ (K X:Nat→BitVec 8) (o n m k:Nat),outF [24] (qba cfg5 6000 f [.ptr ⟨0,.lit 0⟩,.slice ⟨1,.sym o⟩ (.sym k) (.sym m)] [.row (.lst (qyc (q0f K))),rowF X n]) =
      some (((k:Int) != 16),([],some (.tuple [.nilSlice,.int .i64 (.lit (.ofNat 2))],[none])),[16≤k,o+16≤n],some (.tuple [.slice ⟨24,.lit 0⟩ (.lit 16) (.rest 24 0),.int .i64 (.lit (.ofNat 0))],[some (.own (.lst (bx (F K (qha X o)))) false 5)])))
    (herr:∀ (K:Nat→BitVec 8) (o m k:Nat),outF [] (qba cfg5 6000 f [.ptr ⟨0,.lit 0⟩,.slice ⟨1,.sym o⟩ (.sym k) (.sym m)] [.row (.lst (qyc (q0f K))),.gone])=some (((k:Int) != 16),([],some (.tuple [.nilSlice,.int .i64 (.lit (.ofNat 2))],[])),([16≤k],none)))
    (hnil:∀ K:Nat→BitVec 8,outP [] (qba cfg5 6000 f [.ptr ⟨0,.lit 0⟩,.nilSlice] [.row (.lst (qyc (q0f K)))])=([],some (.tuple [.nilSlice,.int .i64 (.lit (.ofNat 2))],[]))) :
    q5a Tryz.prog f (qqr F):=by
  intro glob O w0 β H w base args vs hH hG ha
  refine qlb fun c v hv=>qja fun p h1=>qja fun ks hk=>qva (fun hn => ?_) fun a l cc hs => ?_
  · rw [hv,q0c h1,hn] at ha
    rw [qga] at hk
    exact q7f ql2 rfl 6000 hH ⟨[p],[.row (.lst (qyc (q0f (qaa ks))))],[.ptr ⟨0,.lit 0⟩,.nilSlice]⟩ ha (Ifc.fits (by simp) rfl ⟨⟨qlm hk,quh _ _⟩,trivial⟩) [] (by simp) (by simp)
      (hnil _) (by simp) fun H2 _=>qmc rfl rfl rfl
  · rw [hv,q0c h1,hs] at ha
    rw [qga] at hk
    obtain ⟨x,ys,hx,hys,rfl⟩:=denL_cons.1 ha
    obtain ⟨y,zs,hy,hz,rfl⟩:=denL_cons.1 hys
    obtain ⟨m,hlm,hd,_,_⟩:=q6a hy
    refine qla (fun _=>trivial) fun hpa => ?_
    refine qqb (fun hl => ?_) fun hl => ?_
    · refine q0a fun X n ht=>fun hn => ?_
      rw [qga] at ht
      refine qlu ql2 rfl 6000 hH ⟨[p,a.nm],[.row (.lst (qyc (q0f (qaa ks)))),rowF X n],[.ptr ⟨0,.lit 0⟩,.slice ⟨1,.sym a.off.den⟩ (.sym l.den) (.sym m)]⟩ (denL_cons.2 ⟨_,_,hx,denL_cons.2 ⟨_,_,hd,hz,rfl⟩,rfl⟩)
        (Ifc.fits (by simpa using qbb hpa) rfl ⟨⟨qlm hk,quh _ _⟩,⟨ht _,qsa _ _ _⟩,trivial⟩) [24] (by simp) (by simp)
        (hrun (qaa ks) X a.off.den n m l.den) (fun hb => ?_) fun _ t' ht'=>q4g ht' ?_ fun H2 hH2 => ?_
      · rw [hl] at hb; cases hb
      · intro q hq
        simp only [List.mem_cons,List.not_mem_nil,or_false] at hq
        rcases hq with rfl | rfl
        · omega
        · exact hn
      · have hH2:H2[24]? = some (.own (.lst (bx (F (qaa ks) (qha X a.off.den)))) false 5):=(List.cons.inj hH2).1
        refine ⟨SV.imp_of_eq rfl,rfl,trivial,⟨qdc hH2 (qcd _ _) ?_,trivial⟩⟩
        show SO.own (.lst (SV.renL _ (bx _))) false _=_
        rw [qyd]
    ·
      refine qfa fun hpl => ?_
      rw [qga] at hpl
      refine qlu ql2 rfl 6000 hH ⟨[p,a.nm],[.row (.lst (qyc (q0f (qaa ks)))),.gone],[.ptr ⟨0,.lit 0⟩,.slice ⟨1,.sym a.off.den⟩ (.sym l.den) (.sym m)]⟩ (denL_cons.2 ⟨_,_,hx,denL_cons.2 ⟨_,_,hd,hz,rfl⟩,rfl⟩)
        (Ifc.fits (by simpa using qbb hpa) rfl ⟨⟨qlm hk,quh _ _⟩,⟨qne hpl,trivial⟩,trivial⟩) [] (by simp) (by simp)
        (herr (qaa ks) a.off.den m l.den) (fun _ t' ht'=>qlp ht' fun H2 _=>qmc rfl rfl rfl) fun hb => ?_
      exfalso; apply hl
      have:((l.den:Int) == 16)=true:=by simpa [bne] using hb
      have:(l.den:Int)=16:=by simpa using this
      omega
theorem jdc:q5a Tryz.prog 143 (qqr encL):=qr5 jhm (fun K o m k=>(qq5 K o m k).1) fun K=>(qp5 K).1
theorem jec:q5a Tryz.prog 121 (qqr decL):=qr5 jim (fun K o m k=>(qq5 K o m k).2) fun K=>(qp5 K).2
end Go.Proofs.YtbmgahpjgefjaaaGreatDoor.Aes
namespace Go.Proofs.YtbmgahpjgefjaaaGreatDoor.Aes
open Go.Sim
open Go.Proofs
variable {α:Type}
noncomputable def qof:Nat→Option Nat:=fun g=>boolC (Nat.beq g 0) (some 0) none
theorem qd8 (x:BitVec 8):qba cfg0 100 94 [.int .u8 (.b8 x)] []=.fork (decide ((x.toNat:Int)≥128)) (.done (.int .u8 (.b8 (x <<< 1 ^^^ BitVec.ofInt 8 27))) []) (.done (.int .u8 (.b8 (x <<< 1))) []):=by kernel_rfl
theorem qp2:q5a Tryz.prog 94 dblS:=by
  intro glob O w0 β H w base args vs hH hG ha
  refine qtb fun v hv=>qja fun x hx => ?_
  subst hv
  refine qke qsc rfl 100 hH ⟨[],[],[.int .u8 (.b8 x)]⟩ (q4m ha (qig hx)) (qed rfl) [] (by simp) (by simp) ?_
  rw [qd8]
  refine ⟨fun h => ?_,fun h => ?_⟩
  · have e:dbl x=x <<< 1 ^^^ BitVec.ofInt 8 27:=by
      have:128≤x.toNat:=by have:=of_decide_eq_true h; omega
      unfold dbl; rw [if_pos this]; rfl
    rw [e]; exact qmc rfl rfl rfl
  · have e:dbl x=x <<< 1:=by
      have:¬ 128≤x.toNat:=by have:=of_decide_eq_false h; omega
      unfold dbl; rw [if_neg this]
    rw [e]; exact qmc rfl rfl rfl
noncomputable def qhl:Cfg:=qae (qcb [(94,dblS)])
theorem jkm:CfgOK qhl:=q7b (all1 qp2)
theorem qe8 (x:BitVec 8) :
    qba qhl 400 112 [.int .u8 (.lit 1),.int .u8 (.b8 x)] []=.done (.int .u8 (.b8 (BitVec.ofInt 8 0 ^^^ x))) [] ∧
    qba qhl 400 112 [.int .u8 (.lit 2),.int .u8 (.b8 x)] []=.done (.int .u8 (.b8 (BitVec.ofInt 8 0 ^^^ dbl x))) [] ∧
    qba qhl 400 112 [.int .u8 (.lit 3),.int .u8 (.b8 x)] []=.done (.int .u8 (.b8 (BitVec.ofInt 8 0 ^^^ x ^^^ dbl x))) [] ∧
    qba qhl 400 112 [.int .u8 (.lit 9),.int .u8 (.b8 x)] []=.done (.int .u8 (.b8 (BitVec.ofInt 8 0 ^^^ x ^^^ dbl (dbl (dbl x))))) [] ∧
    qba qhl 400 112 [.int .u8 (.lit 11),.int .u8 (.b8 x)] []=.done (.int .u8 (.b8 (BitVec.ofInt 8 0 ^^^ x ^^^ dbl x ^^^ dbl (dbl (dbl x))))) [] ∧
    qba qhl 400 112 [.int .u8 (.lit 13),.int .u8 (.b8 x)] []=.done (.int .u8 (.b8 (BitVec.ofInt 8 0 ^^^ x ^^^ dbl (dbl x) ^^^ dbl (dbl (dbl x))))) [] ∧
    qba qhl 400 112 [.int .u8 (.lit 14),.int .u8 (.b8 x)] []=.done (.int .u8 (.b8 (BitVec.ofInt 8 0 ^^^ dbl x ^^^ dbl (dbl x) ^^^ dbl (dbl (dbl x))))) []:=by
  refine ⟨?_,?_,?_,?_,?_,?_,?_⟩ <;> kernel_rfl
theorem jyf:q5a Tryz.prog 112 qfw:=by
  intro glob O w0 β H w base args vs hH hG ha
  refine qlb fun u v hv=>qja fun n hn=>qja fun x hx => ?_
  subst hv
  have hu:=qmr hn
  subst hu
  obtain ⟨h1,h2,h3,h9,h11,h13,h14⟩:=qe8 x
  have key:∀ (m:Int) (y z:BitVec 8) (o:R SumRes),qba qhl 400 112 [.int .u8 (.lit m),.int .u8 (.b8 x)] []=.done (.int .u8 (.b8 z)) []→z=y→o.Sat (q3a Tryz.prog H β w base 112 vs) →
      (boolC (eqI n m) (qni y) o).Sat (q3a Tryz.prog H β w base 112 vs):=by
    intro m y z o hrun hz ho
    refine qla (fun hm => ?_) fun _=>ho
    have hn:=qgm hm
    subst hn; subst hz
    refine qke jkm rfl 400 hH ⟨[],[],[.int .u8 (.lit n),.int .u8 (.b8 x)]⟩ (qma (.refl _) (qma (qig hx) qac) _ _ ha) (qed rfl) [] (by simp) (by simp) ?_
    rw [hrun]
    exact qmc rfl rfl rfl
  have z0:BitVec.ofInt 8 0=0#8:=by rfl
  rw [z0] at h1 h2 h3 h9 h11 h13 h14
  refine key 1 _ _ _ h1 (by simp) (key 2 _ _ _ h2 (by simp) (key 3 _ _ _ h3 (by simp [m3]) (key 9 _ _ _ h9 (by simp [m9]) (key 11 _ _ _ h11 (by simp [m11]) (key 13 _ _ _ h13 (by simp [m13]) (key 14 _ _ _ h14 (by simp [m14]) ?_))))))
  trivial
noncomputable def at2 (W:Nat→BitVec 8) (o:Nat):Nat→BitVec 8:=fun i=>W (o+i)
noncomputable def qq2 (f g:Nat→Prop) (n:Nat):Nat→List Prop:=Nat.rec (motive:=fun _=>Nat→List Prop) (fun _=>[]) (fun _ ih i=>f i::g i::ih (Nat.succ i)) n
theorem qjw {f g:Nat→Prop}:∀ {n i:Nat},(∀ j,i≤j→j<i+n→f j∧g j)→∀ p∈qq2 f g n i,p
  | 0,i,_,p,hp=>by cases hp
  | n+1,i,h,p,hp=>by
    rcases List.mem_cons.1 (show p∈f i::g i::qq2 f g n (i+1) from hp) with rfl | hp
    · exact (h i (by omega) (by omega)).1
    · rcases List.mem_cons.1 hp with rfl | hp
      · exact (h i (by omega) (by omega)).2
      · exact qjw (fun j h1 h2=>h j (by omega) (by omega)) p hp
theorem jzf (X W:Nat→BitVec 8) (n m o o2 n2 m2 r:Nat) (hr:r<11):outP [2] (qba cfg0 6000 95 [.slice ⟨0,.sym o⟩ (.lit 16) (.sym m),.slice ⟨1,.sym o2⟩ (.lit 176) (.sym m2),.int .i64 (.lit (.ofNat r))] [rowF X n,rowF W n2]) =
    (qq2 (fun i=>o+i<n) (fun i=>o2+(16 * r+i)<n2) 16 0,some (.slice ⟨2,.lit 0⟩ (.lit 16) (.lit 16),[some (.own (.lst (bx (addL (qha X o) (rkey (at2 W o2) r)))) true 5)])):=by
  have hr':r=0∨r=1∨r=2∨r=3∨r=4∨r=5∨r=6∨r=7∨r=8∨r=9∨r=10:=by omega
  rcases hr' with rfl | rfl | rfl | rfl | rfl | rfl | rfl | rfl | rfl | rfl | rfl <;> (show (_:List Prop × Option (SV × List (Option SO)))=_) <;> kernel_rfl
noncomputable def qr2 (base:Nat) (xs:List (BitVec 8)):R SumRes:=.ok ⟨.slice ⟨base,.lit 0⟩ (.lit 16) (.lit 16),[],[.own (.lst (bx xs)) true 5]⟩
noncomputable def jyj:Summ:=fun args H base=>quc args fun v u r=>qkb v (.stuck 720) fun a l=>qkb u (.stuck 720) fun b l2=>optC (litI r) (.stuck 720) fun r =>
  qad l 16 (qad l2 176 (boolC (Nat.blt r 11) (boolC (Nat.beq a.nm b.nm) (.stuck 721) (qxb (nth H a.nm) fun X n=>qxb (nth H b.nm) fun W n2=>.need (a.off.den+16≤n∧b.off.den+176≤n2) (qr2 base (addL (qha X a.off.den) (rkey (at2 W b.off.den) r))))) (.stuck 722)) (.stuck 722)) (.stuck 722)
theorem q7e {p:Nat→Bool} {g:Nat→Nat} {E:Option SO} {xs:List (BitVec 8)} {w:Bool} {el:TypeId} (h:E=some (.own (.lst (bx xs)) w el)):qrd p g E (.own (.lst (bx xs)) w el):=by
  refine qdc h (qcd _ _) ?_
  show SO.own (.lst (SV.renL _ (bx _))) w el=_
  rw [qyd]
theorem jar:q5a Tryz.prog 95 jyj:=by
  intro glob O w0 β H w base args vs hH hG ha
  refine qib fun v u r hv=>qva (fun _=>trivial) fun a l c1 hs1=>qva (fun _=>trivial) fun b l2 c2 hs2=>qja fun r hr=>qqb (fun hl=>qqb (fun hl2=>qfa fun hr11=>qla (fun _=>trivial) fun hab=>q0a fun X n ht=>q0a fun W n2 ht2=>fun hn => ?_) fun _=>trivial) fun _=>trivial
  rw [hv,hs1,hs2,q6e hr] at ha
  rw [qga] at ht ht2
  obtain ⟨x,ys,hx,hys,rfl⟩:=denL_cons.1 ha
  obtain ⟨y,zs,hy,hz,rfl⟩:=denL_cons.1 hys
  obtain ⟨m,_,hd,_,_⟩:=q6a hx
  obtain ⟨m2,_,hd2,_,_⟩:=q6a hy
  rw [hl] at hd
  rw [hl2] at hd2
  refine qke qsc rfl 6000 hH ⟨[a.nm,b.nm],[rowF X n,rowF W n2],[.slice ⟨0,.sym a.off.den⟩ (.lit 16) (.sym m),.slice ⟨1,.sym b.off.den⟩ (.lit 176) (.sym m2),.int .i64 (.lit (.ofNat r))]⟩
    (denL_cons.2 ⟨_,_,hd,denL_cons.2 ⟨_,_,hd2,hz,rfl⟩,rfl⟩) (Ifc.fits (by simpa using qbb hab) rfl ⟨⟨ht _,qsa _ _ _⟩,⟨ht2 _,qsa _ _ _⟩,trivial⟩) [2] (by simp) (by simp) ?_
  show (qba cfg0 6000 95 [.slice ⟨0,.sym a.off.den⟩ (.lit 16) (.sym m),.slice ⟨1,.sym b.off.den⟩ (.lit 176) (.sym m2),.int .i64 (.lit (.ofNat r))] [rowF X n,rowF W n2]).Ob _ _
  have hrun:=jzf X W n m a.off.den b.off.den n2 m2 r (qcf hr11)
  generalize qba cfg0 6000 95 [.slice ⟨0,.sym a.off.den⟩ (.lit 16) (.sym m),.slice ⟨1,.sym b.off.den⟩ (.lit 176) (.sym m2),.int .i64 (.lit (.ofNat r))] [rowF X n,rowF W n2]=t at hrun ⊢
  refine q4g hrun (qjw fun j h1 h2 => ?_) fun H2 hH2=>⟨SV.imp_of_eq rfl,rfl,trivial,⟨q7e (List.cons.inj hH2).1,trivial⟩⟩
  have:=qcf hr11
  omega
def pm (k:Bool) (j:Nat) (x:BitVec 8):BitVec 8 :=
  match k,j with
  | true,0=>dbl x
  | true,1=>m3 x
  | true,_=>x
  | false,0=>m14 x
  | false,1=>m11 x
  | false,2=>m13 x
  | false,_=>m9 x
def qde (k:Bool) (l:List (BitVec 8)) (c r:Nat):BitVec 8 :=
  BitVec.ofInt 8 0 ^^^ pm k ((4 - r) % 4) (qaa l (4 * c)) ^^^ pm k ((5 - r) % 4) (qaa l (4 * c+1)) ^^^ pm k ((6 - r) % 4) (qaa l (4 * c+2)) ^^^ pm k ((7 - r) % 4) (qaa l (4 * c+3))
def qf8 (k:Bool) (xs:List (BitVec 8)):List (BitVec 8) :=
  [qde k xs 0 0,qde k xs 0 1,qde k xs 0 2,qde k xs 0 3,qde k xs 1 0,qde k xs 1 1,qde k xs 1 2,qde k xs 1 3,
   qde k xs 2 0,qde k xs 2 1,qde k xs 2 2,qde k xs 2 3,qde k xs 3 0,qde k xs 3 1,qde k xs 3 2,qde k xs 3 3]
theorem jbr (a b c:BitVec 8):a ^^^ (b ^^^ c)=b ^^^ (a ^^^ c):=by rw [← BitVec.xor_assoc,BitVec.xor_comm a b,BitVec.xor_assoc]
theorem jfc (k:Bool) (l:List (BitVec 8)) (c r:Nat) (hr:r<4):qde k l c r=qbe k l c r:=by
  have z0:BitVec.ofInt 8 0=0#8:=by rfl
  have hr':r=0∨r=1∨r=2∨r=3:=by omega
  unfold qde qbe mixW
  rw [z0,BitVec.zero_xor]
  cases k <;> rcases hr' with rfl | rfl | rfl | rfl <;> simp only [pm,Nat.reduceSub,Nat.reduceMod,Nat.add_zero,Nat.reduceAdd,if_true,Bool.false_eq_true,if_false] <;> simp only [BitVec.xor_assoc,BitVec.xor_comm,jbr]
theorem j0f (k:Bool) (xs:List (BitVec 8)):qf8 k xs=mixL k xs:=by
  unfold qf8 mixL
  simp only [jfc,Nat.reduceLT]
noncomputable def qv0:Cfg:=qae (qcb [(112,qfw)])
theorem jlm:CfgOK qv0:=q7b (all1 jyf)
end Go.Proofs.YtbmgahpjgefjaaaGreatDoor.Aes
namespace Go.Sim
open Go.RowKit
variable {α:Type}
theorem spot_of {P:Program} {w:World} {r:Reach} {base t e:Nat} {a:Option Addr} {len cap:Nat} (ht:P.underlying t=some (.slice e)) (h:Value.okWide P w r base t (.slice a len cap)):∀ x,a=some x→x.spot=none:=by
  rintro x rfl
  simp only [Value.okWide,ht,Cell.okWide,Cell.ok] at h
  exact h.2.2.2.1
def ByteRow (w:World) (a:Option Addr) (len cap:Nat) (X:Nat→BitVec 8):Prop :=
  (a=none∧len=0∧cap=0)∨∃ x,a=some x∧x.spot=none∧len≤cap∧cap≤maxLen∧∀ i,i<cap→w.cell? (x.add i)=some (.int .u8 ((X i).toNat:Int))
theorem byteRow_of {w:World} {a:Option Addr} {len cap:Nat} {zs:List Int}
    (h:(a=none∧len=0∧cap=0∧zs=[])∨∃ x,a=some x∧len≤cap∧cap≤maxLen∧zs.length=cap∧(∀ i,i<zs.length→w.cell? (x.add i)=some (.int .u8 (zs.getD i 0)))∧∀ n∈zs,(Lit.int .u8 n).wf=true)
    (hs:∀ x,a=some x→x.spot=none):ByteRow w a len cap fun i=>BitVec.ofInt 8 (zs.getD i 0):=by
  rcases h with ⟨h1,h2,h3,_⟩ | ⟨x,hx,h1,h2,h3,h4,h5⟩
  · exact .inl ⟨h1,h2,h3⟩
  · refine .inr ⟨x,hx,hs x hx,h1,h2,fun i hi => ?_⟩
    rw [h4 i (by omega)]
    have hm:zs.getD i 0∈zs:=by
      rw [List.getD_eq_getElem?_getD,List.getElem?_eq_getElem (by omega)]
      exact List.getElem_mem _
    have hw:=h5 _ hm
    have hr:0≤zs.getD i 0∧zs.getD i 0≤255:=by
      generalize zs.getD i 0=n at hw
      simp [Lit.wf,IntKind.min,IntKind.max,IntKind.signed,IntKind.bits] at hw
      omega
    have:((BitVec.ofInt 8 (zs.getD i 0)).toNat:Int)=zs.getD i 0:=by
      rw [BitVec.toNat_ofInt]
      omega
    show _=some (Value.int .u8 ((BitVec.ofInt 8 (zs.getD i 0)).toNat:Int))
    rw [this]
theorem q4i {P:Program} {w:World} {β:Val} {H:List SO} (h:HeapRel P (fun _=>False) w β H w) {x:Addr} {len cap:Nat} {X:Nat→BitVec 8} (hs:x.spot=none) (hl:len≤cap)
    (hx:∀ i,i<cap→w.cell? (x.add i)=some (.int .u8 ((X i).toNat:Int))) :
    ∃ β',HeapRel P (fun _=>False) w β' (H++[rowF X cap]) w∧β.le β'∧(SV.slice ⟨H.length,.lit 0⟩ (.sym len) (.sym cap)).den β'=some (.slice (some x) len cap):=by
  have hsn:=h.snoc (⟨x.block,x.off,0⟩:Loc) (rowF X cap) ?_ (fun ho=>by cases ho)
  · refine ⟨_,hsn.1,hsn.2,?_⟩
    simp only [SV.den,SA.den,SC.den,Val.upd_same,Option.map_some,Option.bind_some,SN.den,Nat.add_zero,q4l]
    cases x; cases hs
    exact if_pos hl
  · refine ⟨_,(List.range cap).map fun i=>Value.int .u8 ((X i).toNat:Int),Val.upd_same ..,⟨by simp,fun i y hy => ?_⟩,fun i y hy => ?_⟩
    · rw [List.getElem?_map] at hy
      cases hi:(List.range cap)[i]? with
      | none=>rw [hi] at hy; cases hy
      | some j =>
        rw [hi] at hy; cases hy
        have:=List.getElem?_eq_some_iff.1 hi
        obtain ⟨h1,h2⟩:=this
        rw [List.getElem_range] at h2
        subst h2; rfl
    · rw [List.getElem?_map] at hy
      cases hi:(List.range cap)[i]? with
      | none=>rw [hi] at hy; cases hy
      | some j =>
        rw [hi] at hy; cases hy
        obtain ⟨h1,h2⟩:=List.getElem?_eq_some_iff.1 hi
        rw [List.getElem_range] at h2
        subst h2
        have hi:i<cap:=by simpa using h1
        have hc:=hx i hi
        have e:(x.add i:Addr)=⟨x.block,x.off+i,none⟩:=by
          cases x; cases hs
          unfold Addr.add
          split
          · rename_i h0; rw [h0]; rfl
          · rfl
        rw [e] at hc
        refine ⟨?_,fun f=>f,hc⟩
        unfold World.cell? at hc
        show x.block<w.heap.size
        by_cases hb:x.block<w.heap.size
        · exact hb
        · have hn:w.heap[x.block]? = none:=Array.getElem?_eq_none (by omega)
          simp only [hn] at hc
          cases hc
theorem qg8 {c:Cfg} (hc:CfgOK c) (n:Nat) {w:World} {β:Val} {H:List SO} {f:FuncId} {args:List SV} {vs:List Value} (hH:HeapRel c.P (fun _=>False) w β H w) (hG:GlobRel c.glob β) (ha:SV.denL β args=some vs)
    (hob:(qba c n f args H).Ob (fun v _=>v=.bool (.lit true)) fun _=>False):Calls c.P f vs.toArray w fun e w'=>e=.returned (.bool true)∧Below w.heap.size w w':=by
  refine (qku hc hH hG ha hob).mono fun e w' hcame => ?_
  obtain ⟨v,H',x,β',rfl,rfl,_,hv,hH'⟩:=hcame
  cases hv
  exact ⟨rfl,hH'.keep.below⟩
noncomputable def outO (js:List Nat) (t:Tree):List Bool→List Prop × Option (SV × List (Option SO)) :=
  Tree.rec (motive:=fun _=>List Bool→List Prop × Option (SV × List (Option SO))) (fun v H _=>([],some (v,mapN (fun j=>nth H j) js))) (fun _ _=>([],none)) (fun p _ ih ds=>(p::(ih ds).1,(ih ds).2))
    (fun b _ _ iht ihf ds=>List.rec (motive:=fun _=>List Prop × Option (SV × List (Option SO))) ([],none) (fun d r _=>((b=d)::(boolC d (iht r) (ihf r)).1,(boolC d (iht r) (ihf r)).2)) ds) (fun _ _=>([],none)) (fun _ _ _=>([],none)) t
theorem q5g {js:List Nat} {t:Tree} {ds:List Bool} {ps:List Prop} {v:SV} {es:List (Option SO)} (h:outO js t ds=(ps,some (v,es))) (hp:∀ p∈ps,p) {D:SV→List SO→Prop} {S:SS→Prop} (hD:∀ H:List SO,js.map (fun j=>H[j]?)=es→D v H):t.Ob D S:=by
  induction t generalizing ps ds with
  | done v' H =>
    have h':([],some (v',mapN (fun j=>nth H j) js))=(ps,some (v,es)):=h
    have h1:=Option.some.inj (Prod.mk.inj h').2
    obtain ⟨h2,h3⟩:=Prod.mk.inj h1
    subst h2
    refine hD H ?_
    rw [qua] at h3
    rw [← h3]
    exact List.map_congr_left fun j _=>(qga H j).symm
  | stop=>cases (Prod.mk.inj (show ([],none)=(ps,some (v,es)) from h)).2
  | need p t ih =>
    have h':(p::(outO js t ds).1,(outO js t ds).2)=(ps,some (v,es)):=h
    obtain ⟨h1,h2⟩:=Prod.mk.inj h'
    subst h1
    exact ⟨hp p List.mem_cons_self,ih (ds:=ds) (ps:=(outO js t ds).1) (by rw [← h2]) fun q hq=>hp q (List.mem_cons_of_mem _ hq)⟩
  | fork b t f iht ihf =>
    cases ds with
    | nil=>cases (Prod.mk.inj (show ([],none)=(ps,some (v,es)) from h)).2
    | cons d r =>
      have h':((b=d)::(boolC d (outO js t r) (outO js f r)).1,(boolC d (outO js t r) (outO js f r)).2)=(ps,some (v,es)):=h
      obtain ⟨h1,h2⟩:=Prod.mk.inj h'
      subst h1
      have hb:=hp _ List.mem_cons_self
      cases d with
      | true=>exact ⟨fun _=>iht (ds:=r) (ps:=(outO js t r).1) (by rw [← h2]; rfl) fun q hq=>hp q (List.mem_cons_of_mem _ hq),fun hf=>by rw [hf] at hb; cases hb⟩
      | false=>exact ⟨fun ht=>(by rw [ht] at hb; cases hb),fun _=>ihf (ds:=r) (ps:=(outO js f r).1) (by rw [← h2]; rfl) fun q hq=>hp q (List.mem_cons_of_mem _ hq)⟩
  | stuck=>cases (Prod.mk.inj (show ([],none)=(ps,some (v,es)) from h)).2
  | any=>cases (Prod.mk.inj (show ([],none)=(ps,some (v,es)) from h)).2
noncomputable def outZ (js:List Nat) (t:Tree):List Bool→(Nat→Nat→Nat)→List Prop × Option (SV × List (Option SO)) :=
  Tree.rec (motive:=fun _=>List Bool→(Nat→Nat→Nat)→List Prop × Option (SV × List (Option SO))) (fun v H _ _=>([],some (v,mapN (fun j=>nth H j) js))) (fun _ _ _=>([],none)) (fun p _ ih ds z=>(p::(ih ds z).1,(ih ds z).2))
    (fun b _ _ iht ihf ds z=>List.rec (motive:=fun _=>List Prop × Option (SV × List (Option SO))) ([],none) (fun d r _=>((b=d)::(boolC d (iht r z) (ihf r z)).1,(boolC d (iht r z) (ihf r z)).2)) ds) (fun _ _ _=>([],none)) (fun _ ih ds z=>ih (z 0) ds fun i=>z (i+1)) t
theorem jmm {js:List Nat} {t:Tree} {ds:List Bool} {ps:(Nat→Nat→Nat)→List Prop} {v:(Nat→Nat→Nat)→SV} {es:(Nat→Nat→Nat)→List (Option SO)} (h:∀ z,outZ js t ds z=(ps z,some (v z,es z))) (hp:∀ z,∀ p∈ps z,p) {D:SV→List SO→Prop} {S:SS→Prop} (hD:∀ z,∀ H:List SO,js.map (fun j=>H[j]?)=es z→D (v z) H):t.Ob D S:=by
  have z0:Nat→Nat→Nat:=fun _ _=>0
  induction t generalizing ps v es ds with
  | done v' H =>
    have h:=h z0
    have hD:=hD z0
    have h':([],some (v',mapN (fun j=>nth H j) js))=(ps z0,some (v z0,es z0)):=h
    have h1:=Option.some.inj (Prod.mk.inj h').2
    obtain ⟨h2,h3⟩:=Prod.mk.inj h1
    rw [← h2] at hD
    refine hD H ?_
    rw [qua] at h3
    rw [← h3]
    exact List.map_congr_left fun j _=>(qga H j).symm
  | stop=>cases (Prod.mk.inj (show ([],none)=(ps z0,some (v z0,es z0)) from h z0)).2
  | need p t ih =>
    have h':∀ z,(p::(outZ js t ds z).1,(outZ js t ds z).2)=(ps z,some (v z,es z)):=h
    refine ⟨?_,ih (ds:=ds) (ps:=fun z=>(outZ js t ds z).1) (v:=v) (es:=es) (fun z=>by rw [← (Prod.mk.inj (h' z)).2]) (fun z q hq=>hp z q ?_) hD⟩
    · have:=(Prod.mk.inj (h' z0)).1
      exact hp z0 p (by rw [← this]; exact List.mem_cons_self)
    · rw [← (Prod.mk.inj (h' z)).1]; exact List.mem_cons_of_mem _ hq
  | fork b t f iht ihf =>
    cases ds with
    | nil=>cases (Prod.mk.inj (show ([],none)=(ps z0,some (v z0,es z0)) from h z0)).2
    | cons d r =>
      have h':∀ z,((b=d)::(boolC d (outZ js t r z) (outZ js f r z)).1,(boolC d (outZ js t r z) (outZ js f r z)).2)=(ps z,some (v z,es z)):=h
      have hb:b=d:=hp z0 _ (by rw [← (Prod.mk.inj (h' z0)).1]; exact List.mem_cons_self)
      have hq:∀ z,∀ q∈(boolC d (outZ js t r z) (outZ js f r z)).1,q:=fun z q hq=>hp z q (by rw [← (Prod.mk.inj (h' z)).1]; exact List.mem_cons_of_mem _ hq)
      cases d with
      | true=>exact ⟨fun _=>iht (ds:=r) (ps:=fun z=>(outZ js t r z).1) (v:=v) (es:=es) (fun z=>by rw [← (Prod.mk.inj (h' z)).2]; rfl) hq hD,fun hf=>by rw [hf] at hb; cases hb⟩
      | false=>exact ⟨fun ht=>(by rw [ht] at hb; cases hb),fun _=>ihf (ds:=r) (ps:=fun z=>(outZ js f r z).1) (v:=v) (es:=es) (fun z=>by rw [← (Prod.mk.inj (h' z)).2]; rfl) hq hD⟩
  | stuck=>cases (Prod.mk.inj (show ([],none)=(ps z0,some (v z0,es z0)) from h z0)).2
  | any k ih =>
    have h':∀ z,outZ js (k (z 0)) ds (fun i=>z (i+1))=(ps z,some (v z,es z)):=h
    intro y
    let c:(Nat→Nat→Nat)→Nat→Nat→Nat:=fun z i=>Nat.rec (motive:=fun _=>Nat→Nat) y (fun j _=>z j) i
    exact ih y (ds:=ds) (ps:=fun z=>ps (c z)) (v:=fun z=>v (c z)) (es:=fun z=>es (c z)) (fun z=>h' (c z)) (fun z=>hp (c z)) (fun z=>hD (c z))
theorem qob {c:Cfg} (hc:CfgOK c) (hgl:c.glob=fun _=>none) (n:Nat) {O:Nat→Prop} {w0 w:World} {β:Val} {H:List SO} {base:Nat} {f:FuncId} {vs:List Value} (hH:HeapRel0 c.P O w0 β H w)
    (I:Ifc) (ha:SV.denL β (SV.renL I.big I.args)=some vs) (hI:I.Fits H) {r:SumRes} (keep:List Nat) (hk:∀ j∈keep,I.names.length≤j) (hkn:keep.Nodup)
    {js:List Nat} {ds:List Bool} {ps:List Prop} {v:SV} {es:List (Option SO)} (h:outO js (qba c n f I.args I.ents) ds=(ps,some (v,es))) (hp:∀ p∈ps,p) (hD:∀ H2:List SO,js.map (fun j=>H2[j]?)=es→I.Ends base keep r v H2):q3a c.P H β w base f vs r :=
  qke hc hgl n hH I ha hI keep hk hkn (q5g h hp hD)
theorem q7a {c:Cfg} (hc:CfgOK c) (n:Nat) {O:Nat→Prop} {w0 w:World} {β:Val} {H:List SO} {base:Nat} {f:FuncId} {vs:List Value} (hH:HeapRel0 c.P O w0 β H w)
    (I:Ifc) (hgl:∀ g j,c.glob g=some j→I.known j=true∧∃ l,β (I.big j)=some l∧l.blk=g∧l.off=0) (ha:SV.denL β (SV.renL I.big I.args)=some vs) (hI:I.Fits H) {r:SumRes} (keep:List Nat) (hk:∀ j∈keep,I.names.length≤j) (hkn:keep.Nodup)
    {js:List Nat} {ds:List Bool} {ps:List Prop} {v:SV} {es:List (Option SO)} (h:outO js (qba c n f I.args I.ents) ds=(ps,some (v,es))) (hp:∀ p∈ps,p) (hD:∀ H2:List SO,js.map (fun j=>H2[j]?)=es→I.Ends base keep r v H2):q3a c.P H β w base f vs r :=
  qxe hc n hH I hgl ha hI keep hk hkn (q5g h hp hD)
theorem qca:∀ p∈([]:List Prop),p:=by simp
theorem all_cons {p:Prop} {ps:List Prop} (h:p) (hs:∀ q∈ps,q):∀ q∈p::ps,q:=by
  intro q hq
  rcases List.mem_cons.1 hq with rfl | hq
  · exact h
  · exact hs q hq
theorem q2e {c:Cfg} (hc:CfgOK c) (n:Nat) {w:World} {β:Val} {H:List SO} {f:FuncId} {args:List SV} {vs:List Value} (hH:HeapRel c.P (fun _=>False) w β H w) (hG:GlobRel c.glob β) (ha:SV.denL β args=some vs) (ds:List Bool)
    {ps:List Prop} (h:outO [] (qba c n f args H) ds=(ps,some (.bool (.lit true),[]))) (hp:∀ p∈ps,p):Calls c.P f vs.toArray w fun e w'=>e=.returned (.bool true)∧Below w.heap.size w w' :=
  qg8 hc n hH hG ha (by generalize qba c n f args H=t at h ⊢; exact q5g h hp fun _ _=>rfl)
noncomputable def qnp (f:Nat→Prop) (n:Nat):List Prop:=mapN f (qka n 0)
theorem qrr:∀ n k:Nat,qka n k=List.range' k n:=by
  intro n
  induction n with
  | zero=>intro k; rfl
  | succ n ih=>intro k; show k::qka n (k+1)=_; rw [ih]; rfl
theorem qsr {f:Nat→Prop} {n:Nat} (h:∀ i,i<n→f i):∀ p∈qnp f n,p:=by
  intro p hp
  unfold qnp at hp
  rw [qua,qrr] at hp
  obtain ⟨i,hi,rfl⟩:=List.mem_map.1 hp
  rw [List.mem_range'] at hi
  obtain ⟨j,hj,rfl⟩:=hi
  exact h _ (by omega)
end Go.Sim
namespace Go.Proofs.YtbmgahpjgefjaaaGreatDoor.Aes
open Go.Sim
open Go.Proofs
variable {α:Type}
set_option maxRecDepth 1000000
theorem j1f (k:Bool) (X:Nat→BitVec 8) (n m o:Nat):outP [2] (qba qv0 8000 96 [.slice ⟨0,.sym o⟩ (.lit 16) (.sym m),.agg (lx (q8f k))] [rowF X n]) =
    (qnp (fun i=>o+(4 * (i / 16)+i % 4)<n) 64,some (.slice ⟨2,.lit 0⟩ (.lit 16) (.lit 16),[some (.own (.lst (bx (qf8 k (qha X o)))) true 5)])):=by
  cases k <;> kernel_rfl
noncomputable def aggL (v:SV):Option (List SV):=v.asAgg none some
theorem jgc {v:SV} {l:List SV} (h:aggL v=some l):v=.agg l:=by
  cases v <;> first | (cases h; done) | (cases h; rfl)
noncomputable def qh8 (k:Bool) (base:Nat) (X:Nat→BitVec 8) (o:Nat) (g:List SV) (e:R SumRes):R SumRes:=boolC (qps (q8f k) g) (qr2 base (mixL k (qha X o))) e
noncomputable def jzj:Summ:=fun args H base=>q9c args fun v g=>qkb v (.stuck 730) fun a l=>optC (aggL g) (.stuck 730) fun g =>
  qad l 16 (qxb (nth H a.nm) fun X n=>.need (a.off.den+16≤n) (qh8 true base X a.off.den g (qh8 false base X a.off.den g (.stuck 731)))) (.stuck 731)
theorem jcr:q5a Tryz.prog 96 jzj:=by
  intro glob O w0 β H w base args vs hH hG ha
  refine qlb fun v g hv=>qva (fun _=>trivial) fun a l c1 hs1=>qja fun g hg=>qqb (fun hl=>q0a fun X n ht=>fun hn => ?_) fun _=>trivial
  rw [hv,hs1,jgc hg] at ha
  rw [qga] at ht
  obtain ⟨x,ys,hx,hys,rfl⟩:=denL_cons.1 ha
  obtain ⟨m,_,hd,_,_⟩:=q6a hx
  rw [hl] at hd
  have key:∀ (k:Bool) (e:R SumRes),e.Sat (q3a Tryz.prog H β w base 96 (x::ys))→(qh8 k base X a.off.den g e).Sat (q3a Tryz.prog H β w base 96 (x::ys)):=by
    intro k e he
    refine qla (fun hk => ?_) fun _=>he
    rw [qgl hk] at hys
    refine qke jlm rfl 8000 hH ⟨[a.nm],[rowF X n],[.slice ⟨0,.sym a.off.den⟩ (.lit 16) (.sym m),.agg (lx (q8f k))]⟩
      (denL_cons.2 ⟨_,_,hd,?_,rfl⟩) (Ifc.fits (by simp) (by show (true && (SV.usesL _ (lx (q8f k)) && true))=true; rw [q3i]; rfl) ⟨⟨ht _,qsa _ _ _⟩,trivial⟩) [2] (by simp) (by simp) ?_
    · show SV.denL β [.agg (SV.renL _ (lx (q8f k)))]=_
      rw [q1k]; exact hys
    · show (qba qv0 8000 96 [.slice ⟨0,.sym a.off.den⟩ (.lit 16) (.sym m),.agg (lx (q8f k))] [rowF X n]).Ob _ _
      have hrun:=j1f k X n m a.off.den
      generalize qba qv0 8000 96 [.slice ⟨0,.sym a.off.den⟩ (.lit 16) (.sym m),.agg (lx (q8f k))] [rowF X n]=t at hrun ⊢
      rw [j0f] at hrun
      exact q4g hrun (qsr fun j h1=>by omega) fun H2 hH2=>⟨SV.imp_of_eq rfl,rfl,trivial,⟨q7e (List.cons.inj hH2).1,trivial⟩⟩
  exact key true _ (key false _ trivial)
def qi8:List Int:=subs.map Int.ofNat
noncomputable def tabR:SO:=.row (.lst (lx qi8))
noncomputable def qil:Cfg:=cfgG qof (qcb [(94,dblS),(95,jyj),(96,jzj)])
theorem qs5:CfgOK qil:=qwb fun x hx=>(allC qp2 (allC jar (all1 jcr))) x hx _
end Go.Proofs.YtbmgahpjgefjaaaGreatDoor.Aes
