/-
  Texts behind one another: the symbolic simulator and what it is told of the program.
-/
import Derived.Test.YtcpafideogckmaaGreatDoorCzRefA3
import Derived.Test.YtcpafideogckmaaGreatDoorPc6
import Derived.Test.YtcpafideogckmaaGreatDoorPc5
import Derived.Laws.Externs
import Derived.Lib.MakeNoZero
namespace Go.Proofs.YtcpafideogckmaaGreatDoor.Aes
noncomputable section
open Go.Sim
open Go.Proofs
variable {α:Type}
set_option maxRecDepth 1000000
def qv0 (H:List SO) (r:R SumRes):R SumRes:=optC (qic (nth H 0)) (.stuck 740) fun l=>boolC (qqs qp8 l) r (.stuck 740)
theorem qur {H:List SO} {r:R SumRes} {φ:SumRes->Prop} (h:(∀ g,∃ e',H[0]? = some e'/\qrb g tabR e')->r.Sat φ):(qv0 H r).Sat φ:=by
 refine qja fun l hl=>qfa fun hs=>h fun g => ?_
 rw [qga] at hl
 rw [qil hs] at hl
 exact q7b hl (by rw [q1k]; exact .refl _)
theorem q3h (p:Nat->Bool):tabR.CUses p:=q8i _ _
theorem qws {β:Val} {I:Ifc} (h0:I.big 0=0) (hk:I.known 0=true) (hG:GlobRel qvg β):∀ g j,qvg g=some j->I.known j=true/\∃ l,β (I.big j)=some l/\l.blk=g/\l.off=0:=by
 intro g j hg
 have hj:j=0:=by
  have h':boolC (Nat.beq g 0) (some 0) none=some j:=hg
  obtain ⟨_,h⟩:=qtb h'
  cases h; rfl
 subst hj
 rw [h0]; exact ⟨hk,hG g 0 hg⟩
def j7n (H:List SO) (base:Nat) (a:SA):R SumRes :=
 q4b (nth H a.nm) fun X n=>.need (a.off.den+16<=n) (.ok ⟨.slice ⟨base,.lit 0⟩ (.lit 176) (.rest base 0),[],[.own (.lst (bx (q9e (qha X a.off.den)))) false 5]⟩)
def q8x:Summ:=fun args H base=>qgd args fun v=>qob v (.stuck 741) fun a l=>qv0 H (boolC (Nat.beq 0 a.nm) (.stuck 741) (qod l 16 (j7n H base a) (.stuck 742)))
theorem qr2:SumAt Tryz.prog qvg 38 q8x:=by
 intro O w0 β H w base args vs hH hG ha
 refine qub fun v hv=>qxa (fun _=>trivial) fun a l c1 hs1=>qur fun htab=>qna (fun _=>trivial) fun h0=>qxb (fun hl=>q5a fun X n ht=>fun hn => ?_) fun _=>trivial
 rw [hv,hs1] at ha
 rw [qga] at ht
 obtain ⟨x,ys,hx,hys,rfl⟩:=denL_cons.1 ha
 obtain ⟨m,_,hd,_,_⟩:=q8a hx
 rw [hl] at hd
 refine qsg qu5 20000 hH ⟨[0,a.nm],[tabR,rowF X n],[.slice ⟨1,.sym a.off.den⟩ (.lit 16) (.sym m)]⟩ (qws rfl rfl hG) (denL_cons.2 ⟨_,_,hd,hys,rfl⟩)
  (Ifc.fits (by simpa using qmb h0) rfl ⟨⟨htab _,q3h _⟩,⟨ht _,qya _ _ _⟩,trivial⟩) [413] (by simp) (by simp) ?_
 show (qca qkl 20000 38 [.slice ⟨1,.sym a.off.den⟩ (.lit 16) (.sym m)] [tabR,rowF X n]).Ob _ _
 have hrun:=qq8 X n m a.off.den
 rw [jpg] at hrun
 generalize qca qkl 20000 38 [.slice ⟨1,.sym a.off.den⟩ (.lit 16) (.sym m)] [tabR,rowF X n]=t at hrun ⊢
 exact qfh hrun (all_cons hn qaa) fun H2 hH2=>⟨SV.imp_of_eq rfl,rfl,trivial,⟨qbg (List.cons.inj hH2).1,trivial⟩⟩
def qyl (F:(Nat->BitVec 8)->List (BitVec 8)->List (BitVec 8)):Summ:=fun args H base=>qdd args fun u v=>qob u (.stuck 743) fun b l2=>qob v (.stuck 743) fun a l=>qv0 H
 (boolC (Nat.beq 0 a.nm) (.stuck 743) (boolC (Nat.beq 0 b.nm) (.stuck 743) (boolC (Nat.beq b.nm a.nm) (.stuck 743) (qod l 16 (qod l2 176 (q4b (nth H a.nm) fun X n=>q4b (nth H b.nm) fun W n2=>.need (a.off.den+16<=n/\b.off.den+176<=n2)
  (qq2 base (F (at2 W b.off.den) (qha X a.off.den)))) (.stuck 744)) (.stuck 744)))))
theorem qs2 {f:FuncId} {F:(Nat->BitVec 8)->List (BitVec 8)->List (BitVec 8)} {j:Nat} (hj:3<=j) {ps:(Nat->BitVec 8)->(Nat->BitVec 8)->Nat->Nat->Nat->Nat->List Prop}
  (hps:∀ X W n o o2 n2,o+16<=n/\o2+176<=n2->∀ p∈ps X W n o o2 n2,p)
  (hrun:∀ (X W:Nat->BitVec 8) (n m o o2 n2 m2:Nat),outP [j] (qca qkl 20000 f [.slice ⟨1,.sym o2⟩ (.lit 176) (.sym m2),.slice ⟨2,.sym o⟩ (.lit 16) (.sym m)] [tabR,rowF W n2,rowF X n]) =
   (ps X W n o o2 n2,some (.slice ⟨j,.lit 0⟩ (.lit 16) (.lit 16),[some (.own (.lst (bx (F (at2 W o2) (qha X o)))) true 5)]))):SumAt Tryz.prog qvg f (qyl F):=by
 intro O w0 β H w base args vs hH hG ha
 refine qnb fun u v hv=>qxa (fun _=>trivial) fun b l2 c2 hs2=>qxa (fun _=>trivial) fun a l c1 hs1=>qur fun htab=>qna (fun _=>trivial) fun h0=>qna (fun _=>trivial) fun h1=>qna (fun _=>trivial) fun h2=>qxb (fun hl=>qxb (fun hl2=>q5a fun X n ht=>q5a fun W n2 ht2=>fun hn => ?_) fun _=>trivial) fun _=>trivial
 rw [hv,hs1,hs2] at ha
 rw [qga] at ht ht2
 obtain ⟨x,ys,hx,hys,rfl⟩:=denL_cons.1 ha
 obtain ⟨y,zs,hy,hz,rfl⟩:=denL_cons.1 hys
 obtain ⟨m2,_,hd2,_,_⟩:=q8a hx
 obtain ⟨m,_,hd,_,_⟩:=q8a hy
 rw [hl] at hd
 rw [hl2] at hd2
 have hnd:[0,b.nm,a.nm].Nodup:=by
  have:=qmb h0; have:=qmb h1; have:=qmb h2
  simp; omega
 refine qsg qu5 20000 hH ⟨[0,b.nm,a.nm],[tabR,rowF W n2,rowF X n],[.slice ⟨1,.sym b.off.den⟩ (.lit 176) (.sym m2),.slice ⟨2,.sym a.off.den⟩ (.lit 16) (.sym m)]⟩ (qws rfl rfl hG) (denL_cons.2 ⟨_,_,hd2,denL_cons.2 ⟨_,_,hd,hz,rfl⟩,rfl⟩)
  (Ifc.fits hnd rfl ⟨⟨htab _,q3h _⟩,⟨ht2 _,qya _ _ _⟩,⟨ht _,qya _ _ _⟩,trivial⟩) [j] (by simpa using hj) (by simp) ?_
 show (qca qkl 20000 f [.slice ⟨1,.sym b.off.den⟩ (.lit 176) (.sym m2),.slice ⟨2,.sym a.off.den⟩ (.lit 16) (.sym m)] [tabR,rowF W n2,rowF X n]).Ob _ _
 have hrun:=hrun X W n m a.off.den b.off.den n2 m2
 generalize qca qkl 20000 f [.slice ⟨1,.sym b.off.den⟩ (.lit 176) (.sym m2),.slice ⟨2,.sym a.off.den⟩ (.lit 16) (.sym m)] [tabR,rowF W n2,rowF X n]=t at hrun ⊢
 have hout:Ifc.out ⟨[0,b.nm,a.nm],[tabR,rowF W n2,rowF X n],[.slice ⟨1,.sym b.off.den⟩ (.lit 176) (.sym m2),.slice ⟨2,.sym a.off.den⟩ (.lit 16) (.sym m)]⟩ base [j] j=base:=by
  unfold Ifc.out
  have hk:Ifc.known ⟨[0,b.nm,a.nm],[tabR,rowF W n2,rowF X n],[.slice ⟨1,.sym b.off.den⟩ (.lit 176) (.sym m2),.slice ⟨2,.sym a.off.den⟩ (.lit 16) (.sym m)]⟩ j=false:=by
   cases hx:Ifc.known ⟨[0,b.nm,a.nm],[tabR,rowF W n2,rowF X n],[.slice ⟨1,.sym b.off.den⟩ (.lit 176) (.sym m2),.slice ⟨2,.sym a.off.den⟩ (.lit 16) (.sym m)]⟩ j with
   | false=>rfl
   | true=>have:=(Ifc.known_iff _ _).1 hx; simp at this; omega
  rw [hk,boolC_false]
  show base+boolC (Nat.beq j j) 0 _=base
  rw [Nat.beq_refl]; rfl
 refine qfh hrun (hps X W n a.off.den b.off.den n2 hn) fun H2 hH2=>⟨SV.imp_of_eq ?_,?_,trivial,⟨qbg (List.cons.inj hH2).1,trivial⟩⟩
 . show SV.slice ⟨Ifc.out _ base [j] j,.lit 0⟩ (.lit 16) (.lit 16)=.slice ⟨base,.lit 0⟩ (.lit 16) (.lit 16)
   rw [hout]
 . show (Ifc.seen _ [j] j && true)=true
   unfold Ifc.seen
   have:memN j [j]=true:=memN_iff.2 (by simp)
   rw [this]
   cases Ifc.known _ j <;> rfl
theorem j4s:SumAt Tryz.prog qvg 53 (qyl encL):=by
 refine qs2 (j:=32) (by omega) (ps:=fun X W n o o2 n2=>app [IsB (qea X),IsB (qea W),o+16<=n/\o2+176<=n2] (app (repL [0+16<=16,IsB (qea W),0+16<=16/\o2+176<=n2] 9) [IsB (qea W),0+16<=16/\o2+176<=n2])) (fun X W n o o2 n2 h => ?_) fun X W n m o o2 n2 m2 => ?_
 . have hW:=qda W
   have h2:0+16<=16/\o2+176<=n2:=⟨by omega,h.2⟩
   exact qfo (all_cons (qda X) (all_cons hW (all_cons h qaa))) (qfo (qsu (all_cons (by omega) (all_cons hW (all_cons h2 qaa))) 9) (all_cons hW (all_cons h2 qaa)))
 . rw [← j5n]; exact jqg X W n m o o2 n2 m2
theorem jbd:SumAt Tryz.prog qvg 40 (qyl decL):=by
 refine qs2 (j:=33) (by omega) (ps:=fun X W n o o2 n2=>app [IsB (qea X),IsB (qea W),o+16<=n/\o2+176<=n2] (app (repL [IsB (qea W),0+16<=16/\o2+176<=n2,0+16<=16] 9) [IsB (qea W),0+16<=16/\o2+176<=n2])) (fun X W n o o2 n2 h => ?_) fun X W n m o o2 n2 m2 => ?_
 . have hW:=qda W
   have h2:0+16<=16/\o2+176<=n2:=⟨by omega,h.2⟩
   exact qfo (all_cons (qda X) (all_cons hW (all_cons h qaa))) (qfo (qsu (all_cons hW (all_cons h2 (all_cons (by omega) qaa))) 9) (all_cons hW (all_cons h2 qaa)))
 . rw [← j6n]; exact jrg X W n m o o2 n2 m2
end
noncomputable section
open Go.Sim
open Go.Proofs
variable {α:Type}
def q1f (X:Nat->BitVec 8) (o n:Nat):List (BitVec 8):=mapN (fun i=>X (o+i)) (q6a n 0)
theorem qcg:∀ n k:Nat,q6a n k=List.range' k n:=by
 intro n
 induction n with
 | zero=>intro k; rfl
 | succ n ih=>intro k; show k::q6a n (k+1)=_; rw [ih]; rfl
theorem qmm (X:Nat->BitVec 8) (o n:Nat):(q1f X o n).length=n:=by
 unfold q1f
 rw [qwa,qcg]; simp
theorem qpq (X:Nat->BitVec 8) (o n i:Nat) (h:i<n):(q1f X o n)[i]? = some (X (o+i)):=by
 unfold q1f
 rw [qwa,qcg,List.getElem?_map,List.getElem?_range' h]; simp
theorem qt2 {γ:Val}:∀ xs:List (BitVec 8),SV.denL γ (bx xs)=some (xs.map fun x=>Value.int .u8 (x.toNat:Int))
 | []=>rfl
 | _::xs=>denL_cons.2 ⟨_,_,rfl,qt2 xs,rfl⟩
theorem qmw (X:Nat->BitVec 8) (o n:Nat):(Cells.fn (fun i=>qea X (o+i)) n).Imp (.lst (bx (q1f X o n))):=by
 intro γ vs h
 obtain ⟨h1,h2⟩:=h
 show SV.denL γ (bx (q1f X o n))=some vs
 rw [qt2]
 congr 1
 apply List.ext_getElem?
 intro i
 rw [List.getElem?_map]
 by_cases hi:i<n
 . rw [qpq X o n i hi]
   have hv:vs[i]? = some vs[i]:=List.getElem?_eq_getElem (by omega)
   have:=h2 i _ hv
   rw [hv]; exact this
 . rw [List.getElem?_eq_none (by rw [qmm]; omega),List.getElem?_eq_none (by omega)]; rfl
theorem jcd (X:Nat->BitVec 8) (o n k m:Nat):outO [2] (qca cfg0 6000 47 [.slice ⟨0,.sym o⟩ (.sym k) (.sym m)] [rowF X n]) [false] =
  ([o+k<=n,decide (k=0)=false,q7e k 1/\1=1],some (.slice ⟨2,.lit 0⟩ (.sym k) (.rest 2 0),[some (.own (.fn (fun i=>qea X (o+i)) k) false 5)])):=by kernel_rfl
theorem qr8 (X:Nat->BitVec 8) (o n k m:Nat):outO [1] (qca cfg0 6000 47 [.slice ⟨0,.sym o⟩ (.sym k) (.sym m)] [rowF X n]) [true] =
  ([o+k<=n,decide (k=0)=true,1=1],some (.slice ⟨1,.lit 0⟩ (.lit 0) (.lit 0),[some (.own (.lst []) true 5)])):=by kernel_rfl
theorem jdd:outP [] (qca cfg0 6000 47 [.nilSlice] [])=([],some (.nilSlice,[])):=by kernel_rfl
def qu2 (n o base k:Nat):R SumRes:=.need (o+k<=n) (.ok ⟨.slice ⟨base,.lit 0⟩ (.lit 0) (.lit 0),[],[.own (.lst []) true 5]⟩)
def j5s (X:Nat->BitVec 8) (n o base k:Nat):R SumRes:=boolC (Nat.beq k 0) (qu2 n o base k) (boolC (Nat.blt k 70368744177664) (.need (o+k<=n) (.ok ⟨.slice ⟨base,.lit 0⟩ (.lit k) (.rest base 0),[],[.own (.lst (bx (q1f X o k))) false 5]⟩)) (.stuck 760))
def j6s (X:Nat->BitVec 8) (n o base k:Nat):R SumRes:=.fork (decide (k=0)) (qu2 n o base k) (.need (o+k<=n/\q7e k 1) (.ok ⟨.slice ⟨base,.lit 0⟩ (.sym k) (.rest base 0),[],[.own (.fn (fun i=>qea X (o+i)) k) false 5]⟩))
def qvr:Summ:=fun args H base=>qgd args fun v=>qob v (.ok ⟨.nilSlice,[],[]⟩) fun a l=>q4b (nth H a.nm) fun X n =>
 SN.rec (motive:=fun _=>R SumRes) (fun k=>j5s X n a.off.den base k) (fun k=>j6s X n a.off.den base k) (fun _ _=>.stuck 761) l
theorem qxs:q3a Tryz.prog 47 qvr:=by
 intro glob O w0 β H w base args vs hH hG ha
 refine qub fun v hv=>qxa (fun hn => ?_) fun a l cc hs=>q5a fun X n ht => ?_
 . rw [hv,hn] at ha
   exact qkg q4c rfl 6000 hH ⟨[],[],[.nilSlice]⟩ ha (q5c rfl) [] (by simp) (by simp) jdd (by simp) fun H2 _=>qkb rfl rfl rfl
 . rw [hv,hs] at ha
   rw [qga] at ht
   obtain ⟨y,zs,hy,hz,rfl⟩:=denL_cons.1 ha
   obtain ⟨m,hlm,hd,_,_⟩:=q8a hy
   have key:∀ (k:Nat) (r:SumRes),l.den=k->k≠0->a.off.den+k<=n->q7e k 1->r.sets=[]->((SV.slice ⟨base,.lit 0⟩ (.sym k) (.rest base 0)).Imp r.v) ->
     (∃ c,(Cells.fn (fun i=>qea X (a.off.den+i)) k).Imp c/\r.news=[.own c false 5])->q4a Tryz.prog H β w base 47 (y::zs) r:=by
    intro k r hk hk0 hle hro hsets hval hnews
    obtain ⟨c,hc,hnews⟩:=hnews
    rw [hk] at hd
    refine qqb q4c rfl 6000 hH ⟨[a.nm],[rowF X n],[.slice ⟨0,.sym a.off.den⟩ (.sym k) (.sym m)]⟩ (denL_cons.2 ⟨_,_,hd,hz,rfl⟩) (Ifc.fits (by simp) rfl ⟨⟨ht _,qya _ _ _⟩,trivial⟩) [2] (by simp) (by simp)
     (jcd X a.off.den n k m) (all_cons hle (all_cons (decide_eq_false hk0) (all_cons ⟨hro,rfl⟩ qaa))) fun H2 hH2=>⟨hval,rfl,by rw [hsets]; trivial,?_⟩
    . rw [hnews]
      have hH2:H2[2]? = some (.own (.fn (fun i=>qea X (a.off.den+i)) k) false 5):=(List.cons.inj hH2).1
      exact ⟨q0k hH2 (fun _=>rfl) hc,trivial⟩
   have key0:∀ k:Nat,l.den=k->k=0->(qu2 n a.off.den base k).Sat (q4a Tryz.prog H β w base 47 (y::zs)):=by
    intro k hk hk0 hle
    rw [hk] at hd
    exact qqb q4c rfl 6000 hH ⟨[a.nm],[rowF X n],[.slice ⟨0,.sym a.off.den⟩ (.sym k) (.sym m)]⟩ (denL_cons.2 ⟨_,_,hd,hz,rfl⟩) (Ifc.fits (by simp) rfl ⟨⟨ht _,qya _ _ _⟩,trivial⟩) [1] (by simp) (by simp)
     (qr8 X a.off.den n k m) (all_cons hle (all_cons (decide_eq_true hk0) (all_cons rfl qaa))) fun H2 hH2=>⟨.refl _,rfl,trivial,⟨qbc (List.cons.inj hH2).1 rfl rfl,trivial⟩⟩
   cases l with
   | lit k =>
     refine qna (fun h0=>key0 k rfl (qpa h0)) fun h0=>qfa fun hlt=>fun hle=>key k _ rfl (qmb h0) hle ⟨?_,qnf hlt⟩ rfl (.refl _) ⟨_,qmw X _ k,rfl⟩
     have:=qnf hlt; omega
   | sym k=>exact ⟨fun h0=>key0 k rfl (of_decide_eq_true h0),fun h0=>fun h=>key k _ rfl (of_decide_eq_false h0) h.1 h.2 rfl (.refl _) ⟨_,.refl _,rfl⟩⟩
   | byt=>trivial
end
noncomputable section
open Go.Sim
open Go.Proofs
variable {α:Type}
def jhl:Cfg:=qle (qbb [(47,qvr)])
theorem j8n:CfgOK jhl:=q8b (all1 qxs)
theorem jsg (X Y:Nat->BitVec 8) (n m o o2 n2 m2:Nat):outP [2] (qca jhl 20000 79 [.slice ⟨0,.sym o⟩ (.lit 16) (.sym m),.slice ⟨1,.sym o2⟩ (.lit 16) (.sym m2)] [rowF X n,rowF Y n2]) =
  (IsB (qea X)::(o+16<=n)::qrp (fun i=>o2+i<n2) 16,some (.slice ⟨2,.lit 0⟩ (.lit 16) (.rest 2 0),[some (.own (.lst (bx (addL (qha X o) (qha Y o2)))) false 5)])):=by kernel_rfl
def jil:Summ:=fun args H base=>qdd args fun v u=>qob v (.stuck 800) fun a l=>qob u (.stuck 800) fun b l2=>qod l 16 (qod l2 16 (boolC (Nat.beq a.nm b.nm) (.stuck 801) (q4b (nth H a.nm) fun X n=>q4b (nth H b.nm) fun Y n2=>.need (a.off.den+16<=n/\b.off.den+16<=n2)
 (.ok ⟨.slice ⟨base,.lit 0⟩ (.lit 16) (.rest base 0),[],[.own (.lst (bx (addL (qha X a.off.den) (qha Y b.off.den)))) false 5]⟩))) (.stuck 802)) (.stuck 802)
theorem qv2 {p:Nat->Bool} {g:Nat->Nat} {E:Option SO} {xs:List (BitVec 8)} {w:Bool} {el:TypeId} (h:E=some (.own (.lst (bx xs)) w el)):q5d p g E (.own (.lst (bx xs)) w el):=by
 refine qbc h (qfd _ _) ?_
 show SO.own (.lst (SV.renL _ (bx _))) w el=_
 rw [q9d]
theorem j7s:q3a Tryz.prog 79 jil:=by
 intro glob O w0 β H w base args vs hH hG ha
 refine qnb fun v u hv=>qxa (fun _=>trivial) fun a l c1 hs1=>qxa (fun _=>trivial) fun b l2 c2 hs2=>qxb (fun hl=>qxb (fun hl2=>qna (fun _=>trivial) fun hab=>q5a fun X n ht=>q5a fun Y n2 ht2=>fun hn => ?_) fun _=>trivial) fun _=>trivial
 rw [hv,hs1,hs2] at ha
 rw [qga] at ht ht2
 obtain ⟨x,ys,hx,hys,rfl⟩:=denL_cons.1 ha
 obtain ⟨y,zs,hy,hz,rfl⟩:=denL_cons.1 hys
 obtain ⟨m,_,hd,_,_⟩:=q8a hx
 obtain ⟨m2,_,hd2,_,_⟩:=q8a hy
 rw [hl] at hd
 rw [hl2] at hd2
 exact qkg j8n rfl 20000 hH ⟨[a.nm,b.nm],[rowF X n,rowF Y n2],[.slice ⟨0,.sym a.off.den⟩ (.lit 16) (.sym m),.slice ⟨1,.sym b.off.den⟩ (.lit 16) (.sym m2)]⟩
  (denL_cons.2 ⟨_,_,hd,denL_cons.2 ⟨_,_,hd2,hz,rfl⟩,rfl⟩) (Ifc.fits (by simpa using qmb hab) rfl ⟨⟨ht _,qya _ _ _⟩,⟨ht2 _,qya _ _ _⟩,trivial⟩) [2] (by simp) (by simp)
  (jsg X Y n m a.off.den b.off.den n2 m2) (all_cons (qda X) (all_cons hn.1 (qtr fun i hi=>by omega))) fun H2 hH2=>⟨SV.imp_of_eq rfl,rfl,trivial,⟨qv2 (List.cons.inj hH2).1,trivial⟩⟩
end
noncomputable section
open Go.Sim
open Go.Proofs
variable {α:Type}
def jjl (z:Nat->Nat):Nat->BitVec 8:=fun i=>BitVec.ofNat 8 (z i)
theorem q3t:∀ (n t:Nat) (acc:Array Value),(Extern.BytealgMakeNoZero.digits n t acc).toList=acc.toList++(List.range n).map fun i=>Value.int .u8 (Int.ofNat (t / 256 ^ i % 256))
 | 0,t,acc=>by simp [Extern.BytealgMakeNoZero.digits]
 | n+1,t,acc=>by
   rw [Extern.BytealgMakeNoZero.digits,q3t n,List.range_succ_eq_map]
   simp only [Array.toList_push,List.append_assoc,List.map_cons,List.map_map,Nat.pow_zero,Nat.div_one]
   congr 1
   show _::_=_::_
   congr 1
   apply List.map_congr_left
   intro i _
   show Value.int .u8 _=Value.int .u8 _
   rw [Nat.div_div_eq_div_mul,Nat.pow_succ,Nat.mul_comm]
theorem j9n {P:Program} (w:World) (ps:Array TypeId) (t e:TypeId) (ht:P.underlying t=some (.slice e)) (n:Nat) (hn:n<=281474976710656) :
  ∃ cap bytes,(Extern.BytealgMakeNoZero.makeNoZero ps #[t] #[.int .i64 n]).run P w=.ok (.slice (some ⟨w.heap.size,0,none⟩) n cap) (w.drew.drew.alloc (.cells (Extern.BytealgMakeNoZero.digits cap bytes #[]) e))/\n<=cap:=by
 have hdef:Extern.BytealgMakeNoZero.makeNoZero ps #[t] #[.int .i64 n] =
   (do
    let .slice elem ← underlying t | stuck "bytealg.MakeNoZero: slice type expected"
    if (n:Int)<0 || (n:Int) > 2 ^ 48 then runtimePanic (.error "makeslice: len out of range")
    let cap ← choose (.appendCap (n:Int).toNat 0 elem)
    askRoom cap
    let bytes ← choose (.extern "internal/bytealg.MakeNoZero.bytes" 0)
    let a ← newRow elem (Extern.BytealgMakeNoZero.digits cap bytes #[])
    pure (.slice (some a) (n:Int).toNat cap)):=rfl
 refine ⟨grownCap w n 0 e,(Question.extern "internal/bytealg.MakeNoZero.bytes" 0).cut (w.tape (w.drawn+1) (.extern "internal/bytealg.MakeNoZero.bytes" 0)),?_,?_⟩
 . rw [hdef]
   have h1:¬ (n:Int)<0:=by omega
   have h2:¬ (281474976710656:Int)<(n:Int):=by omega
   simp [qia ht,h1,h2,Question.forced,newRow,grownCap]
 . simpa using grownCap_ge w n 0 e
theorem j8s {P:Program} {f:FuncId} {e:Array Value->Sem Value} (h1:(P.funcs[f]?).map (fun fn=>(fn.name == "runtime.NumGoroutine",fn.body.isNone))=some (false,true)) (h2:(P.funcs[f]?).map (fun fn=>(Extern.findNext fn).isNone)=some true) (h3:(P.funcs[f]?).map Extern.find=some (some e)) :
  ∃ fn,P.funcs[f]? = some fn/\(fn.name == "runtime.NumGoroutine")=false/\fn.body.isNone=true/\Extern.findNext fn=none/\Extern.find fn=some e:=by
 cases hf:P.funcs[f]? with
 | none=>rw [hf] at h1; cases h1
 | some fn =>
   rw [hf] at h1 h2 h3
   simp only [Option.map_some,Option.some.injEq,Prod.mk.injEq] at h1 h2 h3
   exact ⟨fn,rfl,h1.1,h1.2,by simpa using h2,h3⟩
theorem jtg:∃ fn,Tryz.prog.funcs[91]? = some fn/\(fn.name == "runtime.NumGoroutine")=false/\fn.body.isNone=true/\Extern.findNext fn=none/\Extern.find fn=some (Extern.BytealgMakeNoZero.makeNoZero #[3] #[22]):=j8s (by kernel_rfl) (by kernel_rfl) (by kernel_rfl)
def mnzS:Summ:=fun args _ base=>qgd args fun v=>optC (litI v) (.stuck 780) fun n=>boolC (Nat.ble n 16777216) (.any fun z=>.ok ⟨.slice ⟨base,.lit 0⟩ (.lit n) (.rest base 0),[],[.own (.lst (bx (q1f (jjl z) 0 n))) false 5]⟩) (.stuck 781)
theorem qy4:Tryz.prog.underlying 22=some (.slice 5):=by kernel_rfl
theorem jed:(Tryz.prog.info? 5).map (·.size)=some 1:=by kernel_rfl
set_option maxRecDepth 100000 in
theorem mnzOK:q3a Tryz.prog 91 mnzS:=by
 intro glob O w0 β H w base args vs hH hG ha
 refine qub fun v hv=>qja fun n hn=>qfa fun hle => ?_
 rw [hv,qjf hn] at ha
 cases ha
 have hle:n<=16777216:=Nat.le_of_ble_eq_true hle
 obtain ⟨fn,h1,h2,h3,h4,h5⟩:=jtg
 obtain ⟨cap,bytes,hrun,hcap⟩:=j9n (P:=Tryz.prog) w #[3] 22 5 qy4 n (by omega)
 refine ⟨fun i=>bytes / 256 ^ i % 256,?_⟩
 intro hfree
 have hb:β base=none:=hfree 0 (by simp)
 refine ⟨by simp,.inr ?_⟩
 let vs:List Value:=(List.range n).map fun i=>Value.int .u8 (Int.ofNat (bytes / 256 ^ i % 256))
 let rest:List Value:=(List.range' n (cap - n)).map fun i=>Value.int .u8 (Int.ofNat (bytes / 256 ^ i % 256))
 have qfc:Extern.BytealgMakeNoZero.digits cap bytes #[]=(vs++rest).toArray:=by
  apply Array.ext'
  rw [q3t]
  show _=(vs++rest)
  simp only [vs,rest]
  rw [← List.map_append,List.range_eq_range',List.range_eq_range']
  have:List.range' 0 cap=List.range' 0 n++List.range' n (cap - n):=by
   have:=(List.range'_append (s:=0) (m:=n) (n:=cap - n) (step:=1)).symm
   rw [show n+(cap - n)=cap from by omega] at this
   simpa using this
  rw [this]; rfl
 have hE:=Eff.alloc (P:=Tryz.prog) (β:=β) (w:=w) (w':=w.drew.drew.alloc (.cells (Extern.BytealgMakeNoZero.digits cap bytes #[]) 5)) (base:=base) (c:=.lst (bx (q1f (jjl fun i=>bytes / 256 ^ i % 256) 0 n))) (whole:=false) (elem:=5) (vs:=vs) (rest:=rest) (lo:=0) (hi:=0) (cap:=cap) hb
  (by rw [← qfc]; rfl) rfl rfl rfl ?_ (.inl rfl) (by simp) ?_
 . refine ⟨.slice (some ⟨w.heap.size,0,none⟩) n cap,_,_,?_,?_,hE⟩
   . rw [run_callFunc_extern h1 h2 h3 h4 h5]
     show ((Extern.BytealgMakeNoZero.makeNoZero #[3] #[22] #[.int .i64 n]).run Tryz.prog w).andThen _=_
     rw [hrun]; rfl
   . simp [SV.den,SA.den,SC.den,SN.den,Val.upd,q5l,hcap]
 . show SV.denL β (bx _)=some vs
   rw [qt2]
   congr 1
   apply List.ext_getElem?
   intro i
   rw [List.getElem?_map]
   by_cases hi:i<n
   . rw [qpq _ _ _ _ hi]
     simp only [vs,List.getElem?_map,List.getElem?_range hi,Option.map_some]
     congr 1
     show Value.int .u8 (((BitVec.ofNat 8 (bytes / 256 ^ (0+i) % 256)).toNat:Nat):Int)=_
     rw [BitVec.toNat_ofNat,Nat.zero_add,Nat.mod_mod_of_dvd _ (by decide)]
     rfl
   . rw [List.getElem?_eq_none (by rw [qmm]; omega),List.getElem?_eq_none (by simp [vs]; omega)]; rfl
 . intro i hi
   have:=jed
   rw [hi] at this
   have h1:i.size=1:=Option.some.inj this
   rw [h1]
   simp [vs,rest]; omega
end
noncomputable section
open Go.Sim
open Go.Proofs
variable {α:Type}
def qsp (T:List Int) (e:Option SO):Bool:=optC (ownE 150 e) false fun l=>boolC (q0h T l) (qvs (qyb l (lenN T))) false
theorem qqq {T:List Int} {e:Option SO} (h:qsp T e=true):e=some (.own (.lst (app (lx T) [.bool (.lit true)])) true 150):=by
 unfold qsp at h
 cases hl:ownE 150 e with
 | none=>rw [hl] at h; cases h
 | some l =>
   rw [hl] at h
   have h:boolC (q0h T l) (qvs (qyb l (lenN T))) false=true:=h
   cases h1:q0h T l with
   | false=>rw [h1] at h; cases h
   | true =>
     rw [h1] at h
     have h1:=qsi h1
     rw [qqr h] at h1
     rw [qor hl,h1]
def fillS:Summ:=fun args H _=>qgd args fun c=>optC (qeg c) (.stuck 660) fun p=>boolC (qsp (qkm 688) (nth H p)) (.ok ⟨.tuple [],[(p,qmg)],[]⟩) (.stuck 661)
theorem q9x (f:Nat->Nat) (T:List Int):SV.renL f (app (lx T) [.bool (.lit true)])=app (lx T) [.bool (.lit true)]:=by rw [qof,q1k]; rfl
theorem qtu (p:Nat->Bool) (T:List Int):SV.usesL p (app (lx T) [.bool (.lit true)])=true:=by rw [q3e,q8i]; rfl
theorem q2k:qmg=.own (.lst (app (lx (app tabI (qkm 176))) [.bool (.lit true)])) true 150:=by
 have:app (lx tabI) (app (lx (qkm 176)) [SV.bool (.lit true)])=app (lx (app tabI (qkm 176))) [.bool (.lit true)]:=by kernel_rfl
 unfold qmg
 rw [this]
theorem j9s:q3a Tryz.prog 105 fillS:=by
 intro glob O w0 β H w base args vs hH hG ha
 refine qub fun c hv=>qja fun p h1=>qfa fun hp => ?_
 rw [hv,q3c h1] at ha
 rw [qga] at hp
 refine que q4c rfl 20000 hH ⟨[p],[qkw],[.ptr ⟨0,.lit 0⟩]⟩ ha (Ifc.fits (by simp) rfl ⟨⟨⟨_,qqq hp,q0f (by rw [q9x]; exact .refl _)⟩,qtu _ _⟩,trivial⟩) [] (by simp) (by simp) ?_
 show (qca cfg0 20000 105 [.ptr ⟨0,.lit 0⟩] [qkw]).Ob _ _
 have hr:=jkg
 generalize qca cfg0 20000 105 [.ptr ⟨0,.lit 0⟩] [qkw]=t at hr ⊢
 refine qpp hr ?_
 intro H2 hH2
 refine ⟨SV.Imp.refl _,rfl,?_,trivial⟩
 show SetsOK _ _ _ _ [0] _
 have hH2:H2[0]? = some qmg:=(List.cons.inj hH2).1
 rw [q2k] at hH2
 refine ⟨⟨rfl,?_⟩,trivial⟩
 show q5d _ _ _ qmg
 refine qbc hH2 (qtu _ _) ?_
 rw [q2k]
 show SO.own (.lst (SV.renL _ _)) true _=_
 rw [q9x]
def qw5:Summ:=fun args H _=>qdd args fun c v=>optC (qeg c) (.stuck 662) fun p=>qob v (.stuck 663) fun a l=>boolC (qsp (app tabI (qkm 176)) (nth H p)) (boolC (Nat.beq p a.nm) (.stuck 664)
 (qod l 16 (q4b (nth H a.nm) fun X n=>.need (a.off.den+16<=n) (.ok ⟨.tuple [],[(p,qeo (q9e (qha X a.off.den)))],[]⟩)) (.stuck 665))) (.stuck 666)
theorem jug:q3a Tryz.prog 106 qw5:=by
 intro glob O w0 β H w base args vs hH hG ha
 refine qnb fun c v hv=>qja fun p h1=>qxa (fun _=>trivial) fun a l cc hs=>qfa fun hp=>qna (fun _=>trivial) fun hpa=>qxb (fun hl=>q5a fun X n ht=>fun hn => ?_) fun _=>trivial
 rw [hv,q3c h1,hs] at ha
 rw [qga] at hp ht
 obtain ⟨x,ys,hx,hys,rfl⟩:=denL_cons.1 ha
 obtain ⟨y,zs,hy,hz,rfl⟩:=denL_cons.1 hys
 obtain ⟨m,hlm,hd,_,_⟩:=q8a hy
 rw [hl] at hd
 refine que jzs rfl 20000 hH ⟨[p,a.nm],[qmg,rowF X n],[.ptr ⟨0,.lit 0⟩,.slice ⟨1,.sym a.off.den⟩ (.lit 16) (.sym m)]⟩ (denL_cons.2 ⟨_,_,hx,denL_cons.2 ⟨_,_,hd,hz,rfl⟩,rfl⟩)
  (Ifc.fits (by simpa using qmb hpa) rfl ⟨⟨⟨_,qqq hp,?_⟩,?_⟩,⟨ht _,qya _ _ _⟩,trivial⟩) [] (by simp) (by simp) ?_
 . rw [q2k]; exact q0f (by rw [q9x]; exact .refl _)
 . rw [q2k]; exact qtu _ _
 . show (qca cfg6 20000 106 [.ptr ⟨0,.lit 0⟩,.slice ⟨1,.sym a.off.den⟩ (.lit 16) (.sym m)] [qmg,rowF X n]).Ob _ _
   have hr:=qj8 X a.off.den n m
   generalize qca cfg6 20000 106 [.ptr ⟨0,.lit 0⟩,.slice ⟨1,.sym a.off.den⟩ (.lit 16) (.sym m)] [qmg,rowF X n]=t at hr ⊢
   refine qfh hr ?_ ?_
   . intro q hq
     simp only [List.mem_cons,List.not_mem_nil,or_false] at hq
     rcases hq with rfl | rfl | rfl | rfl | rfl | rfl | rfl | rfl <;> omega
   . intro H2 hH2
     refine ⟨SV.Imp.refl _,rfl,?_,trivial⟩
     show SetsOK _ _ _ _ (q6b [qmg,rowF X n] 0) _
     rw [q2k]
     have hH2:H2[0]? = some (qeo (q9e (qha X a.off.den))):=(List.cons.inj hH2).1
     refine ⟨⟨rfl,qbc hH2 (q2h _ _) ?_⟩,trivial⟩
     show SO.own (.lst (SV.renL _ (q0c _))) true _=_
     rw [qpn]; rfl
def cfg7:Cfg:=qle (qbb [(105,fillS),(106,qw5)])
theorem qnw:CfgOK cfg7:=q8b (allC j9s (all1 jug))
theorem jao (X:Nat->BitVec 8) (o n m:Nat):outP [1] (qca cfg7 6000 86 [.slice ⟨0,.sym o⟩ (.lit 16) (.sym m)] [rowF X n]) =
  ([IsB (qea X),o+16<=n],some (.tuple [.ptr ⟨1,.lit 0⟩,.int .i64 (.lit (.ofNat 0))],[some (qeo (q9e (qha X o)))])):=by kernel_rfl
theorem jbo (o m k:Nat):outF [] (qca cfg7 6000 86 [.slice ⟨0,.sym o⟩ (.sym k) (.sym m)] [.gone])=some (((k:Int) != 16),([],some (.tuple [.nilPtr,.int .i64 (.lit (.ofNat 2))],[])),([],none)):=by kernel_rfl
theorem jvg:outP [] (qca cfg7 6000 86 [.nilSlice] [])=([],some (.tuple [.nilPtr,.int .i64 (.lit (.ofNat 2))],[])):=by kernel_rfl
def anewR (H:List SO) (base:Nat) (a:SA):R SumRes :=
 q4b (nth H a.nm) fun X n=>.need (a.off.den+16<=n) (.ok ⟨.tuple [.ptr ⟨base,.lit 0⟩,.int .i64 (.lit (.ofNat 0))],[],[qeo (q9e (qha X a.off.den))]⟩)
def jkl:Summ:=fun args H base=>qgd args fun v=>valS v (qob v (errR .nilPtr 2) fun a l=>qod l 16 (anewR H base a) (boolC (quc (nth H a.nm)) (errR .nilPtr 2) (.stuck 671))) fun n=>.need (n≠16) (errR .nilPtr 2)
theorem jco (p:Option Addr) (k c:Nat):outO [] (qca cfg7 6000 86 [.val (.slice p k c)] []) [true]=([((k:Int) != 16)=true],some (.tuple [.nilPtr,.int .i64 (.lit (.ofNat 2))],[])):=by kernel_rfl
theorem jat:q3a Tryz.prog 86 jkl:=by
 intro glob O w0 β H w base args vs hH hG ha
 refine qub fun v hv=>qqp (qxa (fun hn => ?_) fun a l cc hs => ?_) fun p n c hs=>fun hn => ?_
 rotate_left 2
 . rw [hv,hs] at ha
   exact qqb qnw rfl 6000 hH ⟨[],[],[.val (.slice p n c)]⟩ ha (q5c rfl) [] (by simp) (by simp) (jco p n c) (all_cons (by rw [bne_iff_ne]; omega) qaa) fun _ _=>qkb rfl rfl rfl
 . rw [hv,hn] at ha
   exact qkg qnw rfl 6000 hH ⟨[],[],[.nilSlice]⟩ ha (q5c rfl) [] (by simp) (by simp)
    jvg (by simp) fun H2 _=>qkb rfl rfl rfl
 . rw [hv,hs] at ha
   obtain ⟨y,zs,hy,hz,rfl⟩:=denL_cons.1 ha
   obtain ⟨m,hlm,hd,hd2,_⟩:=q8a hy
   refine qxb (fun hl => ?_) fun hl => ?_
   . refine q5a fun X n ht=>fun hn => ?_
     rw [qga] at ht
     rw [hl] at hd
     refine que qnw rfl 6000 hH ⟨[a.nm],[rowF X n],[.slice ⟨0,.sym a.off.den⟩ (.lit 16) (.sym m)]⟩ (denL_cons.2 ⟨_,_,hd,hz,rfl⟩) (Ifc.fits (by simp) rfl ⟨⟨ht _,qya _ _ _⟩,trivial⟩) [1] (by simp) (by simp) ?_
     show (qca cfg7 6000 86 [.slice ⟨0,.sym a.off.den⟩ (.lit 16) (.sym m)] [rowF X n]).Ob _ _
     have hr:=jao X a.off.den n m
     generalize qca cfg7 6000 86 [.slice ⟨0,.sym a.off.den⟩ (.lit 16) (.sym m)] [rowF X n]=t at hr ⊢
     refine qfh hr ?_ ?_
     . intro q hq
       simp only [List.mem_cons,List.not_mem_nil,or_false] at hq
       rcases hq with rfl | rfl
       . exact qda X
       . exact hn
     . intro H2 hH2
       have hH2:H2[1]? = some (qeo (q9e (qha X a.off.den))):=(List.cons.inj hH2).1
       refine ⟨SV.imp_of_eq rfl,rfl,trivial,⟨qbc hH2 (q2h _ _) ?_,trivial⟩⟩
       show SO.own (.lst (SV.renL _ (q0c _))) true _=_
       rw [qpn]; rfl
   . refine qfa fun hpl => ?_
     rw [qga] at hpl
     refine qru qnw rfl 6000 hH ⟨[a.nm],[.gone],[.slice ⟨0,.sym a.off.den⟩ (.sym l.den) (.sym m)]⟩ (denL_cons.2 ⟨_,_,hd,hz,rfl⟩) (Ifc.fits (by simp) rfl ⟨⟨qxe hpl,trivial⟩,trivial⟩) [] (by simp) (by simp)
      (jbo a.off.den m l.den) (fun _ t' ht'=>qpp ht' fun H2 _=>qkb rfl rfl rfl) fun hb => ?_
     exfalso; apply hl
     have:((l.den:Int) == 16)=true:=by simpa [bne] using hb
     have:(l.den:Int)=16:=by simpa using this
     omega
end
end Go.Proofs.YtcpafideogckmaaGreatDoor.Aes
