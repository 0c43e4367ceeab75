/-
  Texts behind one another: the symbolic simulator and what it is told of the program.
-/
import Derived.Test.YtbmgahpjgefjaaaGreatDoorZRefA3
import Derived.Test.YtbmgahpjgefjaaaGreatDoorPk6
import Derived.Test.YtbmgahpjgefjaaaGreatDoorPk5
import Derived.Laws.Externs
import Derived.Lib.MakeNoZero
namespace Go.Proofs.YtbmgahpjgefjaaaGreatDoor.Aes
open Go.Sim
open Go.Proofs
variable {α:Type}
set_option maxRecDepth 1000000
noncomputable def qw0 (H:List SO) (r:R SumRes):R SumRes:=optC (qlc (nth H 0)) (.stuck 740) fun l=>boolC (qps qi8 l) r (.stuck 740)
theorem qtr {H:List SO} {r:R SumRes} {φ:SumRes→Prop} (h:(∀ g,∃ e',H[0]? = some e'∧q3b g tabR e')→r.Sat φ):(qw0 H r).Sat φ:=by
  refine qja fun l hl=>qfa fun hs=>h fun g => ?_
  rw [qga] at hl
  rw [qgl hs] at hl
  exact q6b hl (by rw [q1k]; exact .refl _)
theorem qpf (p:Nat→Bool):tabR.CUses p:=q3i _ _
theorem qvs {β:Val} {I:Ifc} (h0:I.big 0=0) (hk:I.known 0=true) (hG:GlobRel qof β):∀ g j,qof g=some j→I.known j=true∧∃ l,β (I.big j)=some l∧l.blk=g∧l.off=0:=by
  intro g j hg
  have hj:j=0:=by
    have h':boolC (Nat.beq g 0) (some 0) none=some j:=hg
    obtain ⟨_,h⟩:=qsb h'
    cases h; rfl
  subst hj
  rw [h0]; exact ⟨hk,hG g 0 hg⟩
noncomputable def jqm (H:List SO) (base:Nat) (a:SA):R SumRes :=
  qxb (nth H a.nm) fun X n=>.need (a.off.den+16≤n) (.ok ⟨.slice ⟨base,.lit 0⟩ (.lit 176) (.rest base 0),[],[.own (.lst (bx (qve (qha X a.off.den)))) false 5]⟩)
noncomputable def qws:Summ:=fun args H base=>qdd args fun v=>qkb v (.stuck 741) fun a l=>qw0 H (boolC (Nat.beq 0 a.nm) (.stuck 741) (qad l 16 (jqm H base a) (.stuck 742)))
theorem qnu:SumAt Tryz.prog qof 64 qws:=by
  intro O w0 β H w base args vs hH hG ha
  refine qtb fun v hv=>qva (fun _=>trivial) fun a l c1 hs1=>qtr fun htab=>qla (fun _=>trivial) fun h0=>qqb (fun hl=>q0a fun X n ht=>fun hn => ?_) fun _=>trivial
  rw [hv,hs1] at ha
  rw [qga] at ht
  obtain ⟨x,ys,hx,hys,rfl⟩:=denL_cons.1 ha
  obtain ⟨m,_,hd,_,_⟩:=q6a hx
  rw [hl] at hd
  refine qxe qs5 20000 hH ⟨[0,a.nm],[tabR,rowF X n],[.slice ⟨1,.sym a.off.den⟩ (.lit 16) (.sym m)]⟩ (qvs rfl rfl hG) (denL_cons.2 ⟨_,_,hd,hys,rfl⟩)
    (Ifc.fits (by simpa using qbb h0) rfl ⟨⟨htab _,qpf _⟩,⟨ht _,qsa _ _ _⟩,trivial⟩) [413] (by simp) (by simp) ?_
  show (qba qil 20000 64 [.slice ⟨1,.sym a.off.den⟩ (.lit 16) (.sym m)] [tabR,rowF X n]).Ob _ _
  have hrun:=qj8 X n m a.off.den
  rw [j2f] at hrun
  generalize qba qil 20000 64 [.slice ⟨1,.sym a.off.den⟩ (.lit 16) (.sym m)] [tabR,rowF X n]=t at hrun ⊢
  exact q4g hrun (all_cons hn qca) fun H2 hH2=>⟨SV.imp_of_eq rfl,rfl,trivial,⟨q7e (List.cons.inj hH2).1,trivial⟩⟩
noncomputable def q8j (F:(Nat→BitVec 8)→List (BitVec 8)→List (BitVec 8)):Summ:=fun args H base=>q9c args fun u v=>qkb u (.stuck 743) fun b l2=>qkb v (.stuck 743) fun a l=>qw0 H
  (boolC (Nat.beq 0 a.nm) (.stuck 743) (boolC (Nat.beq 0 b.nm) (.stuck 743) (boolC (Nat.beq b.nm a.nm) (.stuck 743) (qad l 16 (qad l2 176 (qxb (nth H a.nm) fun X n=>qxb (nth H b.nm) fun W n2=>.need (a.off.den+16≤n∧b.off.den+176≤n2)
    (qr2 base (F (at2 W b.off.den) (qha X a.off.den)))) (.stuck 744)) (.stuck 744)))))
theorem qs2 {f:FuncId} {F:(Nat→BitVec 8)→List (BitVec 8)→List (BitVec 8)} {j:Nat} (hj:3≤j) {ps:(Nat→BitVec 8)→(Nat→BitVec 8)→Nat→Nat→Nat→Nat→List Prop}
    (hps:∀ X W n o o2 n2,o+16≤n∧o2+176≤n2→∀ p∈ps X W n o o2 n2,p)
    (hrun:∀ (X W:Nat→BitVec 8) (n m o o2 n2 m2:Nat),outP [j] (qba qil 20000 f [.slice ⟨1,.sym o2⟩ (.lit 176) (.sym m2),.slice ⟨2,.sym o⟩ (.lit 16) (.sym m)] [tabR,rowF W n2,rowF X n]) =
      (ps X W n o o2 n2,some (.slice ⟨j,.lit 0⟩ (.lit 16) (.lit 16),[some (.own (.lst (bx (F (at2 W o2) (qha X o)))) true 5)]))):SumAt Tryz.prog qof f (q8j F):=by
  intro O w0 β H w base args vs hH hG ha
  refine qlb fun u v hv=>qva (fun _=>trivial) fun b l2 c2 hs2=>qva (fun _=>trivial) fun a l c1 hs1=>qtr fun htab=>qla (fun _=>trivial) fun h0=>qla (fun _=>trivial) fun h1=>qla (fun _=>trivial) fun h2=>qqb (fun hl=>qqb (fun hl2=>q0a fun X n ht=>q0a fun W n2 ht2=>fun hn => ?_) fun _=>trivial) fun _=>trivial
  rw [hv,hs1,hs2] at ha
  rw [qga] at ht ht2
  obtain ⟨x,ys,hx,hys,rfl⟩:=denL_cons.1 ha
  obtain ⟨y,zs,hy,hz,rfl⟩:=denL_cons.1 hys
  obtain ⟨m2,_,hd2,_,_⟩:=q6a hx
  obtain ⟨m,_,hd,_,_⟩:=q6a hy
  rw [hl] at hd
  rw [hl2] at hd2
  have hnd:[0,b.nm,a.nm].Nodup:=by
    have:=qbb h0; have:=qbb h1; have:=qbb h2
    simp; omega
  refine qxe qs5 20000 hH ⟨[0,b.nm,a.nm],[tabR,rowF W n2,rowF X n],[.slice ⟨1,.sym b.off.den⟩ (.lit 176) (.sym m2),.slice ⟨2,.sym a.off.den⟩ (.lit 16) (.sym m)]⟩ (qvs rfl rfl hG) (denL_cons.2 ⟨_,_,hd2,denL_cons.2 ⟨_,_,hd,hz,rfl⟩,rfl⟩)
    (Ifc.fits hnd rfl ⟨⟨htab _,qpf _⟩,⟨ht2 _,qsa _ _ _⟩,⟨ht _,qsa _ _ _⟩,trivial⟩) [j] (by simpa using hj) (by simp) ?_
  show (qba qil 20000 f [.slice ⟨1,.sym b.off.den⟩ (.lit 176) (.sym m2),.slice ⟨2,.sym a.off.den⟩ (.lit 16) (.sym m)] [tabR,rowF W n2,rowF X n]).Ob _ _
  have hrun:=hrun X W n m a.off.den b.off.den n2 m2
  generalize qba qil 20000 f [.slice ⟨1,.sym b.off.den⟩ (.lit 176) (.sym m2),.slice ⟨2,.sym a.off.den⟩ (.lit 16) (.sym m)] [tabR,rowF W n2,rowF X n]=t at hrun ⊢
  have hout:Ifc.out ⟨[0,b.nm,a.nm],[tabR,rowF W n2,rowF X n],[.slice ⟨1,.sym b.off.den⟩ (.lit 176) (.sym m2),.slice ⟨2,.sym a.off.den⟩ (.lit 16) (.sym m)]⟩ base [j] j=base:=by
    unfold Ifc.out
    have hk:Ifc.known ⟨[0,b.nm,a.nm],[tabR,rowF W n2,rowF X n],[.slice ⟨1,.sym b.off.den⟩ (.lit 176) (.sym m2),.slice ⟨2,.sym a.off.den⟩ (.lit 16) (.sym m)]⟩ j=false:=by
      cases hx:Ifc.known ⟨[0,b.nm,a.nm],[tabR,rowF W n2,rowF X n],[.slice ⟨1,.sym b.off.den⟩ (.lit 176) (.sym m2),.slice ⟨2,.sym a.off.den⟩ (.lit 16) (.sym m)]⟩ j with
      | false=>rfl
      | true=>have:=(Ifc.known_iff _ _).1 hx; simp at this; omega
    rw [hk,boolC_false]
    show base+boolC (Nat.beq j j) 0 _=base
    rw [Nat.beq_refl]; rfl
  refine q4g hrun (hps X W n a.off.den b.off.den n2 hn) fun H2 hH2=>⟨SV.imp_of_eq ?_,?_,trivial,⟨q7e (List.cons.inj hH2).1,trivial⟩⟩
  · show SV.slice ⟨Ifc.out _ base [j] j,.lit 0⟩ (.lit 16) (.lit 16)=.slice ⟨base,.lit 0⟩ (.lit 16) (.lit 16)
    rw [hout]
  · show (Ifc.seen _ [j] j && true)=true
    unfold Ifc.seen
    have:memN j [j]=true:=memN_iff.2 (by simp)
    rw [this]
    cases Ifc.known _ j <;> rfl
theorem jdr:SumAt Tryz.prog qof 93 (q8j encL):=by
  refine qs2 (j:=32) (by omega) (ps:=fun X W n o o2 n2=>app [IsB (qea X),IsB (qea W),o+16≤n∧o2+176≤n2] (app (repL [0+16≤16,IsB (qea W),0+16≤16∧o2+176≤n2] 9) [IsB (qea W),0+16≤16∧o2+176≤n2])) (fun X W n o o2 n2 h => ?_) fun X W n m o o2 n2 m2 => ?_
  · have hW:=qda W
    have h2:0+16≤16∧o2+176≤n2:=⟨by omega,h.2⟩
    exact qdo (all_cons (qda X) (all_cons hW (all_cons h qca))) (qdo (qmu (all_cons (by omega) (all_cons hW (all_cons h2 qca))) 9) (all_cons hW (all_cons h2 qca)))
  · rw [← jom]; exact j3f X W n m o o2 n2 m2
theorem qt2:SumAt Tryz.prog qof 66 (q8j decL):=by
  refine qs2 (j:=33) (by omega) (ps:=fun X W n o o2 n2=>app [IsB (qea X),IsB (qea W),o+16≤n∧o2+176≤n2] (app (repL [IsB (qea W),0+16≤16∧o2+176≤n2,0+16≤16] 9) [IsB (qea W),0+16≤16∧o2+176≤n2])) (fun X W n o o2 n2 h => ?_) fun X W n m o o2 n2 m2 => ?_
  · have hW:=qda W
    have h2:0+16≤16∧o2+176≤n2:=⟨by omega,h.2⟩
    exact qdo (all_cons (qda X) (all_cons hW (all_cons h qca))) (qdo (qmu (all_cons hW (all_cons h2 (all_cons (by omega) qca))) 9) (all_cons hW (all_cons h2 qca)))
  · rw [← jpm]; exact j4f X W n m o o2 n2 m2
end Go.Proofs.YtbmgahpjgefjaaaGreatDoor.Aes
namespace Go.Proofs.YtbmgahpjgefjaaaGreatDoor.Aes
open Go.Sim
open Go.Proofs
variable {α:Type}
noncomputable def qqf (X:Nat→BitVec 8) (o n:Nat):List (BitVec 8):=mapN (fun i=>X (o+i)) (qka n 0)
theorem qwf:∀ n k:Nat,qka n k=List.range' k n:=by
  intro n
  induction n with
  | zero=>intro k; rfl
  | succ n ih=>intro k; show k::qka n (k+1)=_; rw [ih]; rfl
theorem qmm (X:Nat→BitVec 8) (o n:Nat):(qqf X o n).length=n:=by
  unfold qqf
  rw [qua,qwf]; simp
theorem qpq (X:Nat→BitVec 8) (o n i:Nat) (h:i<n):(qqf X o n)[i]? = some (X (o+i)):=by
  unfold qqf
  rw [qua,qwf,List.getElem?_map,List.getElem?_range' h]; simp
theorem qu2 {γ:Val}:∀ xs:List (BitVec 8),SV.denL γ (bx xs)=some (xs.map fun x=>Value.int .u8 (x.toNat:Int))
  | []=>rfl
  | _::xs=>denL_cons.2 ⟨_,_,rfl,qu2 xs,rfl⟩
theorem qkw (X:Nat→BitVec 8) (o n:Nat):(Cells.fn (fun i=>qea X (o+i)) n).Imp (.lst (bx (qqf X o n))):=by
  intro γ vs h
  obtain ⟨h1,h2⟩:=h
  show SV.denL γ (bx (qqf X o n))=some vs
  rw [qu2]
  congr 1
  apply List.ext_getElem?
  intro i
  rw [List.getElem?_map]
  by_cases hi:i<n
  · rw [qpq X o n i hi]
    have hv:vs[i]? = some vs[i]:=List.getElem?_eq_getElem (by omega)
    have:=h2 i _ hv
    rw [hv]; exact this
  · rw [List.getElem?_eq_none (by rw [qmm]; omega),List.getElem?_eq_none (by omega)]; rfl
theorem jic (X:Nat→BitVec 8) (o n k m:Nat):outO [2] (qba cfg0 6000 47 [.slice ⟨0,.sym o⟩ (.sym k) (.sym m)] [rowF X n]) [false] =
    ([o+k≤n,decide (k=0)=false,qte k 1∧1=1],some (.slice ⟨2,.lit 0⟩ (.sym k) (.rest 2 0),[some (.own (.fn (fun i=>qea X (o+i)) k) false 5)])):=by kernel_rfl
theorem qk8 (X:Nat→BitVec 8) (o n k m:Nat):outO [1] (qba cfg0 6000 47 [.slice ⟨0,.sym o⟩ (.sym k) (.sym m)] [rowF X n]) [true] =
    ([o+k≤n,decide (k=0)=true,1=1],some (.slice ⟨1,.lit 0⟩ (.lit 0) (.lit 0),[some (.own (.lst []) true 5)])):=by kernel_rfl
theorem jjc:outP [] (qba cfg0 6000 47 [.nilSlice] [])=([],some (.nilSlice,[])):=by kernel_rfl
noncomputable def qv2 (n o base k:Nat):R SumRes:=.need (o+k≤n) (.ok ⟨.slice ⟨base,.lit 0⟩ (.lit 0) (.lit 0),[],[.own (.lst []) true 5]⟩)
noncomputable def jer (X:Nat→BitVec 8) (n o base k:Nat):R SumRes:=boolC (Nat.beq k 0) (qv2 n o base k) (boolC (Nat.blt k 70368744177664) (.need (o+k≤n) (.ok ⟨.slice ⟨base,.lit 0⟩ (.lit k) (.rest base 0),[],[.own (.lst (bx (qqf X o k))) false 5]⟩)) (.stuck 760))
noncomputable def jfr (X:Nat→BitVec 8) (n o base k:Nat):R SumRes:=.fork (decide (k=0)) (qv2 n o base k) (.need (o+k≤n∧qte k 1) (.ok ⟨.slice ⟨base,.lit 0⟩ (.sym k) (.rest base 0),[],[.own (.fn (fun i=>qea X (o+i)) k) false 5]⟩))
noncomputable def qur:Summ:=fun args H base=>qdd args fun v=>qkb v (.ok ⟨.nilSlice,[],[]⟩) fun a l=>qxb (nth H a.nm) fun X n =>
  SN.rec (motive:=fun _=>R SumRes) (fun k=>jer X n a.off.den base k) (fun k=>jfr X n a.off.den base k) (fun _ _=>.stuck 761) l
theorem qxs:q5a Tryz.prog 47 qur:=by
  intro glob O w0 β H w base args vs hH hG ha
  refine qtb fun v hv=>qva (fun hn => ?_) fun a l cc hs=>q0a fun X n ht => ?_
  · rw [hv,hn] at ha
    exact q7f qsc rfl 6000 hH ⟨[],[],[.nilSlice]⟩ ha (qed rfl) [] (by simp) (by simp) jjc (by simp) fun H2 _=>qmc rfl rfl rfl
  · rw [hv,hs] at ha
    rw [qga] at ht
    obtain ⟨y,zs,hy,hz,rfl⟩:=denL_cons.1 ha
    obtain ⟨m,hlm,hd,_,_⟩:=q6a hy
    have key:∀ (k:Nat) (r:SumRes),l.den=k→k≠0→a.off.den+k≤n→qte k 1→r.sets=[]→((SV.slice ⟨base,.lit 0⟩ (.sym k) (.rest base 0)).Imp r.v) →
        (∃ c,(Cells.fn (fun i=>qea X (a.off.den+i)) k).Imp c∧r.news=[.own c false 5])→q3a Tryz.prog H β w base 47 (y::zs) r:=by
      intro k r hk hk0 hle hro hsets hval hnews
      obtain ⟨c,hc,hnews⟩:=hnews
      rw [hk] at hd
      refine qob qsc rfl 6000 hH ⟨[a.nm],[rowF X n],[.slice ⟨0,.sym a.off.den⟩ (.sym k) (.sym m)]⟩ (denL_cons.2 ⟨_,_,hd,hz,rfl⟩) (Ifc.fits (by simp) rfl ⟨⟨ht _,qsa _ _ _⟩,trivial⟩) [2] (by simp) (by simp)
        (jic X a.off.den n k m) (all_cons hle (all_cons (decide_eq_false hk0) (all_cons ⟨hro,rfl⟩ qca))) fun H2 hH2=>⟨hval,rfl,by rw [hsets]; trivial,?_⟩
      · rw [hnews]
        have hH2:H2[2]? = some (.own (.fn (fun i=>qea X (a.off.den+i)) k) false 5):=(List.cons.inj hH2).1
        exact ⟨q0k hH2 (fun _=>rfl) hc,trivial⟩
    have key0:∀ k:Nat,l.den=k→k=0→(qv2 n a.off.den base k).Sat (q3a Tryz.prog H β w base 47 (y::zs)):=by
      intro k hk hk0 hle
      rw [hk] at hd
      exact qob qsc rfl 6000 hH ⟨[a.nm],[rowF X n],[.slice ⟨0,.sym a.off.den⟩ (.sym k) (.sym m)]⟩ (denL_cons.2 ⟨_,_,hd,hz,rfl⟩) (Ifc.fits (by simp) rfl ⟨⟨ht _,qsa _ _ _⟩,trivial⟩) [1] (by simp) (by simp)
        (qk8 X a.off.den n k m) (all_cons hle (all_cons (decide_eq_true hk0) (all_cons rfl qca))) fun H2 hH2=>⟨.refl _,rfl,trivial,⟨qdc (List.cons.inj hH2).1 rfl rfl,trivial⟩⟩
    cases l with
    | lit k =>
      refine qla (fun h0=>key0 k rfl (qna h0)) fun h0=>qfa fun hlt=>fun hle=>key k _ rfl (qbb h0) hle ⟨?_,qcf hlt⟩ rfl (.refl _) ⟨_,qkw X _ k,rfl⟩
      have:=qcf hlt; omega
    | sym k=>exact ⟨fun h0=>key0 k rfl (of_decide_eq_true h0),fun h0=>fun h=>key k _ rfl (of_decide_eq_false h0) h.1 h.2 rfl (.refl _) ⟨_,.refl _,rfl⟩⟩
    | byt=>trivial
end Go.Proofs.YtbmgahpjgefjaaaGreatDoor.Aes
namespace Go.Proofs.YtbmgahpjgefjaaaGreatDoor.Aes
open Go.Sim
open Go.Proofs
variable {α:Type}
noncomputable def j3j:Cfg:=qae (qcb [(47,qur)])
theorem jrm:CfgOK j3j:=q7b (all1 qxs)
theorem j5f (X Y:Nat→BitVec 8) (n m o o2 n2 m2:Nat):outP [2] (qba j3j 20000 122 [.slice ⟨0,.sym o⟩ (.lit 16) (.sym m),.slice ⟨1,.sym o2⟩ (.lit 16) (.sym m2)] [rowF X n,rowF Y n2]) =
    (IsB (qea X)::(o+16≤n)::qnp (fun i=>o2+i<n2) 16,some (.slice ⟨2,.lit 0⟩ (.lit 16) (.rest 2 0),[some (.own (.lst (bx (addL (qha X o) (qha Y o2)))) false 5)])):=by kernel_rfl
noncomputable def j4j:Summ:=fun args H base=>q9c args fun v u=>qkb v (.stuck 800) fun a l=>qkb u (.stuck 800) fun b l2=>qad l 16 (qad l2 16 (boolC (Nat.beq a.nm b.nm) (.stuck 801) (qxb (nth H a.nm) fun X n=>qxb (nth H b.nm) fun Y n2=>.need (a.off.den+16≤n∧b.off.den+16≤n2)
  (.ok ⟨.slice ⟨base,.lit 0⟩ (.lit 16) (.rest base 0),[],[.own (.lst (bx (addL (qha X a.off.den) (qha Y b.off.den)))) false 5]⟩))) (.stuck 802)) (.stuck 802)
theorem qw2 {p:Nat→Bool} {g:Nat→Nat} {E:Option SO} {xs:List (BitVec 8)} {w:Bool} {el:TypeId} (h:E=some (.own (.lst (bx xs)) w el)):qrd p g E (.own (.lst (bx xs)) w el):=by
  refine qdc h (qcd _ _) ?_
  show SO.own (.lst (SV.renL _ (bx _))) w el=_
  rw [qyd]
theorem jgr:q5a Tryz.prog 122 j4j:=by
  intro glob O w0 β H w base args vs hH hG ha
  refine qlb fun v u hv=>qva (fun _=>trivial) fun a l c1 hs1=>qva (fun _=>trivial) fun b l2 c2 hs2=>qqb (fun hl=>qqb (fun hl2=>qla (fun _=>trivial) fun hab=>q0a fun X n ht=>q0a fun Y n2 ht2=>fun hn => ?_) fun _=>trivial) fun _=>trivial
  rw [hv,hs1,hs2] at ha
  rw [qga] at ht ht2
  obtain ⟨x,ys,hx,hys,rfl⟩:=denL_cons.1 ha
  obtain ⟨y,zs,hy,hz,rfl⟩:=denL_cons.1 hys
  obtain ⟨m,_,hd,_,_⟩:=q6a hx
  obtain ⟨m2,_,hd2,_,_⟩:=q6a hy
  rw [hl] at hd
  rw [hl2] at hd2
  exact q7f jrm rfl 20000 hH ⟨[a.nm,b.nm],[rowF X n,rowF Y n2],[.slice ⟨0,.sym a.off.den⟩ (.lit 16) (.sym m),.slice ⟨1,.sym b.off.den⟩ (.lit 16) (.sym m2)]⟩
    (denL_cons.2 ⟨_,_,hd,denL_cons.2 ⟨_,_,hd2,hz,rfl⟩,rfl⟩) (Ifc.fits (by simpa using qbb hab) rfl ⟨⟨ht _,qsa _ _ _⟩,⟨ht2 _,qsa _ _ _⟩,trivial⟩) [2] (by simp) (by simp)
    (j5f X Y n m a.off.den b.off.den n2 m2) (all_cons (qda X) (all_cons hn.1 (qsr fun i hi=>by omega))) fun H2 hH2=>⟨SV.imp_of_eq rfl,rfl,trivial,⟨qw2 (List.cons.inj hH2).1,trivial⟩⟩
end Go.Proofs.YtbmgahpjgefjaaaGreatDoor.Aes
namespace Go.Proofs.YtbmgahpjgefjaaaGreatDoor.Aes
open Go.Sim
open Go.Proofs
variable {α:Type}
noncomputable def j5j (z:Nat→Nat):Nat→BitVec 8:=fun i=>BitVec.ofNat 8 (z i)
theorem qyt:∀ (n t:Nat) (acc:Array Value),(Extern.BytealgMakeNoZero.digits n t acc).toList=acc.toList++(List.range n).map fun i=>Value.int .u8 (Int.ofNat (t / 256 ^ i % 256))
  | 0,t,acc=>by simp [Extern.BytealgMakeNoZero.digits]
  | n+1,t,acc=>by
    rw [Extern.BytealgMakeNoZero.digits,qyt n,List.range_succ_eq_map]
    simp only [Array.toList_push,List.append_assoc,List.map_cons,List.map_map,Nat.pow_zero,Nat.div_one]
    congr 1
    show _::_=_::_
    congr 1
    apply List.map_congr_left
    intro i _
    show Value.int .u8 _=Value.int .u8 _
    rw [Nat.div_div_eq_div_mul,Nat.pow_succ,Nat.mul_comm]
theorem jsm {P:Program} (w:World) (ps:Array TypeId) (t e:TypeId) (ht:P.underlying t=some (.slice e)) (n:Nat) (hn:n≤281474976710656) :
    ∃ cap bytes,(Extern.BytealgMakeNoZero.makeNoZero ps #[t] #[.int .i64 n]).run P w=.ok (.slice (some ⟨w.heap.size,0,none⟩) n cap) (w.drew.drew.alloc (.cells (Extern.BytealgMakeNoZero.digits cap bytes #[]) e))∧n≤cap:=by
  have hdef:Extern.BytealgMakeNoZero.makeNoZero ps #[t] #[.int .i64 n] =
      (do
        let .slice elem ← underlying t | stuck "bytealg.MakeNoZero: slice type expected"
        if (n:Int)<0 || (n:Int) > 2 ^ 48 then runtimePanic (.error "makeslice: len out of range")
        let cap ← choose (.appendCap (n:Int).toNat 0 elem)
        askRoom cap
        let bytes ← choose (.extern "internal/bytealg.MakeNoZero.bytes" 0)
        let a ← newRow elem (Extern.BytealgMakeNoZero.digits cap bytes #[])
        pure (.slice (some a) (n:Int).toNat cap)):=rfl
  refine ⟨grownCap w n 0 e,(Question.extern "internal/bytealg.MakeNoZero.bytes" 0).cut (w.tape (w.drawn+1) (.extern "internal/bytealg.MakeNoZero.bytes" 0)),?_,?_⟩
  · rw [hdef]
    have h1:¬ (n:Int)<0:=by omega
    have h2:¬ (281474976710656:Int)<(n:Int):=by omega
    simp [qia ht,h1,h2,Question.forced,newRow,grownCap]
  · simpa using grownCap_ge w n 0 e
theorem jhr {P:Program} {f:FuncId} {e:Array Value→Sem Value} (h1:(P.funcs[f]?).map (fun fn=>(fn.name == "runtime.NumGoroutine",fn.body.isNone))=some (false,true)) (h2:(P.funcs[f]?).map (fun fn=>(Extern.findNext fn).isNone)=some true) (h3:(P.funcs[f]?).map Extern.find=some (some e)) :
    ∃ fn,P.funcs[f]? = some fn∧(fn.name == "runtime.NumGoroutine")=false∧fn.body.isNone=true∧Extern.findNext fn=none∧Extern.find fn=some e:=by
  cases hf:P.funcs[f]? with
  | none=>rw [hf] at h1; cases h1
  | some fn =>
    rw [hf] at h1 h2 h3
    simp only [Option.map_some,Option.some.injEq,Prod.mk.injEq] at h1 h2 h3
    exact ⟨fn,rfl,h1.1,h1.2,by simpa using h2,h3⟩
theorem j6f:∃ fn,Tryz.prog.funcs[145]? = some fn∧(fn.name == "runtime.NumGoroutine")=false∧fn.body.isNone=true∧Extern.findNext fn=none∧Extern.find fn=some (Extern.BytealgMakeNoZero.makeNoZero #[3] #[22]):=jhr (by kernel_rfl) (by kernel_rfl) (by kernel_rfl)
noncomputable def mnzS:Summ:=fun args _ base=>qdd args fun v=>optC (litI v) (.stuck 780) fun n=>boolC (Nat.ble n 16777216) (.any fun z=>.ok ⟨.slice ⟨base,.lit 0⟩ (.lit n) (.rest base 0),[],[.own (.lst (bx (qqf (j5j z) 0 n))) false 5]⟩) (.stuck 781)
theorem q24:Tryz.prog.underlying 22=some (.slice 5):=by kernel_rfl
theorem jkc:(Tryz.prog.info? 5).map (·.size)=some 1:=by kernel_rfl
set_option maxRecDepth 100000 in
theorem mnzOK:q5a Tryz.prog 145 mnzS:=by
  intro glob O w0 β H w base args vs hH hG ha
  refine qtb fun v hv=>qja fun n hn=>qfa fun hle => ?_
  rw [hv,q6e hn] at ha
  cases ha
  have hle:n≤16777216:=Nat.le_of_ble_eq_true hle
  obtain ⟨fn,h1,h2,h3,h4,h5⟩:=j6f
  obtain ⟨cap,bytes,hrun,hcap⟩:=jsm (P:=Tryz.prog) w #[3] 22 5 q24 n (by omega)
  refine ⟨fun i=>bytes / 256 ^ i % 256,?_⟩
  intro hfree
  have hb:β base=none:=hfree 0 (by simp)
  refine ⟨by simp,.inr ?_⟩
  let vs:List Value:=(List.range n).map fun i=>Value.int .u8 (Int.ofNat (bytes / 256 ^ i % 256))
  let rest:List Value:=(List.range' n (cap - n)).map fun i=>Value.int .u8 (Int.ofNat (bytes / 256 ^ i % 256))
  have qhc:Extern.BytealgMakeNoZero.digits cap bytes #[]=(vs++rest).toArray:=by
    apply Array.ext'
    rw [qyt]
    show _=(vs++rest)
    simp only [vs,rest]
    rw [← List.map_append,List.range_eq_range',List.range_eq_range']
    have:List.range' 0 cap=List.range' 0 n++List.range' n (cap - n):=by
      have:=(List.range'_append (s:=0) (m:=n) (n:=cap - n) (step:=1)).symm
      rw [show n+(cap - n)=cap from by omega] at this
      simpa using this
    rw [this]; rfl
  have hE:=Eff.alloc (P:=Tryz.prog) (β:=β) (w:=w) (w':=w.drew.drew.alloc (.cells (Extern.BytealgMakeNoZero.digits cap bytes #[]) 5)) (base:=base) (c:=.lst (bx (qqf (j5j fun i=>bytes / 256 ^ i % 256) 0 n))) (whole:=false) (elem:=5) (vs:=vs) (rest:=rest) (lo:=0) (hi:=0) (cap:=cap) hb
    (by rw [← qhc]; rfl) rfl rfl rfl ?_ (.inl rfl) (by simp) ?_
  · refine ⟨.slice (some ⟨w.heap.size,0,none⟩) n cap,_,_,?_,?_,hE⟩
    · rw [run_callFunc_extern h1 h2 h3 h4 h5]
      show ((Extern.BytealgMakeNoZero.makeNoZero #[3] #[22] #[.int .i64 n]).run Tryz.prog w).andThen _=_
      rw [hrun]; rfl
    · simp [SV.den,SA.den,SC.den,SN.den,Val.upd,q4l,hcap]
  · show SV.denL β (bx _)=some vs
    rw [qu2]
    congr 1
    apply List.ext_getElem?
    intro i
    rw [List.getElem?_map]
    by_cases hi:i<n
    · rw [qpq _ _ _ _ hi]
      simp only [vs,List.getElem?_map,List.getElem?_range hi,Option.map_some]
      congr 1
      show Value.int .u8 (((BitVec.ofNat 8 (bytes / 256 ^ (0+i) % 256)).toNat:Nat):Int)=_
      rw [BitVec.toNat_ofNat,Nat.zero_add,Nat.mod_mod_of_dvd _ (by decide)]
      rfl
    · rw [List.getElem?_eq_none (by rw [qmm]; omega),List.getElem?_eq_none (by simp [vs]; omega)]; rfl
  · intro i hi
    have:=jkc
    rw [hi] at this
    have h1:i.size=1:=Option.some.inj this
    rw [h1]
    simp [vs,rest]; omega
end Go.Proofs.YtbmgahpjgefjaaaGreatDoor.Aes
namespace Go.Proofs.YtbmgahpjgefjaaaGreatDoor.Aes
open Go.Sim
open Go.Proofs
variable {α:Type}
noncomputable def qop (T:List Int) (e:Option SO):Bool:=optC (ownE 209 e) false fun l=>boolC (qth T l) (qus (qyb l (lenN T))) false
theorem qqq {T:List Int} {e:Option SO} (h:qop T e=true):e=some (.own (.lst (app (lx T) [.bool (.lit true)])) true 209):=by
  unfold qop at h
  cases hl:ownE 209 e with
  | none=>rw [hl] at h; cases h
  | some l =>
    rw [hl] at h
    have h:boolC (qth T l) (qus (qyb l (lenN T))) false=true:=h
    cases h1:qth T l with
    | false=>rw [h1] at h; cases h
    | true =>
      rw [h1] at h
      have h1:=qki h1
      rw [qpr h] at h1
      rw [qnr hl,h1]
noncomputable def fillS:Summ:=fun args H _=>qdd args fun c=>optC (qzf c) (.stuck 660) fun p=>boolC (qop (qkm 688) (nth H p)) (.ok ⟨.tuple [],[(p,q9f)],[]⟩) (.stuck 661)
theorem qay (f:Nat→Nat) (T:List Int):SV.renL f (app (lx T) [.bool (.lit true)])=app (lx T) [.bool (.lit true)]:=by rw [qdf,q1k]; rfl
theorem qou (p:Nat→Bool) (T:List Int):SV.usesL p (app (lx T) [.bool (.lit true)])=true:=by rw [qre,q3i]; rfl
theorem q2k:q9f=.own (.lst (app (lx (app tabI (qkm 176))) [.bool (.lit true)])) true 209:=by
  have:app (lx tabI) (app (lx (qkm 176)) [SV.bool (.lit true)])=app (lx (app tabI (qkm 176))) [.bool (.lit true)]:=by kernel_rfl
  unfold q9f
  rw [this]
theorem jir:q5a Tryz.prog 163 fillS:=by
  intro glob O w0 β H w base args vs hH hG ha
  refine qtb fun c hv=>qja fun p h1=>qfa fun hp => ?_
  rw [hv,q0c h1] at ha
  rw [qga] at hp
  refine qke qsc rfl 20000 hH ⟨[p],[qiw],[.ptr ⟨0,.lit 0⟩]⟩ ha (Ifc.fits (by simp) rfl ⟨⟨⟨_,qqq hp,qnf (by rw [qay]; exact .refl _)⟩,qou _ _⟩,trivial⟩) [] (by simp) (by simp) ?_
  show (qba cfg0 20000 163 [.ptr ⟨0,.lit 0⟩] [qiw]).Ob _ _
  have hr:=jxf
  generalize qba cfg0 20000 163 [.ptr ⟨0,.lit 0⟩] [qiw]=t at hr ⊢
  refine qlp hr ?_
  intro H2 hH2
  refine ⟨SV.Imp.refl _,rfl,?_,trivial⟩
  show SetsOK _ _ _ _ [0] _
  have hH2:H2[0]? = some q9f:=(List.cons.inj hH2).1
  rw [q2k] at hH2
  refine ⟨⟨rfl,?_⟩,trivial⟩
  show qrd _ _ _ q9f
  refine qdc hH2 (qou _ _) ?_
  rw [q2k]
  show SO.own (.lst (SV.renL _ _)) true _=_
  rw [qay]
noncomputable def qu5:Summ:=fun args H _=>q9c args fun c v=>optC (qzf c) (.stuck 662) fun p=>qkb v (.stuck 663) fun a l=>boolC (qop (app tabI (qkm 176)) (nth H p)) (boolC (Nat.beq p a.nm) (.stuck 664)
  (qad l 16 (qxb (nth H a.nm) fun X n=>.need (a.off.den+16≤n) (.ok ⟨.tuple [],[(p,qco (qve (qha X a.off.den)))],[]⟩)) (.stuck 665))) (.stuck 666)
theorem j7f:q5a Tryz.prog 164 qu5:=by
  intro glob O w0 β H w base args vs hH hG ha
  refine qlb fun c v hv=>qja fun p h1=>qva (fun _=>trivial) fun a l cc hs=>qfa fun hp=>qla (fun _=>trivial) fun hpa=>qqb (fun hl=>q0a fun X n ht=>fun hn => ?_) fun _=>trivial
  rw [hv,q0c h1,hs] at ha
  rw [qga] at hp ht
  obtain ⟨x,ys,hx,hys,rfl⟩:=denL_cons.1 ha
  obtain ⟨y,zs,hy,hz,rfl⟩:=denL_cons.1 hys
  obtain ⟨m,hlm,hd,_,_⟩:=q6a hy
  rw [hl] at hd
  refine qke j8q rfl 20000 hH ⟨[p,a.nm],[q9f,rowF X n],[.ptr ⟨0,.lit 0⟩,.slice ⟨1,.sym a.off.den⟩ (.lit 16) (.sym m)]⟩ (denL_cons.2 ⟨_,_,hx,denL_cons.2 ⟨_,_,hd,hz,rfl⟩,rfl⟩)
    (Ifc.fits (by simpa using qbb hpa) rfl ⟨⟨⟨_,qqq hp,?_⟩,?_⟩,⟨ht _,qsa _ _ _⟩,trivial⟩) [] (by simp) (by simp) ?_
  · rw [q2k]; exact qnf (by rw [qay]; exact .refl _)
  · rw [q2k]; exact qou _ _
  · show (qba cfg6 20000 164 [.ptr ⟨0,.lit 0⟩,.slice ⟨1,.sym a.off.den⟩ (.lit 16) (.sym m)] [q9f,rowF X n]).Ob _ _
    have hr:=qc8 X a.off.den n m
    generalize qba cfg6 20000 164 [.ptr ⟨0,.lit 0⟩,.slice ⟨1,.sym a.off.den⟩ (.lit 16) (.sym m)] [q9f,rowF X n]=t at hr ⊢
    refine q4g hr ?_ ?_
    · intro q hq
      simp only [List.mem_cons,List.not_mem_nil,or_false] at hq
      rcases hq with rfl | rfl | rfl | rfl | rfl | rfl | rfl | rfl <;> omega
    · intro H2 hH2
      refine ⟨SV.Imp.refl _,rfl,?_,trivial⟩
      show SetsOK _ _ _ _ (q8b [q9f,rowF X n] 0) _
      rw [q2k]
      have hH2:H2[0]? = some (qco (qve (qha X a.off.den))):=(List.cons.inj hH2).1
      refine ⟨⟨rfl,qdc hH2 (quh _ _) ?_⟩,trivial⟩
      show SO.own (.lst (SV.renL _ (qyc _))) true _=_
      rw [qnn]; rfl
noncomputable def cfg7:Cfg:=qae (qcb [(163,fillS),(164,qu5)])
theorem qlw:CfgOK cfg7:=q7b (allC jir (all1 j7f))
theorem jtm (X:Nat→BitVec 8) (o n m:Nat):outP [1] (qba cfg7 6000 140 [.slice ⟨0,.sym o⟩ (.lit 16) (.sym m)] [rowF X n]) =
    ([IsB (qea X),o+16≤n],some (.tuple [.ptr ⟨1,.lit 0⟩,.int .i64 (.lit (.ofNat 0))],[some (qco (qve (qha X o)))])):=by kernel_rfl
theorem jum (o m k:Nat):outF [] (qba cfg7 6000 140 [.slice ⟨0,.sym o⟩ (.sym k) (.sym m)] [.gone])=some (((k:Int) != 16),([],some (.tuple [.nilPtr,.int .i64 (.lit (.ofNat 2))],[])),([],none)):=by kernel_rfl
theorem j8f:outP [] (qba cfg7 6000 140 [.nilSlice] [])=([],some (.tuple [.nilPtr,.int .i64 (.lit (.ofNat 2))],[])):=by kernel_rfl
noncomputable def anewR (H:List SO) (base:Nat) (a:SA):R SumRes :=
  qxb (nth H a.nm) fun X n=>.need (a.off.den+16≤n) (.ok ⟨.tuple [.ptr ⟨base,.lit 0⟩,.int .i64 (.lit (.ofNat 0))],[],[qco (qve (qha X a.off.den))]⟩)
noncomputable def j6j:Summ:=fun args H base=>qdd args fun v=>valS v (qkb v (errR .nilPtr 2) fun a l=>qad l 16 (anewR H base a) (boolC (qrc (nth H a.nm)) (errR .nilPtr 2) (.stuck 671))) fun n=>.need (n≠16) (errR .nilPtr 2)
theorem jvm (p:Option Addr) (k c:Nat):outO [] (qba cfg7 6000 140 [.val (.slice p k c)] []) [true]=([((k:Int) != 16)=true],some (.tuple [.nilPtr,.int .i64 (.lit (.ofNat 2))],[])):=by kernel_rfl
theorem jjr:q5a Tryz.prog 140 j6j:=by
  intro glob O w0 β H w base args vs hH hG ha
  refine qtb fun v hv=>qmp (qva (fun hn => ?_) fun a l cc hs => ?_) fun p n c hs=>fun hn => ?_
  rotate_left 2
  · rw [hv,hs] at ha
    exact qob qlw rfl 6000 hH ⟨[],[],[.val (.slice p n c)]⟩ ha (qed rfl) [] (by simp) (by simp) (jvm p n c) (all_cons (by rw [bne_iff_ne]; omega) qca) fun _ _=>qmc rfl rfl rfl
  · rw [hv,hn] at ha
    exact q7f qlw rfl 6000 hH ⟨[],[],[.nilSlice]⟩ ha (qed rfl) [] (by simp) (by simp)
      j8f (by simp) fun H2 _=>qmc rfl rfl rfl
  · rw [hv,hs] at ha
    obtain ⟨y,zs,hy,hz,rfl⟩:=denL_cons.1 ha
    obtain ⟨m,hlm,hd,hd2,_⟩:=q6a hy
    refine qqb (fun hl => ?_) fun hl => ?_
    · refine q0a fun X n ht=>fun hn => ?_
      rw [qga] at ht
      rw [hl] at hd
      refine qke qlw rfl 6000 hH ⟨[a.nm],[rowF X n],[.slice ⟨0,.sym a.off.den⟩ (.lit 16) (.sym m)]⟩ (denL_cons.2 ⟨_,_,hd,hz,rfl⟩) (Ifc.fits (by simp) rfl ⟨⟨ht _,qsa _ _ _⟩,trivial⟩) [1] (by simp) (by simp) ?_
      show (qba cfg7 6000 140 [.slice ⟨0,.sym a.off.den⟩ (.lit 16) (.sym m)] [rowF X n]).Ob _ _
      have hr:=jtm X a.off.den n m
      generalize qba cfg7 6000 140 [.slice ⟨0,.sym a.off.den⟩ (.lit 16) (.sym m)] [rowF X n]=t at hr ⊢
      refine q4g hr ?_ ?_
      · intro q hq
        simp only [List.mem_cons,List.not_mem_nil,or_false] at hq
        rcases hq with rfl | rfl
        · exact qda X
        · exact hn
      · intro H2 hH2
        have hH2:H2[1]? = some (qco (qve (qha X a.off.den))):=(List.cons.inj hH2).1
        refine ⟨SV.imp_of_eq rfl,rfl,trivial,⟨qdc hH2 (quh _ _) ?_,trivial⟩⟩
        show SO.own (.lst (SV.renL _ (qyc _))) true _=_
        rw [qnn]; rfl
    · refine qfa fun hpl => ?_
      rw [qga] at hpl
      refine qlu qlw rfl 6000 hH ⟨[a.nm],[.gone],[.slice ⟨0,.sym a.off.den⟩ (.sym l.den) (.sym m)]⟩ (denL_cons.2 ⟨_,_,hd,hz,rfl⟩) (Ifc.fits (by simp) rfl ⟨⟨qne hpl,trivial⟩,trivial⟩) [] (by simp) (by simp)
        (jum a.off.den m l.den) (fun _ t' ht'=>qlp ht' fun H2 _=>qmc rfl rfl rfl) fun hb => ?_
      exfalso; apply hl
      have:((l.den:Int) == 16)=true:=by simpa [bne] using hb
      have:(l.den:Int)=16:=by simpa using this
      omega
end Go.Proofs.YtbmgahpjgefjaaaGreatDoor.Aes
