/-
  Texts behind one another: the symbolic simulator and what it is told of the program.
-/
import Derived.Test.YtbmgahpjgefjaaaGreatDoorOzRefA3
import Derived.Test.YtbmgahpjgefjaaaGreatDoorPo6
import Derived.Test.YtbmgahpjgefjaaaGreatDoorPo5
import Derived.Laws.Externs
import Derived.Lib.MakeNoZero
namespace Go.Proofs.YtbmgahpjgefjaaaGreatDoor.Aes
open Go.Sim
open Go.Proofs
variable {α:Type}
set_option maxRecDepth 1000000
noncomputable def ql0 (H:List SO) (r:R SumRes):R SumRes:=optC (qhc (nth H 0)) (.stuck 740) fun l=>boolC (qds qj8 l) r (.stuck 740)
theorem qlr {H:List SO} {r:R SumRes} {φ:SumRes→Prop} (h:(∀ g,∃ e',H[0]? = some e'∧qqb g tabR e')→r.Sat φ):(ql0 H r).Sat φ:=by
  refine qja fun l hl=>qfa fun hs=>h fun g => ?_
  rw [qga] at hl
  rw [qdl hs] at hl
  exact q5b hl (by rw [qvk]; exact .refl _)
theorem qvh (p:Nat→Bool):tabR.CUses p:=q1i _ _
theorem qjs {β:Val} {I:Ifc} (h0:I.big 0=0) (hk:I.known 0=true) (hG:GlobRel qog β):∀ g j,qog g=some j→I.known j=true∧∃ l,β (I.big j)=some l∧l.blk=g∧l.off=0:=by
  intro g j hg
  have hj:j=0:=by
    have h':boolC (Nat.beq g 0) (some 0) none=some j:=hg
    obtain ⟨_,h⟩:=qsb h'
    cases h; rfl
  subst hj
  rw [h0]; exact ⟨hk,hG g 0 hg⟩
noncomputable def jkn (H:List SO) (base:Nat) (a:SA):R SumRes :=
  q3b (nth H a.nm) fun X n=>.need (a.off.den+16≤n) (.ok ⟨.slice ⟨base,.lit 0⟩ (.lit 176) (.rest base 0),[],[.own (.lst (bx (q5e (qha X a.off.den)))) false 5]⟩)
noncomputable def qxx:Summ:=fun args H base=>qfd args fun v=>qob v (.stuck 741) fun a l=>ql0 H (boolC (Nat.beq 0 a.nm) (.stuck 741) (qnd l 16 (jkn H base a) (.stuck 742)))
theorem ql2:SumAt Tryz.prog qog 64 qxx:=by
  intro O w0 β H w base args vs hH hG ha
  refine qtb fun v hv=>qxa (fun _=>trivial) fun a l c1 hs1=>qlr fun htab=>qla (fun _=>trivial) fun h0=>qwb (fun hl=>q3a fun X n ht=>fun hn => ?_) fun _=>trivial
  rw [hv,hs1] at ha
  rw [qga] at ht
  obtain ⟨x,ys,hx,hys,rfl⟩:=denL_cons.1 ha
  obtain ⟨m,_,hd,_,_⟩:=q8a hx
  rw [hl] at hd
  refine qlg qq5 20000 hH ⟨[0,a.nm],[tabR,rowF X n],[.slice ⟨1,.sym a.off.den⟩ (.lit 16) (.sym m)]⟩ (qjs rfl rfl hG) (denL_cons.2 ⟨_,_,hd,hys,rfl⟩)
    (Ifc.fits (by simpa using qmb h0) rfl ⟨⟨htab _,qvh _⟩,⟨ht _,qya _ _ _⟩,trivial⟩) [413] (by simp) (by simp) ?_
  show (qca qfl 20000 64 [.slice ⟨1,.sym a.off.den⟩ (.lit 16) (.sym m)] [tabR,rowF X n]).Ob _ _
  have hrun:=qk8 X n m a.off.den
  rw [j9f] at hrun
  generalize qca qfl 20000 64 [.slice ⟨1,.sym a.off.den⟩ (.lit 16) (.sym m)] [tabR,rowF X n]=t at hrun ⊢
  exact q9g hrun (all_cons hn qba) fun H2 hH2=>⟨SV.imp_of_eq rfl,rfl,trivial,⟨q4f (List.cons.inj hH2).1,trivial⟩⟩
noncomputable def qtl (F:(Nat→BitVec 8)→List (BitVec 8)→List (BitVec 8)):Summ:=fun args H base=>qcd args fun u v=>qob u (.stuck 743) fun b l2=>qob v (.stuck 743) fun a l=>ql0 H
  (boolC (Nat.beq 0 a.nm) (.stuck 743) (boolC (Nat.beq 0 b.nm) (.stuck 743) (boolC (Nat.beq b.nm a.nm) (.stuck 743) (qnd l 16 (qnd l2 176 (q3b (nth H a.nm) fun X n=>q3b (nth H b.nm) fun W n2=>.need (a.off.den+16≤n∧b.off.den+176≤n2)
    (qk2 base (F (at2 W b.off.den) (qha X a.off.den)))) (.stuck 744)) (.stuck 744)))))
theorem qm2 {f:FuncId} {F:(Nat→BitVec 8)→List (BitVec 8)→List (BitVec 8)} {j:Nat} (hj:3≤j) {ps:(Nat→BitVec 8)→(Nat→BitVec 8)→Nat→Nat→Nat→Nat→List Prop}
    (hps:∀ X W n o o2 n2,o+16≤n∧o2+176≤n2→∀ p∈ps X W n o o2 n2,p)
    (hrun:∀ (X W:Nat→BitVec 8) (n m o o2 n2 m2:Nat),outP [j] (qca qfl 20000 f [.slice ⟨1,.sym o2⟩ (.lit 176) (.sym m2),.slice ⟨2,.sym o⟩ (.lit 16) (.sym m)] [tabR,rowF W n2,rowF X n]) =
      (ps X W n o o2 n2,some (.slice ⟨j,.lit 0⟩ (.lit 16) (.lit 16),[some (.own (.lst (bx (F (at2 W o2) (qha X o)))) true 5)]))):SumAt Tryz.prog qog f (qtl F):=by
  intro O w0 β H w base args vs hH hG ha
  refine qnb fun u v hv=>qxa (fun _=>trivial) fun b l2 c2 hs2=>qxa (fun _=>trivial) fun a l c1 hs1=>qlr fun htab=>qla (fun _=>trivial) fun h0=>qla (fun _=>trivial) fun h1=>qla (fun _=>trivial) fun h2=>qwb (fun hl=>qwb (fun hl2=>q3a fun X n ht=>q3a fun W n2 ht2=>fun hn => ?_) fun _=>trivial) fun _=>trivial
  rw [hv,hs1,hs2] at ha
  rw [qga] at ht ht2
  obtain ⟨x,ys,hx,hys,rfl⟩:=denL_cons.1 ha
  obtain ⟨y,zs,hy,hz,rfl⟩:=denL_cons.1 hys
  obtain ⟨m2,_,hd2,_,_⟩:=q8a hx
  obtain ⟨m,_,hd,_,_⟩:=q8a hy
  rw [hl] at hd
  rw [hl2] at hd2
  have hnd:[0,b.nm,a.nm].Nodup:=by
    have:=qmb h0; have:=qmb h1; have:=qmb h2
    simp; omega
  refine qlg qq5 20000 hH ⟨[0,b.nm,a.nm],[tabR,rowF W n2,rowF X n],[.slice ⟨1,.sym b.off.den⟩ (.lit 176) (.sym m2),.slice ⟨2,.sym a.off.den⟩ (.lit 16) (.sym m)]⟩ (qjs rfl rfl hG) (denL_cons.2 ⟨_,_,hd2,denL_cons.2 ⟨_,_,hd,hz,rfl⟩,rfl⟩)
    (Ifc.fits hnd rfl ⟨⟨htab _,qvh _⟩,⟨ht2 _,qya _ _ _⟩,⟨ht _,qya _ _ _⟩,trivial⟩) [j] (by simpa using hj) (by simp) ?_
  show (qca qfl 20000 f [.slice ⟨1,.sym b.off.den⟩ (.lit 176) (.sym m2),.slice ⟨2,.sym a.off.den⟩ (.lit 16) (.sym m)] [tabR,rowF W n2,rowF X n]).Ob _ _
  have hrun:=hrun X W n m a.off.den b.off.den n2 m2
  generalize qca qfl 20000 f [.slice ⟨1,.sym b.off.den⟩ (.lit 176) (.sym m2),.slice ⟨2,.sym a.off.den⟩ (.lit 16) (.sym m)] [tabR,rowF W n2,rowF X n]=t at hrun ⊢
  have hout:Ifc.out ⟨[0,b.nm,a.nm],[tabR,rowF W n2,rowF X n],[.slice ⟨1,.sym b.off.den⟩ (.lit 176) (.sym m2),.slice ⟨2,.sym a.off.den⟩ (.lit 16) (.sym m)]⟩ base [j] j=base:=by
    unfold Ifc.out
    have hk:Ifc.known ⟨[0,b.nm,a.nm],[tabR,rowF W n2,rowF X n],[.slice ⟨1,.sym b.off.den⟩ (.lit 176) (.sym m2),.slice ⟨2,.sym a.off.den⟩ (.lit 16) (.sym m)]⟩ j=false:=by
      cases hx:Ifc.known ⟨[0,b.nm,a.nm],[tabR,rowF W n2,rowF X n],[.slice ⟨1,.sym b.off.den⟩ (.lit 176) (.sym m2),.slice ⟨2,.sym a.off.den⟩ (.lit 16) (.sym m)]⟩ j with
      | false=>rfl
      | true=>have:=(Ifc.known_iff _ _).1 hx; simp at this; omega
    rw [hk,boolC_false]
    show base+boolC (Nat.beq j j) 0 _=base
    rw [Nat.beq_refl]; rfl
  refine q9g hrun (hps X W n a.off.den b.off.den n2 hn) fun H2 hH2=>⟨SV.imp_of_eq ?_,?_,trivial,⟨q4f (List.cons.inj hH2).1,trivial⟩⟩
  · show SV.slice ⟨Ifc.out _ base [j] j,.lit 0⟩ (.lit 16) (.lit 16)=.slice ⟨base,.lit 0⟩ (.lit 16) (.lit 16)
    rw [hout]
  · show (Ifc.seen _ [j] j && true)=true
    unfold Ifc.seen
    have:memN j [j]=true:=memN_iff.2 (by simp)
    rw [this]
    cases Ifc.known _ j <;> rfl
theorem j6r:SumAt Tryz.prog qog 93 (qtl encL):=by
  refine qm2 (j:=32) (by omega) (ps:=fun X W n o o2 n2=>app [IsB (qda X),IsB (qda W),o+16≤n∧o2+176≤n2] (app (repL [0+16≤16,IsB (qda W),0+16≤16∧o2+176≤n2] 9) [IsB (qda W),0+16≤16∧o2+176≤n2])) (fun X W n o o2 n2 h => ?_) fun X W n m o o2 n2 m2 => ?_
  · have hW:=qea W
    have h2:0+16≤16∧o2+176≤n2:=⟨by omega,h.2⟩
    exact qbo (all_cons (qea X) (all_cons hW (all_cons h qba))) (qbo (q9t (all_cons (by omega) (all_cons hW (all_cons h2 qba))) 9) (all_cons hW (all_cons h2 qba)))
  · rw [← jin]; exact jag X W n m o o2 n2 m2
theorem jwc:SumAt Tryz.prog qog 66 (qtl decL):=by
  refine qm2 (j:=33) (by omega) (ps:=fun X W n o o2 n2=>app [IsB (qda X),IsB (qda W),o+16≤n∧o2+176≤n2] (app (repL [IsB (qda W),0+16≤16∧o2+176≤n2,0+16≤16] 9) [IsB (qda W),0+16≤16∧o2+176≤n2])) (fun X W n o o2 n2 h => ?_) fun X W n m o o2 n2 m2 => ?_
  · have hW:=qea W
    have h2:0+16≤16∧o2+176≤n2:=⟨by omega,h.2⟩
    exact qbo (all_cons (qea X) (all_cons hW (all_cons h qba))) (qbo (q9t (all_cons hW (all_cons h2 (all_cons (by omega) qba))) 9) (all_cons hW (all_cons h2 qba)))
  · rw [← jjn]; exact jbg X W n m o o2 n2 m2
end Go.Proofs.YtbmgahpjgefjaaaGreatDoor.Aes
namespace Go.Proofs.YtbmgahpjgefjaaaGreatDoor.Aes
open Go.Sim
open Go.Proofs
variable {α:Type}
noncomputable def quf (X:Nat→BitVec 8) (o n:Nat):List (BitVec 8):=mapN (fun i=>X (o+i)) (q5a n 0)
theorem q5f:∀ n k:Nat,q5a n k=List.range' k n:=by
  intro n
  induction n with
  | zero=>intro k; rfl
  | succ n ih=>intro k; show k::q5a n (k+1)=_; rw [ih]; rfl
theorem qjm (X:Nat→BitVec 8) (o n:Nat):(quf X o n).length=n:=by
  unfold quf
  rw [qwa,q5f]; simp
theorem qhq (X:Nat→BitVec 8) (o n i:Nat) (h:i<n):(quf X o n)[i]? = some (X (o+i)):=by
  unfold quf
  rw [qwa,q5f,List.getElem?_map,List.getElem?_range' h]; simp
theorem qn2 {γ:Val}:∀ xs:List (BitVec 8),SV.denL γ (bx xs)=some (xs.map fun x=>Value.int .u8 (x.toNat:Int))
  | []=>rfl
  | _::xs=>denL_cons.2 ⟨_,_,rfl,qn2 xs,rfl⟩
theorem q6v (X:Nat→BitVec 8) (o n:Nat):(Cells.fn (fun i=>qda X (o+i)) n).Imp (.lst (bx (quf X o n))):=by
  intro γ vs h
  obtain ⟨h1,h2⟩:=h
  show SV.denL γ (bx (quf X o n))=some vs
  rw [qn2]
  congr 1
  apply List.ext_getElem?
  intro i
  rw [List.getElem?_map]
  by_cases hi:i<n
  · rw [qhq X o n i hi]
    have hv:vs[i]? = some vs[i]:=List.getElem?_eq_getElem (by omega)
    have:=h2 i _ hv
    rw [hv]; exact this
  · rw [List.getElem?_eq_none (by rw [qjm]; omega),List.getElem?_eq_none (by omega)]; rfl
theorem jxc (X:Nat→BitVec 8) (o n k m:Nat):outO [2] (qca cfg0 6000 47 [.slice ⟨0,.sym o⟩ (.sym k) (.sym m)] [rowF X n]) [false] =
    ([o+k≤n,decide (k=0)=false,q3e k 1∧1=1],some (.slice ⟨2,.lit 0⟩ (.sym k) (.rest 2 0),[some (.own (.fn (fun i=>qda X (o+i)) k) false 5)])):=by kernel_rfl
theorem ql8 (X:Nat→BitVec 8) (o n k m:Nat):outO [1] (qca cfg0 6000 47 [.slice ⟨0,.sym o⟩ (.sym k) (.sym m)] [rowF X n]) [true] =
    ([o+k≤n,decide (k=0)=true,1=1],some (.slice ⟨1,.lit 0⟩ (.lit 0) (.lit 0),[some (.own (.lst []) true 5)])):=by kernel_rfl
theorem jyc:outP [] (qca cfg0 6000 47 [.nilSlice] [])=([],some (.nilSlice,[])):=by kernel_rfl
noncomputable def qo2 (n o base k:Nat):R SumRes:=.need (o+k≤n) (.ok ⟨.slice ⟨base,.lit 0⟩ (.lit 0) (.lit 0),[],[.own (.lst []) true 5]⟩)
noncomputable def j7r (X:Nat→BitVec 8) (n o base k:Nat):R SumRes:=boolC (Nat.beq k 0) (qo2 n o base k) (boolC (Nat.blt k 70368744177664) (.need (o+k≤n) (.ok ⟨.slice ⟨base,.lit 0⟩ (.lit k) (.rest base 0),[],[.own (.lst (bx (quf X o k))) false 5]⟩)) (.stuck 760))
noncomputable def j8r (X:Nat→BitVec 8) (n o base k:Nat):R SumRes:=.fork (decide (k=0)) (qo2 n o base k) (.need (o+k≤n∧q3e k 1) (.ok ⟨.slice ⟨base,.lit 0⟩ (.sym k) (.rest base 0),[],[.own (.fn (fun i=>qda X (o+i)) k) false 5]⟩))
noncomputable def qmr:Summ:=fun args H base=>qfd args fun v=>qob v (.ok ⟨.nilSlice,[],[]⟩) fun a l=>q3b (nth H a.nm) fun X n =>
  SN.rec (motive:=fun _=>R SumRes) (fun k=>j7r X n a.off.den base k) (fun k=>j8r X n a.off.den base k) (fun _ _=>.stuck 761) l
theorem qks:q2a Tryz.prog 47 qmr:=by
  intro glob O w0 β H w base args vs hH hG ha
  refine qtb fun v hv=>qxa (fun hn => ?_) fun a l cc hs=>q3a fun X n ht => ?_
  · rw [hv,hn] at ha
    exact qcg q3c rfl 6000 hH ⟨[],[],[.nilSlice]⟩ ha (qgd rfl) [] (by simp) (by simp) jyc (by simp) fun H2 _=>qkb rfl rfl rfl
  · rw [hv,hs] at ha
    rw [qga] at ht
    obtain ⟨y,zs,hy,hz,rfl⟩:=denL_cons.1 ha
    obtain ⟨m,hlm,hd,_,_⟩:=q8a hy
    have key:∀ (k:Nat) (r:SumRes),l.den=k→k≠0→a.off.den+k≤n→q3e k 1→r.sets=[]→((SV.slice ⟨base,.lit 0⟩ (.sym k) (.rest base 0)).Imp r.v) →
        (∃ c,(Cells.fn (fun i=>qda X (a.off.den+i)) k).Imp c∧r.news=[.own c false 5])→q4a Tryz.prog H β w base 47 (y::zs) r:=by
      intro k r hk hk0 hle hro hsets hval hnews
      obtain ⟨c,hc,hnews⟩:=hnews
      rw [hk] at hd
      refine qvb q3c rfl 6000 hH ⟨[a.nm],[rowF X n],[.slice ⟨0,.sym a.off.den⟩ (.sym k) (.sym m)]⟩ (denL_cons.2 ⟨_,_,hd,hz,rfl⟩) (Ifc.fits (by simp) rfl ⟨⟨ht _,qya _ _ _⟩,trivial⟩) [2] (by simp) (by simp)
        (jxc X a.off.den n k m) (all_cons hle (all_cons (decide_eq_false hk0) (all_cons ⟨hro,rfl⟩ qba))) fun H2 hH2=>⟨hval,rfl,by rw [hsets]; trivial,?_⟩
      · rw [hnews]
        have hH2:H2[2]? = some (.own (.fn (fun i=>qda X (a.off.den+i)) k) false 5):=(List.cons.inj hH2).1
        exact ⟨quk hH2 (fun _=>rfl) hc,trivial⟩
    have key0:∀ k:Nat,l.den=k→k=0→(qo2 n a.off.den base k).Sat (q4a Tryz.prog H β w base 47 (y::zs)):=by
      intro k hk hk0 hle
      rw [hk] at hd
      exact qvb q3c rfl 6000 hH ⟨[a.nm],[rowF X n],[.slice ⟨0,.sym a.off.den⟩ (.sym k) (.sym m)]⟩ (denL_cons.2 ⟨_,_,hd,hz,rfl⟩) (Ifc.fits (by simp) rfl ⟨⟨ht _,qya _ _ _⟩,trivial⟩) [1] (by simp) (by simp)
        (ql8 X a.off.den n k m) (all_cons hle (all_cons (decide_eq_true hk0) (all_cons rfl qba))) fun H2 hH2=>⟨.refl _,rfl,trivial,⟨qbc (List.cons.inj hH2).1 rfl rfl,trivial⟩⟩
    cases l with
    | lit k =>
      refine qla (fun h0=>key0 k rfl (qna h0)) fun h0=>qfa fun hlt=>fun hle=>key k _ rfl (qmb h0) hle ⟨?_,qmf hlt⟩ rfl (.refl _) ⟨_,q6v X _ k,rfl⟩
      have:=qmf hlt; omega
    | sym k=>exact ⟨fun h0=>key0 k rfl (of_decide_eq_true h0),fun h0=>fun h=>key k _ rfl (of_decide_eq_false h0) h.1 h.2 rfl (.refl _) ⟨_,.refl _,rfl⟩⟩
    | byt=>trivial
end Go.Proofs.YtbmgahpjgefjaaaGreatDoor.Aes
namespace Go.Proofs.YtbmgahpjgefjaaaGreatDoor.Aes
open Go.Sim
open Go.Proofs
variable {α:Type}
noncomputable def jyk:Cfg:=qie (qbb [(47,qmr)])
theorem jln:CfgOK jyk:=q8b (all1 qks)
theorem jcg (X Y:Nat→BitVec 8) (n m o o2 n2 m2:Nat):outP [2] (qca jyk 20000 122 [.slice ⟨0,.sym o⟩ (.lit 16) (.sym m),.slice ⟨1,.sym o2⟩ (.lit 16) (.sym m2)] [rowF X n,rowF Y n2]) =
    (IsB (qda X)::(o+16≤n)::qmp (fun i=>o2+i<n2) 16,some (.slice ⟨2,.lit 0⟩ (.lit 16) (.rest 2 0),[some (.own (.lst (bx (addL (qha X o) (qha Y o2)))) false 5)])):=by kernel_rfl
noncomputable def jzk:Summ:=fun args H base=>qcd args fun v u=>qob v (.stuck 800) fun a l=>qob u (.stuck 800) fun b l2=>qnd l 16 (qnd l2 16 (boolC (Nat.beq a.nm b.nm) (.stuck 801) (q3b (nth H a.nm) fun X n=>q3b (nth H b.nm) fun Y n2=>.need (a.off.den+16≤n∧b.off.den+16≤n2)
  (.ok ⟨.slice ⟨base,.lit 0⟩ (.lit 16) (.rest base 0),[],[.own (.lst (bx (addL (qha X a.off.den) (qha Y b.off.den)))) false 5]⟩))) (.stuck 802)) (.stuck 802)
theorem qp2 {p:Nat→Bool} {g:Nat→Nat} {E:Option SO} {xs:List (BitVec 8)} {w:Bool} {el:TypeId} (h:E=some (.own (.lst (bx xs)) w el)):q4d p g E (.own (.lst (bx xs)) w el):=by
  refine qbc h (qed _ _) ?_
  show SO.own (.lst (SV.renL _ (bx _))) w el=_
  rw [q7d]
theorem j9r:q2a Tryz.prog 122 jzk:=by
  intro glob O w0 β H w base args vs hH hG ha
  refine qnb fun v u hv=>qxa (fun _=>trivial) fun a l c1 hs1=>qxa (fun _=>trivial) fun b l2 c2 hs2=>qwb (fun hl=>qwb (fun hl2=>qla (fun _=>trivial) fun hab=>q3a fun X n ht=>q3a fun Y n2 ht2=>fun hn => ?_) fun _=>trivial) fun _=>trivial
  rw [hv,hs1,hs2] at ha
  rw [qga] at ht ht2
  obtain ⟨x,ys,hx,hys,rfl⟩:=denL_cons.1 ha
  obtain ⟨y,zs,hy,hz,rfl⟩:=denL_cons.1 hys
  obtain ⟨m,_,hd,_,_⟩:=q8a hx
  obtain ⟨m2,_,hd2,_,_⟩:=q8a hy
  rw [hl] at hd
  rw [hl2] at hd2
  exact qcg jln rfl 20000 hH ⟨[a.nm,b.nm],[rowF X n,rowF Y n2],[.slice ⟨0,.sym a.off.den⟩ (.lit 16) (.sym m),.slice ⟨1,.sym b.off.den⟩ (.lit 16) (.sym m2)]⟩
    (denL_cons.2 ⟨_,_,hd,denL_cons.2 ⟨_,_,hd2,hz,rfl⟩,rfl⟩) (Ifc.fits (by simpa using qmb hab) rfl ⟨⟨ht _,qya _ _ _⟩,⟨ht2 _,qya _ _ _⟩,trivial⟩) [2] (by simp) (by simp)
    (jcg X Y n m a.off.den b.off.den n2 m2) (all_cons (qea X) (all_cons hn.1 (qkr fun i hi=>by omega))) fun H2 hH2=>⟨SV.imp_of_eq rfl,rfl,trivial,⟨qp2 (List.cons.inj hH2).1,trivial⟩⟩
end Go.Proofs.YtbmgahpjgefjaaaGreatDoor.Aes
namespace Go.Proofs.YtbmgahpjgefjaaaGreatDoor.Aes
open Go.Sim
open Go.Proofs
variable {α:Type}
noncomputable def j0k (z:Nat→Nat):Nat→BitVec 8:=fun i=>BitVec.ofNat 8 (z i)
theorem qkt:∀ (n t:Nat) (acc:Array Value),(Extern.BytealgMakeNoZero.digits n t acc).toList=acc.toList++(List.range n).map fun i=>Value.int .u8 (Int.ofNat (t / 256 ^ i % 256))
  | 0,t,acc=>by simp [Extern.BytealgMakeNoZero.digits]
  | n+1,t,acc=>by
    rw [Extern.BytealgMakeNoZero.digits,qkt n,List.range_succ_eq_map]
    simp only [Array.toList_push,List.append_assoc,List.map_cons,List.map_map,Nat.pow_zero,Nat.div_one]
    congr 1
    show _::_=_::_
    congr 1
    apply List.map_congr_left
    intro i _
    show Value.int .u8 _=Value.int .u8 _
    rw [Nat.div_div_eq_div_mul,Nat.pow_succ,Nat.mul_comm]
theorem jmn {P:Program} (w:World) (ps:Array TypeId) (t e:TypeId) (ht:P.underlying t=some (.slice e)) (n:Nat) (hn:n≤281474976710656) :
    ∃ cap bytes,(Extern.BytealgMakeNoZero.makeNoZero ps #[t] #[.int .i64 n]).run P w=.ok (.slice (some ⟨w.heap.size,0,none⟩) n cap) (w.drew.drew.alloc (.cells (Extern.BytealgMakeNoZero.digits cap bytes #[]) e))∧n≤cap:=by
  have hdef:Extern.BytealgMakeNoZero.makeNoZero ps #[t] #[.int .i64 n] =
      (do
        let .slice elem ← underlying t | stuck "bytealg.MakeNoZero: slice type expected"
        if (n:Int)<0 || (n:Int) > 2 ^ 48 then runtimePanic (.error "makeslice: len out of range")
        let cap ← choose (.appendCap (n:Int).toNat 0 elem)
        askRoom cap
        let bytes ← choose (.extern "internal/bytealg.MakeNoZero.bytes" 0)
        let a ← newRow elem (Extern.BytealgMakeNoZero.digits cap bytes #[])
        pure (.slice (some a) (n:Int).toNat cap)):=rfl
  refine ⟨grownCap w n 0 e,(Question.extern "internal/bytealg.MakeNoZero.bytes" 0).cut (w.tape (w.drawn+1) (.extern "internal/bytealg.MakeNoZero.bytes" 0)),?_,?_⟩
  · rw [hdef]
    have h1:¬ (n:Int)<0:=by omega
    have h2:¬ (281474976710656:Int)<(n:Int):=by omega
    simp [qia ht,h1,h2,Question.forced,newRow,grownCap]
  · simpa using grownCap_ge w n 0 e
theorem jas {P:Program} {f:FuncId} {e:Array Value→Sem Value} (h1:(P.funcs[f]?).map (fun fn=>(fn.name == "runtime.NumGoroutine",fn.body.isNone))=some (false,true)) (h2:(P.funcs[f]?).map (fun fn=>(Extern.findNext fn).isNone)=some true) (h3:(P.funcs[f]?).map Extern.find=some (some e)) :
    ∃ fn,P.funcs[f]? = some fn∧(fn.name == "runtime.NumGoroutine")=false∧fn.body.isNone=true∧Extern.findNext fn=none∧Extern.find fn=some e:=by
  cases hf:P.funcs[f]? with
  | none=>rw [hf] at h1; cases h1
  | some fn =>
    rw [hf] at h1 h2 h3
    simp only [Option.map_some,Option.some.injEq,Prod.mk.injEq] at h1 h2 h3
    exact ⟨fn,rfl,h1.1,h1.2,by simpa using h2,h3⟩
theorem jdg:∃ fn,Tryz.prog.funcs[145]? = some fn∧(fn.name == "runtime.NumGoroutine")=false∧fn.body.isNone=true∧Extern.findNext fn=none∧Extern.find fn=some (Extern.BytealgMakeNoZero.makeNoZero #[3] #[22]):=jas (by kernel_rfl) (by kernel_rfl) (by kernel_rfl)
noncomputable def mnzS:Summ:=fun args _ base=>qfd args fun v=>optC (litI v) (.stuck 780) fun n=>boolC (Nat.ble n 16777216) (.any fun z=>.ok ⟨.slice ⟨base,.lit 0⟩ (.lit n) (.rest base 0),[],[.own (.lst (bx (quf (j0k z) 0 n))) false 5]⟩) (.stuck 781)
theorem qu4:Tryz.prog.underlying 22=some (.slice 5):=by kernel_rfl
theorem jzc:(Tryz.prog.info? 5).map (·.size)=some 1:=by kernel_rfl
set_option maxRecDepth 100000 in
theorem mnzOK:q2a Tryz.prog 145 mnzS:=by
  intro glob O w0 β H w base args vs hH hG ha
  refine qtb fun v hv=>qja fun n hn=>qfa fun hle => ?_
  rw [hv,qif hn] at ha
  cases ha
  have hle:n≤16777216:=Nat.le_of_ble_eq_true hle
  obtain ⟨fn,h1,h2,h3,h4,h5⟩:=jdg
  obtain ⟨cap,bytes,hrun,hcap⟩:=jmn (P:=Tryz.prog) w #[3] 22 5 qu4 n (by omega)
  refine ⟨fun i=>bytes / 256 ^ i % 256,?_⟩
  intro hfree
  have hb:β base=none:=hfree 0 (by simp)
  refine ⟨by simp,.inr ?_⟩
  let vs:List Value:=(List.range n).map fun i=>Value.int .u8 (Int.ofNat (bytes / 256 ^ i % 256))
  let rest:List Value:=(List.range' n (cap - n)).map fun i=>Value.int .u8 (Int.ofNat (bytes / 256 ^ i % 256))
  have qec:Extern.BytealgMakeNoZero.digits cap bytes #[]=(vs++rest).toArray:=by
    apply Array.ext'
    rw [qkt]
    show _=(vs++rest)
    simp only [vs,rest]
    rw [← List.map_append,List.range_eq_range',List.range_eq_range']
    have:List.range' 0 cap=List.range' 0 n++List.range' n (cap - n):=by
      have:=(List.range'_append (s:=0) (m:=n) (n:=cap - n) (step:=1)).symm
      rw [show n+(cap - n)=cap from by omega] at this
      simpa using this
    rw [this]; rfl
  have hE:=Eff.alloc (P:=Tryz.prog) (β:=β) (w:=w) (w':=w.drew.drew.alloc (.cells (Extern.BytealgMakeNoZero.digits cap bytes #[]) 5)) (base:=base) (c:=.lst (bx (quf (j0k fun i=>bytes / 256 ^ i % 256) 0 n))) (whole:=false) (elem:=5) (vs:=vs) (rest:=rest) (lo:=0) (hi:=0) (cap:=cap) hb
    (by rw [← qec]; rfl) rfl rfl rfl ?_ (.inl rfl) (by simp) ?_
  · refine ⟨.slice (some ⟨w.heap.size,0,none⟩) n cap,_,_,?_,?_,hE⟩
    · rw [run_callFunc_extern h1 h2 h3 h4 h5]
      show ((Extern.BytealgMakeNoZero.makeNoZero #[3] #[22] #[.int .i64 n]).run Tryz.prog w).andThen _=_
      rw [hrun]; rfl
    · simp [SV.den,SA.den,SC.den,SN.den,Val.upd,q2l,hcap]
  · show SV.denL β (bx _)=some vs
    rw [qn2]
    congr 1
    apply List.ext_getElem?
    intro i
    rw [List.getElem?_map]
    by_cases hi:i<n
    · rw [qhq _ _ _ _ hi]
      simp only [vs,List.getElem?_map,List.getElem?_range hi,Option.map_some]
      congr 1
      show Value.int .u8 (((BitVec.ofNat 8 (bytes / 256 ^ (0+i) % 256)).toNat:Nat):Int)=_
      rw [BitVec.toNat_ofNat,Nat.zero_add,Nat.mod_mod_of_dvd _ (by decide)]
      rfl
    · rw [List.getElem?_eq_none (by rw [qjm]; omega),List.getElem?_eq_none (by simp [vs]; omega)]; rfl
  · intro i hi
    have:=jzc
    rw [hi] at this
    have h1:i.size=1:=Option.some.inj this
    rw [h1]
    simp [vs,rest]; omega
end Go.Proofs.YtbmgahpjgefjaaaGreatDoor.Aes
namespace Go.Proofs.YtbmgahpjgefjaaaGreatDoor.Aes
open Go.Sim
open Go.Proofs
variable {α:Type}
noncomputable def qnp (T:List Int) (e:Option SO):Bool:=optC (ownE 209 e) false fun l=>boolC (qth T l) (qis (qxb l (lenN T))) false
theorem qiq {T:List Int} {e:Option SO} (h:qnp T e=true):e=some (.own (.lst (app (lx T) [.bool (.lit true)])) true 209):=by
  unfold qnp at h
  cases hl:ownE 209 e with
  | none=>rw [hl] at h; cases h
  | some l =>
    rw [hl] at h
    have h:boolC (qth T l) (qis (qxb l (lenN T))) false=true:=h
    cases h1:qth T l with
    | false=>rw [h1] at h; cases h
    | true =>
      rw [h1] at h
      have h1:=qmi h1
      rw [qir h] at h1
      rw [qgr hl,h1]
noncomputable def fillS:Summ:=fun args H _=>qfd args fun c=>optC (q7f c) (.stuck 660) fun p=>boolC (qnp (qhm 688) (nth H p)) (.ok ⟨.tuple [],[(p,qeg)],[]⟩) (.stuck 661)
theorem qyx (f:Nat→Nat) (T:List Int):SV.renL f (app (lx T) [.bool (.lit true)])=app (lx T) [.bool (.lit true)]:=by rw [qnf,qvk]; rfl
theorem qau (p:Nat→Bool) (T:List Int):SV.usesL p (app (lx T) [.bool (.lit true)])=true:=by rw [qze,q1i]; rfl
theorem qxk:qeg=.own (.lst (app (lx (app tabI (qhm 176))) [.bool (.lit true)])) true 209:=by
  have:app (lx tabI) (app (lx (qhm 176)) [SV.bool (.lit true)])=app (lx (app tabI (qhm 176))) [.bool (.lit true)]:=by kernel_rfl
  unfold qeg
  rw [this]
theorem jbs:q2a Tryz.prog 163 fillS:=by
  intro glob O w0 β H w base args vs hH hG ha
  refine qtb fun c hv=>qja fun p h1=>qfa fun hp => ?_
  rw [hv,q1c h1] at ha
  rw [qga] at hp
  refine qse q3c rfl 20000 hH ⟨[p],[q3v],[.ptr ⟨0,.lit 0⟩]⟩ ha (Ifc.fits (by simp) rfl ⟨⟨⟨_,qiq hp,qtf (by rw [qyx]; exact .refl _)⟩,qau _ _⟩,trivial⟩) [] (by simp) (by simp) ?_
  show (qca cfg0 20000 163 [.ptr ⟨0,.lit 0⟩] [q3v]).Ob _ _
  have hr:=j4f
  generalize qca cfg0 20000 163 [.ptr ⟨0,.lit 0⟩] [q3v]=t at hr ⊢
  refine qkp hr ?_
  intro H2 hH2
  refine ⟨SV.Imp.refl _,rfl,?_,trivial⟩
  show SetsOK _ _ _ _ [0] _
  have hH2:H2[0]? = some qeg:=(List.cons.inj hH2).1
  rw [qxk] at hH2
  refine ⟨⟨rfl,?_⟩,trivial⟩
  show q4d _ _ _ qeg
  refine qbc hH2 (qau _ _) ?_
  rw [qxk]
  show SO.own (.lst (SV.renL _ _)) true _=_
  rw [qyx]
noncomputable def qs5:Summ:=fun args H _=>qcd args fun c v=>optC (q7f c) (.stuck 662) fun p=>qob v (.stuck 663) fun a l=>boolC (qnp (app tabI (qhm 176)) (nth H p)) (boolC (Nat.beq p a.nm) (.stuck 664)
  (qnd l 16 (q3b (nth H a.nm) fun X n=>.need (a.off.den+16≤n) (.ok ⟨.tuple [],[(p,qao (q5e (qha X a.off.den)))],[]⟩)) (.stuck 665))) (.stuck 666)
theorem jeg:q2a Tryz.prog 164 qs5:=by
  intro glob O w0 β H w base args vs hH hG ha
  refine qnb fun c v hv=>qja fun p h1=>qxa (fun _=>trivial) fun a l cc hs=>qfa fun hp=>qla (fun _=>trivial) fun hpa=>qwb (fun hl=>q3a fun X n ht=>fun hn => ?_) fun _=>trivial
  rw [hv,q1c h1,hs] at ha
  rw [qga] at hp ht
  obtain ⟨x,ys,hx,hys,rfl⟩:=denL_cons.1 ha
  obtain ⟨y,zs,hy,hz,rfl⟩:=denL_cons.1 hys
  obtain ⟨m,hlm,hd,_,_⟩:=q8a hy
  rw [hl] at hd
  refine qse j1r rfl 20000 hH ⟨[p,a.nm],[qeg,rowF X n],[.ptr ⟨0,.lit 0⟩,.slice ⟨1,.sym a.off.den⟩ (.lit 16) (.sym m)]⟩ (denL_cons.2 ⟨_,_,hx,denL_cons.2 ⟨_,_,hd,hz,rfl⟩,rfl⟩)
    (Ifc.fits (by simpa using qmb hpa) rfl ⟨⟨⟨_,qiq hp,?_⟩,?_⟩,⟨ht _,qya _ _ _⟩,trivial⟩) [] (by simp) (by simp) ?_
  · rw [qxk]; exact qtf (by rw [qyx]; exact .refl _)
  · rw [qxk]; exact qau _ _
  · show (qca cfg6 20000 164 [.ptr ⟨0,.lit 0⟩,.slice ⟨1,.sym a.off.den⟩ (.lit 16) (.sym m)] [qeg,rowF X n]).Ob _ _
    have hr:=qd8 X a.off.den n m
    generalize qca cfg6 20000 164 [.ptr ⟨0,.lit 0⟩,.slice ⟨1,.sym a.off.den⟩ (.lit 16) (.sym m)] [qeg,rowF X n]=t at hr ⊢
    refine q9g hr ?_ ?_
    · intro q hq
      simp only [List.mem_cons,List.not_mem_nil,or_false] at hq
      rcases hq with rfl | rfl | rfl | rfl | rfl | rfl | rfl | rfl <;> omega
    · intro H2 hH2
      refine ⟨SV.Imp.refl _,rfl,?_,trivial⟩
      show SetsOK _ _ _ _ (q7b [qeg,rowF X n] 0) _
      rw [qxk]
      have hH2:H2[0]? = some (qao (q5e (qha X a.off.den))):=(List.cons.inj hH2).1
      refine ⟨⟨rfl,qbc hH2 (quh _ _) ?_⟩,trivial⟩
      show SO.own (.lst (SV.renL _ (qyc _))) true _=_
      rw [qln]; rfl
noncomputable def cfg7:Cfg:=qie (qbb [(163,fillS),(164,qs5)])
theorem q7v:CfgOK cfg7:=q8b (allC jbs (all1 jeg))
theorem jnn (X:Nat→BitVec 8) (o n m:Nat):outP [1] (qca cfg7 6000 140 [.slice ⟨0,.sym o⟩ (.lit 16) (.sym m)] [rowF X n]) =
    ([IsB (qda X),o+16≤n],some (.tuple [.ptr ⟨1,.lit 0⟩,.int .i64 (.lit (.ofNat 0))],[some (qao (q5e (qha X o)))])):=by kernel_rfl
theorem jon (o m k:Nat):outF [] (qca cfg7 6000 140 [.slice ⟨0,.sym o⟩ (.sym k) (.sym m)] [.gone])=some (((k:Int) != 16),([],some (.tuple [.nilPtr,.int .i64 (.lit (.ofNat 2))],[])),([],none)):=by kernel_rfl
theorem jfg:outP [] (qca cfg7 6000 140 [.nilSlice] [])=([],some (.tuple [.nilPtr,.int .i64 (.lit (.ofNat 2))],[])):=by kernel_rfl
noncomputable def anewR (H:List SO) (base:Nat) (a:SA):R SumRes :=
  q3b (nth H a.nm) fun X n=>.need (a.off.den+16≤n) (.ok ⟨.tuple [.ptr ⟨base,.lit 0⟩,.int .i64 (.lit (.ofNat 0))],[],[qao (q5e (qha X a.off.den))]⟩)
noncomputable def j1k:Summ:=fun args H base=>qfd args fun v=>valS v (qob v (errR .nilPtr 2) fun a l=>qnd l 16 (anewR H base a) (boolC (qqc (nth H a.nm)) (errR .nilPtr 2) (.stuck 671))) fun n=>.need (n≠16) (errR .nilPtr 2)
theorem jpn (p:Option Addr) (k c:Nat):outO [] (qca cfg7 6000 140 [.val (.slice p k c)] []) [true]=([((k:Int) != 16)=true],some (.tuple [.nilPtr,.int .i64 (.lit (.ofNat 2))],[])):=by kernel_rfl
theorem jcs:q2a Tryz.prog 140 j1k:=by
  intro glob O w0 β H w base args vs hH hG ha
  refine qtb fun v hv=>qlp (qxa (fun hn => ?_) fun a l cc hs => ?_) fun p n c hs=>fun hn => ?_
  rotate_left 2
  · rw [hv,hs] at ha
    exact qvb q7v rfl 6000 hH ⟨[],[],[.val (.slice p n c)]⟩ ha (qgd rfl) [] (by simp) (by simp) (jpn p n c) (all_cons (by rw [bne_iff_ne]; omega) qba) fun _ _=>qkb rfl rfl rfl
  · rw [hv,hn] at ha
    exact qcg q7v rfl 6000 hH ⟨[],[],[.nilSlice]⟩ ha (qgd rfl) [] (by simp) (by simp)
      jfg (by simp) fun H2 _=>qkb rfl rfl rfl
  · rw [hv,hs] at ha
    obtain ⟨y,zs,hy,hz,rfl⟩:=denL_cons.1 ha
    obtain ⟨m,hlm,hd,hd2,_⟩:=q8a hy
    refine qwb (fun hl => ?_) fun hl => ?_
    · refine q3a fun X n ht=>fun hn => ?_
      rw [qga] at ht
      rw [hl] at hd
      refine qse q7v rfl 6000 hH ⟨[a.nm],[rowF X n],[.slice ⟨0,.sym a.off.den⟩ (.lit 16) (.sym m)]⟩ (denL_cons.2 ⟨_,_,hd,hz,rfl⟩) (Ifc.fits (by simp) rfl ⟨⟨ht _,qya _ _ _⟩,trivial⟩) [1] (by simp) (by simp) ?_
      show (qca cfg7 6000 140 [.slice ⟨0,.sym a.off.den⟩ (.lit 16) (.sym m)] [rowF X n]).Ob _ _
      have hr:=jnn X a.off.den n m
      generalize qca cfg7 6000 140 [.slice ⟨0,.sym a.off.den⟩ (.lit 16) (.sym m)] [rowF X n]=t at hr ⊢
      refine q9g hr ?_ ?_
      · intro q hq
        simp only [List.mem_cons,List.not_mem_nil,or_false] at hq
        rcases hq with rfl | rfl
        · exact qea X
        · exact hn
      · intro H2 hH2
        have hH2:H2[1]? = some (qao (q5e (qha X a.off.den))):=(List.cons.inj hH2).1
        refine ⟨SV.imp_of_eq rfl,rfl,trivial,⟨qbc hH2 (quh _ _) ?_,trivial⟩⟩
        show SO.own (.lst (SV.renL _ (qyc _))) true _=_
        rw [qln]; rfl
    · refine qfa fun hpl => ?_
      rw [qga] at hpl
      refine q8t q7v rfl 6000 hH ⟨[a.nm],[.gone],[.slice ⟨0,.sym a.off.den⟩ (.sym l.den) (.sym m)]⟩ (denL_cons.2 ⟨_,_,hd,hz,rfl⟩) (Ifc.fits (by simp) rfl ⟨⟨qve hpl,trivial⟩,trivial⟩) [] (by simp) (by simp)
        (jon a.off.den m l.den) (fun _ t' ht'=>qkp ht' fun H2 _=>qkb rfl rfl rfl) fun hb => ?_
      exfalso; apply hl
      have:((l.den:Int) == 16)=true:=by simpa [bne] using hb
      have:(l.den:Int)=16:=by simpa using this
      omega
end Go.Proofs.YtbmgahpjgefjaaaGreatDoor.Aes
