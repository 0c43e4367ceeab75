/-
  The reference's functions of a key, an IV and a string: summaries from runs, for each number of bytes.
-/
import Derived.Test.YtcpafideogckmaaGreatDoorCzTxt1
namespace Go.Proofs.YtcpafideogckmaaGreatDoor.Aes
noncomputable section
open Go.Sim
open Go.Proofs
open Go.RowKit
variable {α:Type}
set_option maxRecDepth 1000000
def capR (b:Bool) (nm l:Nat):SC:=boolC b (.lit l) (.rest nm 0)
def q4k (m1 m2 m3 o o2 o3 l:Nat):List SV:=[.slice ⟨1,.sym o⟩ (.lit 16) (.sym m1),.slice ⟨2,.sym o2⟩ (.lit 16) (.sym m2),.slice ⟨3,.sym o3⟩ (.lit l) (.sym m3)]
def q5k (X Y Z:Nat->BitVec 8) (n n2 n3:Nat):List SO:=[tabR,rowF X n,rowF Y n2,rowF Z n3]
def RunR (c:Cfg) (f:FuncId) (F:Blk->Blk->(Nat->BitVec 8)->Nat->Blk) (ok cp:Nat->Bool):Prop:=∀ (X Y Z:Nat->BitVec 8) (n m1 n2 m2 n3 m3 o o2 o3 l:Nat),ok l=true->o+16<=n->o2+16<=n2->o3+l<=n3->l<=m3 ->
 ∃ (nm:Nat) (ps:List Prop),4<=nm/\outO [nm] (qca c 20000 f (q4k m1 m2 m3 o o2 o3 l) (q5k X Y Z n n2 n3)) []=(ps,some (.slice ⟨nm,.lit 0⟩ (.lit l) (capR (cp l) nm l),[some (.own (.lst (bx (F (qha X o) (qha Y o2) (fun j=>Z (o3+j)) l))) (cp l) 5)]))/\∀ p∈ps,p
def NilR (c:Cfg) (f:FuncId):Prop:=∀ (X Y:Nat->BitVec 8) (n m1 n2 m2 o o2:Nat),outO [] (qca c 20000 f [.slice ⟨1,.sym o⟩ (.lit 16) (.sym m1),.slice ⟨2,.sym o2⟩ (.lit 16) (.sym m2),.nilSlice] [tabR,rowF X n,rowF Y n2]) []=([IsB (qea X),o+16<=n],some (.nilSlice,[]))
def jvl (F:Blk->Blk->(Nat->BitVec 8)->Nat->Blk) (ok cp:Nat->Bool) (nl:Bool):Summ:=fun args H base=>qoc args fun k v p=>qob k (.stuck 910) fun a l1=>qob v (.stuck 910) fun b l2=>qv0 H
 (boolC (Nat.beq 0 a.nm) (.stuck 911) (boolC (Nat.beq 0 b.nm) (.stuck 911) (boolC (Nat.beq a.nm b.nm) (.stuck 911) (qod l1 16 (qod l2 16 (q4b (nth H a.nm) fun X n=>q4b (nth H b.nm) fun Y n2=>.need (a.off.den+16<=n/\b.off.den+16<=n2)
  (qob p (boolC nl (.ok ⟨.nilSlice,[],[]⟩) (.stuck 912)) fun c l=>boolC (Nat.beq 0 c.nm) (.stuck 911) (boolC (Nat.beq a.nm c.nm) (.stuck 911) (boolC (Nat.beq b.nm c.nm) (.stuck 911)
   (q4b (nth H c.nm) fun Z n3=>.need (c.off.den+l.den<=n3/\ok l.den=true) (.ok ⟨.slice ⟨base,.lit 0⟩ l (capR (cp l.den) base l.den),[],[.own (.lst (bx (F (qha X a.off.den) (qha Y b.off.den) (fun j=>Z (c.off.den+j)) l.den))) (cp l.den) 5]⟩)))))) (.stuck 913)) (.stuck 913)))))
theorem jst {c:Cfg} (hc:CfgOK c) (hg:c.glob=qvg) (hP:c.P=Tryz.prog) {f:FuncId} {F:Blk->Blk->(Nat->BitVec 8)->Nat->Blk} {ok cp:Nat->Bool} {nl:Bool} (hrun:RunR c f F ok cp) (hnil:nl=true->NilR c f):SumAt Tryz.prog qvg f (jvl F ok cp nl):=by
 intro O w0 β H w base args vs hH hG ha
 refine qcb fun k v p hv=>qxa (fun _=>trivial) fun a l1 c1 hs1=>qxa (fun _=>trivial) fun b l2 c2 hs2=>qur fun htab=>qna (fun _=>trivial) fun h0=>qna (fun _=>trivial) fun h1=>qna (fun _=>trivial) fun hab =>
  qxb (fun hl1=>qxb (fun hl2=>q5a fun X n t1=>q5a fun Y n2 t2=>fun hn => ?_) fun _=>trivial) fun _=>trivial
 rw [hv,hs1,hs2] at ha
 rw [qga] at t1 t2
 obtain ⟨x,ys,hx,hys,rfl⟩:=denL_cons.1 ha
 obtain ⟨y,zs,hy,hz,rfl⟩:=denL_cons.1 hys
 obtain ⟨u,us,hu,hus,rfl⟩:=denL_cons.1 hz
 obtain ⟨m1,_,hd1,_,_⟩:=q8a hx
 obtain ⟨m2,_,hd2,_,_⟩:=q8a hy
 rw [hl1] at hd1
 rw [hl2] at hd2
 refine qxa (fun hn3=>qna (fun hnl => ?_) fun _=>trivial) fun c0 l c3 hs3=>qna (fun _=>trivial) fun h2=>qna (fun _=>trivial) fun hac=>qna (fun _=>trivial) fun hbc=>q5a fun Z n3 t3=>fun hn3 => ?_
 . rw [hn3] at hu
   have hnd:[0,a.nm,b.nm].Nodup:=by
    simp only [List.nodup_cons,List.mem_cons,List.not_mem_nil,or_false,not_or,not_false_eq_true,List.nodup_nil,and_true]
    exact ⟨⟨qmb h0,qmb h1⟩,qmb hab⟩
   rw [← hP] at hH ⊢
   refine qsg hc 20000 hH ⟨[0,a.nm,b.nm],[tabR,rowF X n,rowF Y n2],[.slice ⟨1,.sym a.off.den⟩ (.lit 16) (.sym m1),.slice ⟨2,.sym b.off.den⟩ (.lit 16) (.sym m2),.nilSlice]⟩ (by rw [hg]; exact qws rfl rfl hG) (denL_cons.2 ⟨_,_,hd1,denL_cons.2 ⟨_,_,hd2,denL_cons.2 ⟨_,_,hu,hus,rfl⟩,rfl⟩,rfl⟩)
    (Ifc.fits hnd rfl ⟨⟨htab _,q3h _⟩,⟨t1 _,qya _ _ _⟩,⟨t2 _,qya _ _ _⟩,trivial⟩) [] (by simp) (by simp) (q9i (hnil hnl X Y n m1 n2 m2 a.off.den b.off.den) (all_cons (qda X) (all_cons hn.1 qaa)) fun H2 _=>qkb rfl rfl rfl)
 . rw [hs3] at hu
   rw [qga] at t3
   obtain ⟨m3,hlm3,hd3,hd3',_⟩:=q8a hu
   have hd4:(SV.slice ⟨c0.nm,.sym c0.off.den⟩ (.lit l.den) (.sym m3)).den β=some u:=by
    rw [qra] at hd3 ⊢
    exact hd3
   have hnd:[0,a.nm,b.nm,c0.nm].Nodup:=by
    simp only [List.nodup_cons,List.mem_cons,List.not_mem_nil,or_false,not_or,not_false_eq_true,List.nodup_nil,and_true]
    exact ⟨⟨qmb h0,qmb h1,qmb h2⟩,⟨qmb hab,qmb hac⟩,qmb hbc⟩
   obtain ⟨nm,ps,hnm,hr,hps⟩:=hrun X Y Z n m1 n2 m2 n3 m3 a.off.den b.off.den c0.off.den l.den hn3.2 hn.1 hn.2 hn3.1 hlm3
   rw [← hP] at hH ⊢
   refine qsg hc 20000 hH ⟨[0,a.nm,b.nm,c0.nm],q5k X Y Z n n2 n3,q4k m1 m2 m3 a.off.den b.off.den c0.off.den l.den⟩ (by rw [hg]; exact qws rfl rfl hG) (denL_cons.2 ⟨_,_,hd1,denL_cons.2 ⟨_,_,hd2,denL_cons.2 ⟨_,_,hd4,hus,rfl⟩,rfl⟩,rfl⟩)
    (Ifc.fits hnd rfl ⟨⟨htab _,q3h _⟩,⟨t1 _,qya _ _ _⟩,⟨t2 _,qya _ _ _⟩,⟨t3 _,qya _ _ _⟩,trivial⟩) [nm] (by simpa using hnm) (by simp) (q9i hr hps fun H2 hH2=>⟨?_,?_,trivial,⟨qbg (List.cons.inj hH2).1,trivial⟩⟩)
   . intro γ xv hxv
     have hon:=qcy (I:=⟨[0,a.nm,b.nm,c0.nm],q5k X Y Z n n2 n3,q4k m1 m2 m3 a.off.den b.off.den c0.off.den l.den⟩) (base:=base) (nm:=nm) (by simpa using hnm)
     have hcap:SC.ren (Ifc.out ⟨[0,a.nm,b.nm,c0.nm],q5k X Y Z n n2 n3,q4k m1 m2 m3 a.off.den b.off.den c0.off.den l.den⟩ base [nm]) (capR (cp l.den) nm l.den)=capR (cp l.den) base l.den:=by
      unfold capR
      cases cp l.den with
      | true=>rfl
      | false=>show SC.rest _ 0=_; rw [hon]; rfl
     simp only [SV.ren,SA.ren,hon,hcap] at hxv
     rw [qra] at hxv ⊢
     exact hxv
   . show (Ifc.seen _ [nm] nm && SC.uses _ (capR (cp l.den) nm l.den))=true
     rw [qnm]
     unfold capR
     cases cp l.den with
     | true=>rfl
     | false=>exact qnm
def qrw (K V:Blk) (P:Nat->BitVec 8) (l:Nat):Blk:=q3m (chainL (qba (q9e K)) (q6c P 0 (l / 16)) V)
def chOk (l:Nat):Bool:=decide (l % 16=0/\16<=l/\l<=224)
theorem q12 {o n o2 n2:Nat} {r:List Prop} (h:o+16<=n) (h2:o2+16<=n2) (hr:∀ p∈r,p):∀ p∈xorC o n o2 n2 r,p:=by
 have key:∀ k i,k+i=16->∀ p∈(Nat.rec (motive:=fun _=>Nat->List Prop) (fun _=>r) (fun _ ih i=>(o+i<n)::(o2+i<n2)::ih (i+1)) k i:List Prop),p:=by
  intro k
  induction k with
  | zero=>intro i _; exact hr
  | succ k ih=>intro i hi; exact all_cons (by omega) (all_cons (by omega) (ih (i+1) (by omega)))
 exact key 16 0 rfl
theorem j5g {o n:Nat} {r:Nat->List Prop} (h:o+16<=n) (hr:∀ p∈r 16,p):∀ p∈b16C o n r,p:=by
 have key:∀ k i,k+i=16->∀ p∈(Nat.rec (motive:=fun _=>Nat->List Prop) (fun _=>r 16) (fun _ ih i=>(o+i<n)::ih (i+1)) k i:List Prop),p:=by
  intro k
  induction k with
  | zero=>intro i _; exact hr
  | succ k ih=>intro i hi; exact all_cons (by omega) (ih (i+1) (by omega))
 exact key 16 0 rfl
theorem qjz {o3 n3:Nat}:∀ (m i:Nat),o3+16 * (i+m)<=n3->∀ p∈q08 o3 n3 m i,p
 | 0,_,_=>qaa
 | m+1,i,h=>by
   show ∀ p∈b16C (o3+16 * i) n3 (fun _=>(16<=16/\176<=176)::q08 o3 n3 m (i+1)),p
   exact j5g (by omega) (all_cons ⟨by omega,by omega⟩ (qjz m (i+1) (by omega)))
theorem qaf {β:Type} {f g:Nat->β} {k b:Nat} (h:mapN f (q6a k b)=mapN g (q6a k b)) {l:Nat} (h1:b<=l) (h2:l<b+k):f l=g l:=by
 rw [qwa,qwa,qez] at h
 have h3:∀ f:Nat->β,(List.map f (List.range' b k))[l - b]? = some (f l):=fun f=>by
  rw [List.getElem?_map,List.getElem?_range' (by omega)]
  simp only [Option.map_some]
  rw [show b+1 * (l - b)=l from by omega]
 have h4:=h3 f
 rw [h,h3 g] at h4
 exact (Option.some.inj h4).symm
theorem jtt (X Y Z:Nat->BitVec 8) (o o2 o3 m:Nat):chJ X Y Z o o2 o3 m=qrw (qha X o) (qha Y o2) (fun j=>Z (o3+j)) (16 * m):=by
 unfold chJ qrw
 rw [qiz,show 16 * m / 16=m from by omega]
 congr 2
 exact qbk fun j _=>by rw [Nat.zero_add]
theorem j6g:RunR qw0 35 qrw chOk fun _=>false:=by
 intro X Y Z n m1 n2 m2 n3 m3 o o2 o3 l hok h1 h2 h3 h4
 have hok:=of_decide_eq_true hok
 obtain ⟨m,rfl⟩:∃ m,l=16 * m:=⟨l / 16,by omega⟩
 have hr:=qaf (j4g X Y Z n m1 n2 m2 n3 m3 o o2 o3) (l:=m) (by omega) (by omega)
 refine ⟨4+3 * m,rchC X n o n2 o2 n3 o3 (m - 1),by omega,?_,?_⟩
 . rw [← jtt]
   exact hr
 . exact all_cons (qda X) (all_cons h1 (q12 (by omega) h2 (all_cons ⟨by omega,by omega⟩ (qjz (m - 1) 1 (by omega)))))
def q05:Summ:=jvl qrw chOk (fun _=>false) true
theorem j7g:SumAt Tryz.prog qvg 35 q05:=jst jdo rfl rfl j6g fun _=>jeo
end
end Go.Proofs.YtcpafideogckmaaGreatDoor.Aes
