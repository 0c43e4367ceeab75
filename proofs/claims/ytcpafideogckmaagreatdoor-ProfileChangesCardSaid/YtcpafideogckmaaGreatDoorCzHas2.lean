/-
  A hash in progress: the summary of a block.
-/
import Derived.Test.YtcpafideogckmaaGreatDoorCzHas1
namespace Go.Proofs.YtcpafideogckmaaGreatDoor.Aes
noncomputable section
open Go.Sim
open Go.Proofs
variable {α:Type}
theorem qpo (l:List (BitVec 8)) {n:Nat} (h:l.length=n):tabB (qba l) n=l:=by
 subst h
 apply List.ext_getElem?
 intro i
 unfold tabB
 rw [qwa,q2c,List.getElem?_map]
 by_cases hi:i<l.length
 . rw [List.getElem?_range' hi,List.getElem?_eq_getElem hi]
   simp [qba,List.getElem?_eq_getElem hi]
 . rw [List.getElem?_eq_none (by simpa using hi),List.getElem?_eq_none (by simpa using hi)]; rfl
theorem qla {k:IntKind} {a b:SI} (h:a.den=b.den):(SV.int k a).Imp (.int k b):=by
 intro γ x hx
 have hx:some (Value.int k a.den)=some x:=hx
 rw [h] at hx
 exact hx
def ptrL (v:SV):Option (Nat × Nat):=v.asPtr none fun a=>a.off.asLit none fun n=>some (a.nm,n)
theorem q6r {v:SV} {p:Nat × Nat} (h:ptrL v=some p):v=.ptr ⟨p.1,.lit p.2⟩:=by
 unfold ptrL at h
 rcases q2t v with ⟨⟨q,off⟩,rfl⟩ | hv
 . have h:(off.asLit none fun n=>some (q,n))=some p:=h
   cases off with
   | lit n=>cases h; rfl
   | sym n=>cases h
   | byt=>cases h
 . rw [hv] at h; cases h
def qxj (v:SV) (nm o n:Nat):Bool:=v.asSlice false fun a l c=>boolC (Nat.beq a.nm nm) (a.off.asLit false fun q=>boolC (Nat.beq q o) (l.asLit false fun m=>boolC (Nat.beq m n) (SC.rec (motive:=fun _=>Bool) (fun k=>Nat.beq k n) (fun _=>false) (fun _ _=>false) c) false) false) false
theorem qyj {v:SV} {nm o n:Nat} (h:qxj v nm o n=true):v=.slice ⟨nm,.lit o⟩ (.lit n) (.lit n):=by
 unfold qxj at h
 rcases asSlice_cases v with ⟨⟨q,o⟩,l,c,rfl⟩ | hv
 . obtain ⟨h1,h⟩:=q7h h
   cases o <;> first | (cases h; done) | skip
   obtain ⟨h2,h⟩:=q7h h
   cases l <;> first | (cases h; done) | skip
   obtain ⟨h3,h⟩:=q7h h
   cases c <;> first | (cases h; done) | skip
   have h1:=qpa h1
   have h2:=qpa h2
   have h3:=qpa h3
   have h4:=qpa h
   subst h1 h2 h3 h4; rfl
 . rw [hv] at h; cases h
def slNm (v:SV):Option Nat:=v.asSlice none fun a _ _=>some a.nm
def unZ (v:SV):Option Int:=v.asInt none fun k n=>boolC (eqK k .i64) (SI.rec (motive:=fun _=>Option Int) (fun z=>some z) (fun z=>some z) (fun _=>none) (fun _=>none) (fun _=>none) n) none
theorem j6o {v:SV} {z:Int} (h:unZ v=some z) (hz:0<=z):v.Imp (.int .i64 (.sym z.toNat)):=by
 unfold unZ at h
 rcases qxc v with ⟨k,n,rfl⟩ | hv
 . obtain ⟨hk,h⟩:=qtb (show boolC (eqK k .i64) (SI.rec (motive:=fun _=>Option Int) (fun z=>some z) (fun z=>some z) (fun _=>none) (fun _=>none) (fun _=>none) n) none=some z from h)
   rw [qag hk]
   cases n with
   | lit n=>cases h; exact qla (Int.toNat_of_nonneg hz).symm
   | sym n=>cases h; exact qla (Int.toNat_of_nonneg hz).symm
   | b8=>cases h
   | b32=>cases h
   | b64=>cases h
 . rw [hv] at h; cases h
def ql9 (l:List SV) (f:List W32->(Nat->BitVec 8)->Nat->List SV->R α):R α :=
 optC (unw (qfb l 8)) (.stuck 750) fun ws=>boolC (Nat.beq (lenN ws) 8) (optC (unb (qfb (qyb l 8) 64)) (.stuck 751) fun r=>boolC (Nat.beq (lenN r) 64)
  (List.rec (motive:=fun _=>R α) (.stuck 752) (fun v t _=>optC (unZ v) (.stuck 753) fun z=>.need (0<=z) (f ws (qba r) z.toNat t)) (qyb (qyb l 8) 64)) (.stuck 751)) (.stuck 750)
theorem qsz {l:List SV} {f:List W32->(Nat->BitVec 8)->Nat->List SV->R α} {φ:α->Prop} (h:∀ ws X n t,ws.length=8->(∀ K,SV.ImpL l (app (qfc ⟨K,ws,X,n⟩) t))->(f ws X n t).Sat φ):(ql9 l f).Sat φ:=by
 refine qja fun ws hw=>qfa fun h8=>qja fun r hr=>qfa fun h64 => ?_
 have h8:=qpa h8
 have h64:=qpa h64
 rw [qva] at h8 h64
 cases hd:qyb (qyb l 8) 64 with
 | nil=>trivial
 | cons v t =>
   refine qja fun z hz=>fun h0=>h ws (qba r) z.toNat t h8 fun K => ?_
   have e:l=app (qfb l 8) (app (qfb (qyb l 8) 64) (v::t)):=by rw [← hd,q9g,q9g]
   rw [e]
   unfold qfc
   rw [q4p h8]
   show SV.ImpL _ (app (app (wx ws) (app (bx (tabB (qba r) 64)) [.int .i64 (.sym z.toNat)])) t)
   rw [qpo r h64,qib (app _ _) t,qib (wx ws),qib (bx r),List.append_assoc,List.append_assoc,← qib (bx r),← qib (wx ws)]
   exact qzi (q5s hw) (qzi (qeh hr) (qoa (j6o hz h0) (SV.ImpL.refl _)))
def isTT (t:List SV) (r:R α):R α:=List.rec (motive:=fun _=>R α) (.stuck 754) (fun v t _=>boolC (nilN t) (v.asBool (.stuck 754) fun b=>SB.rec (motive:=fun _=>R α) (fun b=>boolC b r (.stuck 754)) (fun _=>.stuck 754) b) (.stuck 754)) t
theorem j5h {t:List SV} {r:R α} {φ:α->Prop} (h:t=[.bool (.lit true)]->r.Sat φ):(isTT t r).Sat φ:=by
 cases t with
 | nil=>trivial
 | cons v t =>
   cases t with
   | cons=>trivial
   | nil =>
     cases v <;> first | trivial | skip
     rename_i b
     cases b with
     | sym=>trivial
     | lit b=>cases b <;> first | trivial | exact h rfl
def q7w (l:List SV) (f:HSt->R α):R α :=
 optC (unb (qfb l 128)) (.stuck 755) fun k=>boolC (Nat.beq (lenN k) 128) (ql9 (qyb l 128) fun ws X n t=>isTT t (f ⟨qba k,ws,X,n⟩)) (.stuck 755)
theorem qbn {l:List SV} {f:HSt->R α} {φ:α->Prop} (h:∀ S:HSt,S.ws.length=8->SV.ImpL l (q2b S)->(f S).Sat φ):(q7w l f).Sat φ:=by
 refine qja fun k hk=>qfa fun h1=>qsz fun ws X n t h8 hi=>j5h fun ht=>h ⟨qba k,ws,X,n⟩ h8 ?_
 have h1:=qpa h1
 rw [qva] at h1
 subst ht
 rw [← q9g l 128]
 unfold q2b
 show SV.ImpL _ (app (bx (tabB (qba k) 128)) _)
 rw [qpo k h1]
 exact qzi (qeh hk) (hi _)
theorem qmi (f:Nat->Nat) (S:HSt):SV.renL f (qfc S)=qfc S:=by
 unfold qfc
 rw [qof,qof,q1r,q9d]; rfl
theorem qgh (p:Nat->Bool) (S:HSt):SV.usesL p (qfc S)=true:=by
 unfold qfc
 rw [q3e,q3e,q1s,qfd]; rfl
theorem qhf (f:Nat->Nat) (S:HSt):SV.renL f (q2b S)=q2b S:=by
 unfold q2b
 rw [qof,qof,q9d,qmi]; rfl
theorem q3d (p:Nat->Bool) (S:HSt):SV.usesL p (q2b S)=true:=by
 unfold q2b
 rw [q3e,q3e,qfd,qgh]; rfl
def macR (nm:Nat) (w:Bool) (el:TypeId) (S:HSt):SumRes:=⟨.tuple [],[(nm,.own (.lst (q2b S)) w el)],[]⟩
def addM (H:List SO) (v:SV) (nm:Nat) (l:List SV) (w:Bool) (el:TypeId):R SumRes:=q7w l fun S =>
 boolC (qxj v nm 136 64) (.ok (macR nm w el (qct S (cmpW (q0a S.ws) (q7a S.R 0)))))
  (qob v (.stuck 756) fun a len=>boolC (qeb a.nm) (boolC (Nat.beq nm a.nm) (.stuck 756) (qod len 64 (q4b (nth H a.nm) fun X n=>.need (a.off.den+64<=n) (.ok (macR nm w el (qct S (cmpW (q0a S.ws) (q7a X a.off.den)))))) (.stuck 756))) (.stuck 756))
def j3l (nm:Nat) (w:Bool) (el:TypeId) (S:HSt):SumRes:=⟨.tuple [],[(nm,.own (.lst (qfc S)) w el)],[]⟩
def addK (H:List SO) (v:SV) (nm:Nat) (l:List SV) (w:Bool) (el:TypeId):R SumRes:=ql9 l fun ws X n t=>boolC (nilN t) (optC (slNm v) (.stuck 757) fun a=>boolC (qeb a) (boolC (Nat.beq nm a) (.stuck 757) (optC (qic (nth H a)) (.stuck 757) fun lk=>q7w lk fun T =>
 boolC (qxj v a 0 64) (.ok (j3l nm w el ⟨T.K,cmpW (q0a ws) (q7a T.K 0),X,n⟩)) (boolC (qxj v a 64 64) (.ok (j3l nm w el ⟨T.K,cmpW (q0a ws) (q7a T.K 64),X,n⟩)) (.stuck 757)))) (.stuck 757)) (.stuck 757)
def qm9:Summ:=fun args H base=>qdd args fun p v=>optC (ptrL p) (.stuck 736) fun po=>qbf H (boolC (qeb po.1) (ownC (nth H po.1) fun l w el =>
 boolC (Nat.beq po.2 128) (addM H v po.1 l w el) (boolC (Nat.beq po.2 0) (boolC (Nat.beq (lenN l) 8) (addS args H base) (addK H v po.1 l w el)) (.stuck 739))) (.stuck 739))
theorem nd6 {x y:Nat} (h:qeb x=true) (h':qeb y=true) (hne:x≠y):[0,1,2,3,x,y].Nodup:=by
 have:=qki h
 have:=qki h'
 simp only [List.nodup_cons,List.mem_cons,List.not_mem_nil,or_false,not_or,not_false_eq_true,List.nodup_nil,and_true]; omega
theorem jke:SumAt Tryz.prog q3b 115 qm9:=by
 intro O w0 β H w base args vs hH hG ha
 refine qnb fun p v hv=>qja fun po hp=>qkc fun hT=>qfa fun hn=>q92 fun l wh el he => ?_
 have hn':=qki hn
 rw [qga] at he
 refine qna (fun h128 => ?_) fun _=>qfa fun h0=>qna (fun _=>jzl O w0 β H w base args vs hH hG ha) fun _ => ?_
 . rw [hv,q6r hp,qpa h128] at ha
   obtain ⟨x,ys,hx,hys,rfl⟩:=denL_cons.1 ha
   refine qbn fun S h8 hi=>qna (fun hs => ?_) fun _ => ?_
   . rw [qyj hs] at hys
     exact qim qko 40000 hH (qqa [po.1] [.own (.lst (q2b S)) wh el] [.ptr ⟨4,.lit 128⟩,.slice ⟨4,.lit 136⟩ (.lit 64) (.lit 64)]) (qma hG)
      (denL_cons.2 ⟨_,_,hx,hys,rfl⟩) (Ifc.fits (nd5 hn) rfl (qdb hT ⟨⟨⟨_,he,q0f (by rw [qhf]; exact hi)⟩,q3d _ _⟩,trivial⟩)) [] (by simp) (by simp)
      (j3o S wh el) qaa fun H2 hH2=>⟨SV.imp_of_eq rfl,rfl,⟨⟨rfl,qbc (List.cons.inj hH2).1 (q3d _ _) (by show SO.own (.lst (SV.renL _ (q2b _))) _ _=_; rw [qhf])⟩,trivial⟩,trivial⟩
   . refine qxa (fun _=>trivial) fun a len c hs=>qfa fun hn2=>qna (fun _=>trivial) fun hne=>qxb (fun hl=>q5a fun X n ht=>fun hle => ?_) fun _=>trivial
     rw [qga] at ht
     rw [hs] at hys
     obtain ⟨y,zs,hy,hz,rfl⟩:=denL_cons.1 hys
     obtain ⟨m,hlm,hd,_,_⟩:=q8a hy
     rw [hl] at hd hlm
     exact qim qko 40000 hH (qqa [po.1,a.nm] [.own (.lst (q2b S)) wh el,rowF X n] [.ptr ⟨4,.lit 128⟩,.slice ⟨5,.sym a.off.den⟩ (.lit 64) (.sym m)]) (qma hG)
      (denL_cons.2 ⟨_,_,hx,denL_cons.2 ⟨_,_,hd,hz,rfl⟩,rfl⟩) (Ifc.fits (nd6 hn hn2 (qmb hne)) rfl (qdb hT ⟨⟨⟨_,he,q0f (by rw [qhf]; exact hi)⟩,q3d _ _⟩,⟨ht _,qya _ _ _⟩,trivial⟩)) [] (by simp) (by simp)
      (j4o S X n m a.off.den wh el) (q82 hle hlm) fun H2 hH2=>⟨SV.imp_of_eq rfl,rfl,⟨⟨rfl,qbc (List.cons.inj hH2).1 (q3d _ _) (by show SO.own (.lst (SV.renL _ (q2b _))) _ _=_; rw [qhf])⟩,trivial⟩,trivial⟩
 . rw [hv,q6r hp,qpa h0] at ha
   obtain ⟨x,ys,hx,hys,rfl⟩:=denL_cons.1 ha
   refine qsz fun ws X n t h8 hi=>qfa fun ht=>qja fun a ha'=>qfa fun hn2=>qna (fun _=>trivial) fun hne=>qja fun lk hk=>qbn fun T hT8 hiT => ?_
   have ht:t=[]:=by cases t with | nil=>rfl | cons=>cases ht
   subst ht
   have hi:∀ K,SV.ImpL l (qfc ⟨K,ws,X,n⟩):=fun K=>by
    have:=hi K
    rw [qib,List.append_nil] at this
    exact this
   rw [qga] at hk
   refine qna (fun hs => ?_) fun _=>qfa fun hs => ?_
   . rw [qyj hs] at hys
     exact qim qko 40000 hH (qqa [po.1,a] [.own (.lst (qfc ⟨T.K,ws,X,n⟩)) wh el,.row (.lst (q2b T))] [.ptr ⟨4,.lit 0⟩,.slice ⟨5,.lit 0⟩ (.lit 64) (.lit 64)]) (qma hG)
      (denL_cons.2 ⟨_,_,hx,hys,rfl⟩) (Ifc.fits (nd6 hn hn2 (qmb hne)) rfl (qdb hT ⟨⟨⟨_,he,q0f (by rw [qmi]; exact hi _)⟩,qgh _ _⟩,⟨q7b hk (by rw [qhf]; exact hiT),q3d _ _⟩,trivial⟩)) [] (by simp) (by simp)
      (j5o ⟨T.K,ws,X,n⟩ T wh el) qaa fun H2 hH2=>⟨SV.imp_of_eq rfl,rfl,⟨⟨rfl,qbc (List.cons.inj hH2).1 (qgh _ _) (by show SO.own (.lst (SV.renL _ (qfc _))) _ _=_; rw [qmi]; rfl)⟩,trivial⟩,trivial⟩
   . rw [qyj hs] at hys
     exact qim qko 40000 hH (qqa [po.1,a] [.own (.lst (qfc ⟨T.K,ws,X,n⟩)) wh el,.row (.lst (q2b T))] [.ptr ⟨4,.lit 0⟩,.slice ⟨5,.lit 64⟩ (.lit 64) (.lit 64)]) (qma hG)
      (denL_cons.2 ⟨_,_,hx,hys,rfl⟩) (Ifc.fits (nd6 hn hn2 (qmb hne)) rfl (qdb hT ⟨⟨⟨_,he,q0f (by rw [qmi]; exact hi _)⟩,qgh _ _⟩,⟨q7b hk (by rw [qhf]; exact hiT),q3d _ _⟩,trivial⟩)) [] (by simp) (by simp)
      (j4h ⟨T.K,ws,X,n⟩ T wh el) qaa fun H2 hH2=>⟨SV.imp_of_eq rfl,rfl,⟨⟨rfl,qbc (List.cons.inj hH2).1 (qgh _ _) (by show SO.own (.lst (SV.renL _ (qfc _))) _ _=_; rw [qmi]; rfl)⟩,trivial⟩,trivial⟩
end
end Go.Proofs.YtcpafideogckmaaGreatDoor.Aes
