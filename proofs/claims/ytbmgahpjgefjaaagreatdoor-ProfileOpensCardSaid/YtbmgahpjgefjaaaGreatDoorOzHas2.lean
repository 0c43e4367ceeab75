/-
  A hash in progress: the summary of a block.
-/
import Derived.Test.YtbmgahpjgefjaaaGreatDoorOzHas1
namespace Go.Proofs.YtbmgahpjgefjaaaGreatDoor.Aes
open Go.Sim
open Go.Proofs
variable {α:Type}
theorem qlo (l:List (BitVec 8)) {n:Nat} (h:l.length=n):tabB (qaa l) n=l:=by
  subst h
  apply List.ext_getElem?
  intro i
  unfold tabB
  rw [qwa,q0c,List.getElem?_map]
  by_cases hi:i<l.length
  · rw [List.getElem?_range' hi,List.getElem?_eq_getElem hi]
    simp [qaa,List.getElem?_eq_getElem hi]
  · rw [List.getElem?_eq_none (by simpa using hi),List.getElem?_eq_none (by simpa using hi)]; rfl
theorem qoa {k:IntKind} {a b:SI} (h:a.den=b.den):(SV.int k a).Imp (.int k b):=by
  intro γ x hx
  have hx:some (Value.int k a.den)=some x:=hx
  rw [h] at hx
  exact hx
noncomputable def ptrL (v:SV):Option (Nat × Nat):=v.asPtr none fun a=>a.off.asLit none fun n=>some (a.nm,n)
theorem qxr {v:SV} {p:Nat × Nat} (h:ptrL v=some p):v=.ptr ⟨p.1,.lit p.2⟩:=by
  unfold ptrL at h
  rcases qjt v with ⟨⟨q,off⟩,rfl⟩ | hv
  · have h:(off.asLit none fun n=>some (q,n))=some p:=h
    cases off with
    | lit n=>cases h; rfl
    | sym n=>cases h
    | byt=>cases h
  · rw [hv] at h; cases h
noncomputable def qqj (v:SV) (nm o n:Nat):Bool:=v.asSlice false fun a l c=>boolC (Nat.beq a.nm nm) (a.off.asLit false fun q=>boolC (Nat.beq q o) (l.asLit false fun m=>boolC (Nat.beq m n) (SC.rec (motive:=fun _=>Bool) (fun k=>Nat.beq k n) (fun _=>false) (fun _ _=>false) c) false) false) false
theorem qrj {v:SV} {nm o n:Nat} (h:qqj v nm o n=true):v=.slice ⟨nm,.lit o⟩ (.lit n) (.lit n):=by
  unfold qqj at h
  rcases asSlice_cases v with ⟨⟨q,o⟩,l,c,rfl⟩ | hv
  · obtain ⟨h1,h⟩:=qzh h
    cases o <;> first | (cases h; done) | skip
    obtain ⟨h2,h⟩:=qzh h
    cases l <;> first | (cases h; done) | skip
    obtain ⟨h3,h⟩:=qzh h
    cases c <;> first | (cases h; done) | skip
    have h1:=qna h1
    have h2:=qna h2
    have h3:=qna h3
    have h4:=qna h
    subst h1 h2 h3 h4; rfl
  · rw [hv] at h; cases h
noncomputable def slNm (v:SV):Option Nat:=v.asSlice none fun a _ _=>some a.nm
noncomputable def unZ (v:SV):Option Int:=v.asInt none fun k n=>boolC (eqK k .i64) (SI.rec (motive:=fun _=>Option Int) (fun z=>some z) (fun z=>some z) (fun _=>none) (fun _=>none) (fun _=>none) n) none
theorem jjo {v:SV} {z:Int} (h:unZ v=some z) (hz:0≤z):v.Imp (.int .i64 (.sym z.toNat)):=by
  unfold unZ at h
  rcases qtc v with ⟨k,n,rfl⟩ | hv
  · obtain ⟨hk,h⟩:=qsb (show boolC (eqK k .i64) (SI.rec (motive:=fun _=>Option Int) (fun z=>some z) (fun z=>some z) (fun _=>none) (fun _=>none) (fun _=>none) n) none=some z from h)
    rw [q3f hk]
    cases n with
    | lit n=>cases h; exact qoa (Int.toNat_of_nonneg hz).symm
    | sym n=>cases h; exact qoa (Int.toNat_of_nonneg hz).symm
    | b8=>cases h
    | b32=>cases h
    | b64=>cases h
  · rw [hv] at h; cases h
noncomputable def qe9 (l:List SV) (f:List W32→(Nat→BitVec 8)→Nat→List SV→R α):R α :=
  optC (unw (qdb l 8)) (.stuck 750) fun ws=>boolC (Nat.beq (lenN ws) 8) (optC (unb (qdb (qxb l 8) 64)) (.stuck 751) fun r=>boolC (Nat.beq (lenN r) 64)
    (List.rec (motive:=fun _=>R α) (.stuck 752) (fun v t _=>optC (unZ v) (.stuck 753) fun z=>.need (0≤z) (f ws (qaa r) z.toNat t)) (qxb (qxb l 8) 64)) (.stuck 751)) (.stuck 750)
theorem qkz {l:List SV} {f:List W32→(Nat→BitVec 8)→Nat→List SV→R α} {φ:α→Prop} (h:∀ ws X n t,ws.length=8→(∀ K,SV.ImpL l (app (qec ⟨K,ws,X,n⟩) t))→(f ws X n t).Sat φ):(qe9 l f).Sat φ:=by
  refine qja fun ws hw=>qfa fun h8=>qja fun r hr=>qfa fun h64 => ?_
  have h8:=qna h8
  have h64:=qna h64
  rw [qva] at h8 h64
  cases hd:qxb (qxb l 8) 64 with
  | nil=>trivial
  | cons v t =>
    refine qja fun z hz=>fun h0=>h ws (qaa r) z.toNat t h8 fun K => ?_
    have e:l=app (qdb l 8) (app (qdb (qxb l 8) 64) (v::t)):=by rw [← hd,q3g,q3g]
    rw [e]
    unfold qec
    rw [qyp h8]
    show SV.ImpL _ (app (app (wx ws) (app (bx (tabB (qaa r) 64)) [.int .i64 (.sym z.toNat)])) t)
    rw [qlo r h64,qhb (app _ _) t,qhb (wx ws),qhb (bx r),List.append_assoc,List.append_assoc,← qhb (bx r),← qhb (wx ws)]
    exact qsi (qrs hw) (qsi (q8g hr) (qma (jjo hz h0) (SV.ImpL.refl _)))
noncomputable def isTT (t:List SV) (r:R α):R α:=List.rec (motive:=fun _=>R α) (.stuck 754) (fun v t _=>boolC (nilN t) (v.asBool (.stuck 754) fun b=>SB.rec (motive:=fun _=>R α) (fun b=>boolC b r (.stuck 754)) (fun _=>.stuck 754) b) (.stuck 754)) t
theorem jph {t:List SV} {r:R α} {φ:α→Prop} (h:t=[.bool (.lit true)]→r.Sat φ):(isTT t r).Sat φ:=by
  cases t with
  | nil=>trivial
  | cons v t =>
    cases t with
    | cons=>trivial
    | nil =>
      cases v <;> first | trivial | skip
      rename_i b
      cases b with
      | sym=>trivial
      | lit b=>cases b <;> first | trivial | exact h rfl
noncomputable def qsw (l:List SV) (f:HSt→R α):R α :=
  optC (unb (qdb l 128)) (.stuck 755) fun k=>boolC (Nat.beq (lenN k) 128) (qe9 (qxb l 128) fun ws X n t=>isTT t (f ⟨qaa k,ws,X,n⟩)) (.stuck 755)
theorem q9m {l:List SV} {f:HSt→R α} {φ:α→Prop} (h:∀ S:HSt,S.ws.length=8→SV.ImpL l (q1b S)→(f S).Sat φ):(qsw l f).Sat φ:=by
  refine qja fun k hk=>qfa fun h1=>qkz fun ws X n t h8 hi=>jph fun ht=>h ⟨qaa k,ws,X,n⟩ h8 ?_
  have h1:=qna h1
  rw [qva] at h1
  subst ht
  rw [← q3g l 128]
  unfold q1b
  show SV.ImpL _ (app (bx (tabB (qaa k) 128)) _)
  rw [qlo k h1]
  exact qsi (q8g hk) (hi _)
theorem qfi (f:Nat→Nat) (S:HSt):SV.renL f (qec S)=qec S:=by
  unfold qec
  rw [qnf,qnf,qsr,q7d]; rfl
theorem qah (p:Nat→Bool) (S:HSt):SV.usesL p (qec S)=true:=by
  unfold qec
  rw [qze,qze,qns,qed]; rfl
theorem qff (f:Nat→Nat) (S:HSt):SV.renL f (q1b S)=q1b S:=by
  unfold q1b
  rw [qnf,qnf,q7d,qfi]; rfl
theorem q2d (p:Nat→Bool) (S:HSt):SV.usesL p (q1b S)=true:=by
  unfold q1b
  rw [qze,qze,qed,qah]; rfl
noncomputable def macR (nm:Nat) (w:Bool) (el:TypeId) (S:HSt):SumRes:=⟨.tuple [],[(nm,.own (.lst (q1b S)) w el)],[]⟩
noncomputable def addM (H:List SO) (v:SV) (nm:Nat) (l:List SV) (w:Bool) (el:TypeId):R SumRes:=qsw l fun S =>
  boolC (qqj v nm 136 64) (.ok (macR nm w el (qys S (cmpW (q0a S.ws) (q6a S.R 0)))))
    (qob v (.stuck 756) fun a len=>boolC (qib a.nm) (boolC (Nat.beq nm a.nm) (.stuck 756) (qnd len 64 (q3b (nth H a.nm) fun X n=>.need (a.off.den+64≤n) (.ok (macR nm w el (qys S (cmpW (q0a S.ws) (q6a X a.off.den)))))) (.stuck 756))) (.stuck 756))
noncomputable def jkl (nm:Nat) (w:Bool) (el:TypeId) (S:HSt):SumRes:=⟨.tuple [],[(nm,.own (.lst (qec S)) w el)],[]⟩
noncomputable def addK (H:List SO) (v:SV) (nm:Nat) (l:List SV) (w:Bool) (el:TypeId):R SumRes:=qe9 l fun ws X n t=>boolC (nilN t) (optC (slNm v) (.stuck 757) fun a=>boolC (qib a) (boolC (Nat.beq nm a) (.stuck 757) (optC (qhc (nth H a)) (.stuck 757) fun lk=>qsw lk fun T =>
  boolC (qqj v a 0 64) (.ok (jkl nm w el ⟨T.K,cmpW (q0a ws) (q6a T.K 0),X,n⟩)) (boolC (qqj v a 64 64) (.ok (jkl nm w el ⟨T.K,cmpW (q0a ws) (q6a T.K 64),X,n⟩)) (.stuck 757)))) (.stuck 757)) (.stuck 757)
noncomputable def qf9:Summ:=fun args H base=>qcd args fun p v=>optC (ptrL p) (.stuck 736) fun po=>qdf H (boolC (qib po.1) (ownC (nth H po.1) fun l w el =>
  boolC (Nat.beq po.2 128) (addM H v po.1 l w el) (boolC (Nat.beq po.2 0) (boolC (Nat.beq (lenN l) 8) (addS args H base) (addK H v po.1 l w el)) (.stuck 739))) (.stuck 739))
theorem nd6 {x y:Nat} (h:qib x=true) (h':qib y=true) (hne:x≠y):[0,1,2,3,x,y].Nodup:=by
  have:=qdi h
  have:=qdi h'
  simp only [List.nodup_cons,List.mem_cons,List.not_mem_nil,or_false,not_or,not_false_eq_true,List.nodup_nil,and_true]; omega
theorem j5d:SumAt Tryz.prog q6b 127 qf9:=by
  intro O w0 β H w base args vs hH hG ha
  refine qnb fun p v hv=>qja fun po hp=>qlc fun hT=>qfa fun hn=>q42 fun l wh el he => ?_
  have hn':=qdi hn
  rw [qga] at he
  refine qla (fun h128 => ?_) fun _=>qfa fun h0=>qla (fun _=>jgl O w0 β H w base args vs hH hG ha) fun _ => ?_
  · rw [hv,qxr hp,qna h128] at ha
    obtain ⟨x,ys,hx,hys,rfl⟩:=denL_cons.1 ha
    refine q9m fun S h8 hi=>qla (fun hs => ?_) fun _ => ?_
    · rw [qrj hs] at hys
      exact qfm qgo 40000 hH (qta [po.1] [.own (.lst (q1b S)) wh el] [.ptr ⟨4,.lit 128⟩,.slice ⟨4,.lit 136⟩ (.lit 64) (.lit 64)]) (qqa hG)
        (denL_cons.2 ⟨_,_,hx,hys,rfl⟩) (Ifc.fits (nd5 hn) rfl (qgb hT ⟨⟨⟨_,he,qtf (by rw [qff]; exact hi)⟩,q2d _ _⟩,trivial⟩)) [] (by simp) (by simp)
        (jgo S wh el) qba fun H2 hH2=>⟨SV.imp_of_eq rfl,rfl,⟨⟨rfl,qbc (List.cons.inj hH2).1 (q2d _ _) (by show SO.own (.lst (SV.renL _ (q1b _))) _ _=_; rw [qff])⟩,trivial⟩,trivial⟩
    · refine qxa (fun _=>trivial) fun a len c hs=>qfa fun hn2=>qla (fun _=>trivial) fun hne=>qwb (fun hl=>q3a fun X n ht=>fun hle => ?_) fun _=>trivial
      rw [qga] at ht
      rw [hs] at hys
      obtain ⟨y,zs,hy,hz,rfl⟩:=denL_cons.1 hys
      obtain ⟨m,hlm,hd,_,_⟩:=q8a hy
      rw [hl] at hd hlm
      exact qfm qgo 40000 hH (qta [po.1,a.nm] [.own (.lst (q1b S)) wh el,rowF X n] [.ptr ⟨4,.lit 128⟩,.slice ⟨5,.sym a.off.den⟩ (.lit 64) (.sym m)]) (qqa hG)
        (denL_cons.2 ⟨_,_,hx,denL_cons.2 ⟨_,_,hd,hz,rfl⟩,rfl⟩) (Ifc.fits (nd6 hn hn2 (qmb hne)) rfl (qgb hT ⟨⟨⟨_,he,qtf (by rw [qff]; exact hi)⟩,q2d _ _⟩,⟨ht _,qya _ _ _⟩,trivial⟩)) [] (by simp) (by simp)
        (jho S X n m a.off.den wh el) (q32 hle hlm) fun H2 hH2=>⟨SV.imp_of_eq rfl,rfl,⟨⟨rfl,qbc (List.cons.inj hH2).1 (q2d _ _) (by show SO.own (.lst (SV.renL _ (q1b _))) _ _=_; rw [qff])⟩,trivial⟩,trivial⟩
  · rw [hv,qxr hp,qna h0] at ha
    obtain ⟨x,ys,hx,hys,rfl⟩:=denL_cons.1 ha
    refine qkz fun ws X n t h8 hi=>qfa fun ht=>qja fun a ha'=>qfa fun hn2=>qla (fun _=>trivial) fun hne=>qja fun lk hk=>q9m fun T hT8 hiT => ?_
    have ht:t=[]:=by cases t with | nil=>rfl | cons=>cases ht
    subst ht
    have hi:∀ K,SV.ImpL l (qec ⟨K,ws,X,n⟩):=fun K=>by
      have:=hi K
      rw [qhb,List.append_nil] at this
      exact this
    rw [qga] at hk
    refine qla (fun hs => ?_) fun _=>qfa fun hs => ?_
    · rw [qrj hs] at hys
      exact qfm qgo 40000 hH (qta [po.1,a] [.own (.lst (qec ⟨T.K,ws,X,n⟩)) wh el,.row (.lst (q1b T))] [.ptr ⟨4,.lit 0⟩,.slice ⟨5,.lit 0⟩ (.lit 64) (.lit 64)]) (qqa hG)
        (denL_cons.2 ⟨_,_,hx,hys,rfl⟩) (Ifc.fits (nd6 hn hn2 (qmb hne)) rfl (qgb hT ⟨⟨⟨_,he,qtf (by rw [qfi]; exact hi _)⟩,qah _ _⟩,⟨q5b hk (by rw [qff]; exact hiT),q2d _ _⟩,trivial⟩)) [] (by simp) (by simp)
        (jio ⟨T.K,ws,X,n⟩ T wh el) qba fun H2 hH2=>⟨SV.imp_of_eq rfl,rfl,⟨⟨rfl,qbc (List.cons.inj hH2).1 (qah _ _) (by show SO.own (.lst (SV.renL _ (qec _))) _ _=_; rw [qfi]; rfl)⟩,trivial⟩,trivial⟩
    · rw [qrj hs] at hys
      exact qfm qgo 40000 hH (qta [po.1,a] [.own (.lst (qec ⟨T.K,ws,X,n⟩)) wh el,.row (.lst (q1b T))] [.ptr ⟨4,.lit 0⟩,.slice ⟨5,.lit 64⟩ (.lit 64) (.lit 64)]) (qqa hG)
        (denL_cons.2 ⟨_,_,hx,hys,rfl⟩) (Ifc.fits (nd6 hn hn2 (qmb hne)) rfl (qgb hT ⟨⟨⟨_,he,qtf (by rw [qfi]; exact hi _)⟩,qah _ _⟩,⟨q5b hk (by rw [qff]; exact hiT),q2d _ _⟩,trivial⟩)) [] (by simp) (by simp)
        (joh ⟨T.K,ws,X,n⟩ T wh el) qba fun H2 hH2=>⟨SV.imp_of_eq rfl,rfl,⟨⟨rfl,qbc (List.cons.inj hH2).1 (qah _ _) (by show SO.own (.lst (SV.renL _ (qec _))) _ _=_; rw [qfi]; rfl)⟩,trivial⟩,trivial⟩
end Go.Proofs.YtbmgahpjgefjaaaGreatDoor.Aes
