/-
  do: the summary tells the truth; every way.
-/
import Derived.Test.YthkgcljngalafaaDoorPq14
namespace Go.Proofs.YthkgcljngalafaaDoor.Aes
noncomputable section
open Go.Sim
open Go.Proofs
variable {α:Type}
set_option maxRecDepth 1000000
theorem qdm {w:Int} {k:Nat} (h:(k:Int)<=w\/w<0):∀ p∈wF w k,p:=by
 intro p hp
 unfold wF at hp
 rw [qma,q5a] at hp
 obtain ⟨j,hj,rfl⟩:=List.mem_map.1 hp
 have hj:=(List.mem_range'_1.1 hj).2
 show (w == Int.ofNat j)=false
 rw [beq_eq_false_iff_ne]
 show w≠(j:Int)
 omega
theorem qem {k:Nat} {r:List Prop} (hr:∀ p∈r,p):∀ p∈wP (k:Int) k r,p:=qtd (qdm (.inl (Int.le_refl _))) (qtd (qgb (by show ((k:Int) == (k:Int))=true; simp) _) hr)
theorem qbf {k:Nat} {r:List Prop} (hr:∀ p∈r,p):∀ p∈wU (k:Int) k r,p:=qtd (qdm (.inl (Int.le_refl _))) (all_cons (by show ((k:Int) == (k:Int))=true; simp) hr)
section
variable {f:HashF} {es:List MapEntry} {c:Nat} {sk lm cl fe t now:Int} {b:BitVec 8} {D:RfD}
theorem rn_e (hl:lsM es=[]) (hw:ChW es c sk lm cl fe) (x:Mk):(doRN sk lm cl fe).u now=(D0 es c sk lm cl fe).u now/\(doRN sk lm cl fe).e x now=(D0 es c sk lm cl fe).e x now:=by
 have hu:(D0 es c sk lm cl fe).u now=[]:=by rw [qhy hw,hl]; rfl
 refine ⟨hu.symm,?_⟩
 unfold RfD.e ChD.e
 rw [hu]; rfl
theorem rr_e {k:Nat} (hw:ChW es c sk lm cl fe) (x:Mk):(doRR sk lm cl fe (rowM (lsM es)) (lsM es).length k).u now=(D0 es c sk lm cl fe).u now/\(doRR sk lm cl fe (rowM (lsM es)) (lsM es).length k).e x now=(D0 es c sk lm cl fe).e x now:=by
 have hu:(doRR sk lm cl fe (rowM (lsM es)) (lsM es).length k).u now=(D0 es c sk lm cl fe).u now:=by rw [rr_u,qhy hw]
 refine ⟨hu,?_⟩
 unfold RfD.e
 rw [hu]; rfl
theorem qqu (hw:ChW es c sk lm cl fe) (hD:D.w) (hu:D.u now=(D0 es c sk lm cl fe).u now) (he:D.e (xK f t b) now=(D0 es c sk lm cl fe).e (xK f t b) now) (hv:vTm t/\vTm now) {e:Bool} (hl:(prL ((D0 es c sk lm cl fe).e (xK f t b) now) (xK f t b) ((D0 es c sk lm cl fe).u now)).isEmpty=e) {r:List Prop} (hr:∀ p∈r,p) :
  ∀ p∈doPq f t now (D0 es c sk lm cl fe) D b e r,p :=
 all_cons rfl (all_cons hw (all_cons (qta hv) (all_cons ⟨Nat.le_refl _,by omega⟩ (all_cons hD (all_cons (qta hv) (all_cons (by rw [he,hu]; exact hl) (all_cons (by rw [he]; simp) hr)))))))
theorem jva (hw:ChW es c sk lm cl fe) (hD:D.w) (hv:vvT t now=false) {r:List Prop} (hr:∀ p∈r,p):∀ p∈doPx t now (D0 es c sk lm cl fe) D b r,p :=
 all_cons rfl (all_cons hw (all_cons hv (all_cons ⟨Nat.le_refl _,by omega⟩ (all_cons hD (all_cons hv hr)))))
end
theorem v40:vTm 1099511627776:=⟨by omega,Int.le_refl _⟩
theorem do_N {H:List SO} {O:Nat->Prop} {w0 wd:World} {β:Val} {base:Nat} {vs:List Value} {d:ChD} {w t now:Int} {b:BitVec 8} (hH:HeapRel0 Tryd.prog O w0 β H wd) (hG:GlobRel qhc β) (hA:SV.denL β (SV.renL (iN d w t now b).big (iN d w t now b).args)=some vs) (hF:(iN d w t now b).FitsQ H) (hw:ChW d.es d.c d.sk.den d.lm.den d.cl.den d.fe.den) (hl0:lsM d.es=[]) :
  (q96 shaG d w t now b .nilSlice base).Sat (SumSem Tryd.prog H β wd base 20 vs):=by
 have hI:DoI (iN d w t now b) d:=iN_ok _ _ _ _ _
 have hgl:∀ g j,qhc g=some j->(iN d w t now b).known j=true/\∃ l,β ((iN d w t now b).big j)=some l/\l.blk=g/\l.off=0:=qzf hG
 have hv0:∀ keep k fe,((rfA d.sk.den d.lm.den k fe .nilSlice).ren ((iN d w t now b).out base keep)).Imp (rfA d.sk.den d.lm.den k fe .nilSlice):=fun _ _ _=>.refl _
 have hu0:∀ keep k fe,(rfA d.sk.den d.lm.den k fe .nilSlice).uses ((iN d w t now b).seen keep)=true:=fun _ _ _=>rfl
 have hDw:(doRN d.sk.den d.lm.den d.cl.den d.fe.den).w:=(q2d (nm:=0) (mm:=0) hw hl0).2.1
 obtain ⟨hu,he⟩:=rn_e (now:=now) hl0 hw (xK shaG t b)
 refine ⟨fun hc => ?_,fun hc => ?_⟩
 . obtain ⟨w1,w2⟩:=cBi.1 hc
   by_cases h4:w<=4
   . obtain ⟨k,hk⟩:∃ k:Nat,w=(k:Int):=⟨w.toNat,by omega⟩
     subst hk
     have hk:k<5:=by omega
     have l4:le4 (k:Int)=true:=qta h4
     have e1:oF d (k:Int) now=d.fe.den:=by unfold oF; rw [qoa (by omega)]; rfl
     have e2:oM shaG d (k:Int) t now b=pM shaG t now b (D0 d.es d.c d.sk.den d.lm.den d.cl.den d.fe.den):=by unfold oM; rw [l4]; rfl
     have e3:oC shaG d (k:Int) t now b=pC shaG t now b (D0 d.es d.c d.sk.den d.lm.den d.cl.den d.fe.den):=by unfold oC; rw [l4]; rfl
     have e4:oL shaG d (k:Int) t now b=prL ((D0 d.es d.c d.sk.den d.lm.den d.cl.den d.fe.den).e (xK shaG t b) now) (xK shaG t b) ((D0 d.es d.c d.sk.den d.lm.den d.cl.den d.fe.den).u now):=by unfold oL; rw [l4]; rfl
     have e5:oV (k:Int) t now=vvT t now:=by unfold oV; rw [l4]; rfl
     rw [e1,e2,e3,e4,e5]
     refine ⟨fun hv => ?_,fun hv => ?_⟩
     . have hvv:=cBi.1 hv
       obtain ⟨hw2,hl2⟩:=qa1 (f:=shaG) (b:=b) hw hvv
       refine ⟨fun hem => ?_,fun hem => ?_⟩
       . have hne:lsM (pM shaG t now b (D0 d.es d.c d.sk.den d.lm.den d.cl.den d.fe.den))=[]:=by rw [hl2]; simpa using hem
         exact qaf hH hgl hA hF hI (qsg (jel shaG d.es d.c d.sk.den d.lm.den d.cl.den d.fe.den (k:Int) t now b) hk) (qem (qqu hw hDw hu he hvv hem (all_cons (q2d hw2 hne) qaa))) (.refl _) rfl
       . have hr:=qsg (jfl shaG d.es d.c d.sk.den d.lm.den d.cl.den d.fe.den (k:Int) t now b) hk
         have hpL:pL shaG t now b (doRN d.sk.den d.lm.den d.cl.den d.fe.den)=prL ((D0 d.es d.c d.sk.den d.lm.den d.cl.den d.fe.den).e (xK shaG t b) now) (xK shaG t b) ((D0 d.es d.c d.sk.den d.lm.den d.cl.den d.fe.den).u now):=by unfold pL; rw [he,hu]
         rw [hpL] at hr
         exact qhq hH hgl hA hF hI (q:=11) (by omega) hr (qem (qqu hw hDw hu he hvv hem (all_cons (qsi hw2 hl2) qaa)))
     . exact qaf hH hgl hA hF hI (qsg (jgl shaG d.es d.c d.sk.den d.lm.den d.cl.den d.fe.den (k:Int) t now b) hk) (qem (jva hw hDw hv (all_cons (q2d hw hl0) qaa))) (hv0 _ _ _) (hu0 _ _ _)
   . have l4:∀ w,¬ w<=4->le4 w=false:=fun w h=>qoa h
     by_cases h5:w=5
     . subst h5
       have e1:oF d 5 now=d.fe.den:=by unfold oF; rw [qoa (by omega)]; rfl
       have e2:oM shaG d 5 t now b=(D0 d.es d.c d.sk.den d.lm.den d.cl.den d.fe.den).esN now:=by unfold oM; rw [l4 _ (by omega)]; rfl
       have e3:oC shaG d 5 t now b=d.c:=by unfold oC; rw [l4 _ (by omega)]; rfl
       have e4:oL shaG d 5 t now b=(D0 d.es d.c d.sk.den d.lm.den d.cl.den d.fe.den).u now:=by unfold oL; rw [l4 _ (by omega)]; rfl
       have e5:oV 5 t now=cB (vTm now):=by unfold oV; rw [l4 _ (by omega)]; rfl
       rw [e1,e2,e3,e4,e5]
       refine ⟨fun hv => ?_,fun hv => ?_⟩
       . have hU:=hw.use (cBi.1 hv)
         refine ⟨fun hem => ?_,fun hem => ?_⟩
         . have hne:lsM (esN d.es d.sk.den d.cl.den now)=[]:=List.isEmpty_iff.1 hem
           exact qaf hH hgl hA hF hI (jhl shaG d.es d.c d.sk.den d.lm.den d.cl.den d.fe.den 5 t now b) (qbf (all_cons hw (all_cons hv (all_cons hDw (all_cons hv (all_cons (by rw [hu]; exact hem) (all_cons (q2d hU hne) qaa))))))) (.refl _) rfl
         . rw [qhy hw,hl0] at hem; cases hem
       . exact qaf hH hgl hA hF hI (jil shaG d.es d.c d.sk.den d.lm.den d.cl.den d.fe.den 5 t now b) (qbf (all_cons hw (all_cons hv (all_cons hDw (all_cons hv (all_cons (q2d hw hl0) qaa)))))) (hv0 _ _ _) (hu0 _ _ _)
     . obtain rfl:w=6:=by omega
       have e1:oF d 6 now=clk now d.cl.den+d.sk.den:=by unfold oF; rw [qta rfl]; rfl
       have e2:oM shaG d 6 t now b=(D0 d.es d.c d.sk.den d.lm.den d.cl.den d.fe.den).esN now:=by unfold oM; rw [l4 _ (by omega)]; rfl
       have e3:oC shaG d 6 t now b=d.c:=by unfold oC; rw [l4 _ (by omega)]; rfl
       have e4:oL shaG d 6 t now b=(D0 d.es d.c d.sk.den d.lm.den d.cl.den d.fe.den).u now:=by unfold oL; rw [l4 _ (by omega)]; rfl
       have e5:oV 6 t now=cB (vTm now):=by unfold oV; rw [l4 _ (by omega)]; rfl
       rw [e1,e2,e3,e4,e5]
       refine ⟨fun hv => ?_,fun hv => ?_⟩
       . have hU:=hw.use (cBi.1 hv)
         refine ⟨fun hem => ?_,fun hem => ?_⟩
         . have hne:lsM (esN d.es d.sk.den d.cl.den now)=[]:=List.isEmpty_iff.1 hem
           exact qaf hH hgl hA hF hI (jjl shaG d.es d.c d.sk.den d.lm.den d.cl.den d.fe.den 6 t now b) (qbf (all_cons hw (all_cons hv (all_cons hDw (all_cons hv (all_cons (by rw [hu]; exact hem) (all_cons (q2d hU.fence hne) qaa))))))) (.refl _) rfl
         . rw [qhy hw,hl0] at hem; cases hem
       . exact qaf hH hgl hA hF hI (jkl shaG d.es d.c d.sk.den d.lm.den d.cl.den d.fe.den 6 t now b) (qbf (all_cons hw (all_cons hv (all_cons hDw (all_cons hv (all_cons (q2d hw hl0) qaa)))))) (hv0 _ _ _) (hu0 _ _ _)
 . refine ⟨fun h7 => ?_,fun h7 => ?_⟩
   . obtain rfl:=cBi.1 h7
     obtain ⟨i1,i2,i3,i4⟩:=q90 hw
     obtain ⟨hB,hBl⟩:=q8r hw
     have hat:=qou hw
     have hr:=don_l shaG d.es d.c d.sk.den d.lm.den d.cl.den d.fe.den 7 t now b
     have x0:bnI (D0 d.es d.c d.sk.den d.lm.den d.cl.den d.fe.den).x 0=d.sk.den:=hat.b0
     have x8:bnI (D0 d.es d.c d.sk.den d.lm.den d.cl.den d.fe.den).x 8=d.lm.den:=hat.b8
     have x16:bnI (D0 d.es d.c d.sk.den d.lm.den d.cl.den d.fe.den).x 16=d.cl.den:=hat.b16
     have x24:bnI (D0 d.es d.c d.sk.den d.lm.den d.cl.den d.fe.den).x 24 - 1=d.fe.den:=by
      have:bnI (D0 d.es d.c d.sk.den d.lm.den d.cl.den d.fe.den).x 24=d.fe.den+1:=hat.b24
      omega
     rw [x0,x8,x16,x24] at hr
     have hsz:(D0 d.es d.c d.sk.den d.lm.den d.cl.den d.fe.den).n<=1152921504606846976:=by
      have h1:=hw.sz
      have h2:=hw.hlm
      have h3:=hw.len
      show 40+40 * d.es.length<=_
      omega
     exact q4j hH hgl hA hF hI (q:=11) (by omega) hr (qbf (k:=7) (all_cons hw (all_cons (qfd _) (all_cons ⟨rfl,hsz⟩ (all_cons (qoa i1) (all_cons (qoa i2) (all_cons (qta ⟨i3,i4⟩) (all_cons (q2d hB (hBl.trans hl0)) qaa)))))))) (hv0 _ _ _) (hu0 _ _ _)
   . have h8:((8:Nat):Int)<=w\/w<0:=by
      have h7:=cB_f h7
      have hc:=cB_f hc
      omega
     cases hv:cB (vTm now) with
     | true =>
       have hU:=(hw.use (cBi.1 hv)).fence
       have e1:zK d now=clk now d.cl.den:=by unfold zK; rw [hv]; rfl
       have e2:zF d now=clk now d.cl.den+d.sk.den:=by unfold zF; rw [hv]; rfl
       have e3:zM d now=(pD d.sk.den d.lm.den (clk now d.cl.den+d.sk.den) ((D0 d.es d.c d.sk.den d.lm.den d.cl.den d.fe.den).esN now) d.c (clk now d.cl.den)).esN 1099511627776:=by unfold zM; rw [hv,e1,e2]; rfl
       rw [e1,e2,e3]
       exact q4j hH hgl hA hF hI (q:=10) (by omega) (jll shaG d.es d.c d.sk.den d.lm.den d.cl.den d.fe.den w t now b) (qtd (qdm h8) (all_cons hw (all_cons hw (all_cons hv (all_cons hU (all_cons (qta v40) (all_cons (q2d hw hl0) qaa))))))) (hv0 _ _ _) (hu0 _ _ _)
     | false =>
       have e1:zK d now=d.cl.den:=by unfold zK; rw [hv]; rfl
       have e2:zF d now=d.fe.den:=by unfold zF; rw [hv]; rfl
       have e3:zM d now=(pD d.sk.den d.lm.den d.fe.den d.es d.c d.cl.den).esN 1099511627776:=by unfold zM; rw [hv,e1,e2]; rfl
       rw [e1,e2,e3]
       exact q4j hH hgl hA hF hI (q:=10) (by omega) (jml shaG d.es d.c d.sk.den d.lm.den d.cl.den d.fe.den w t now b) (qtd (qdm h8) (all_cons hw (all_cons hw (all_cons hv (all_cons hw (all_cons (qta v40) (all_cons (q2d hw hl0) qaa))))))) (hv0 _ _ _) (hu0 _ _ _)
theorem do_R {H:List SO} {O:Nat->Prop} {w0 wd:World} {β:Val} {base:Nat} {vs:List Value} {d:ChD} {D:RfD} {w t now:Int} {b:BitVec 8} (hH:HeapRel0 Tryd.prog O w0 β H wd) (hG:GlobRel qhc β) (hA:SV.denL β (SV.renL (iR d D w t now b).big (iR d D w t now b).args)=some vs) (hF:(iR d D w t now b).FitsQ H) (hw:ChW d.es d.c d.sk.den d.lm.den d.cl.den d.fe.den) {L:SV} (hL:(SV.slice ⟨D.nm,.lit 0⟩ (.sym (lsM d.es).length) (.rest D.nm 0)).Imp L) :
  (q96 shaG d w t now b L base).Sat (SumSem Tryd.prog H β wd base 20 vs):=by
 have hI:DoI (iR d D w t now b) d:=iR_ok _ _ _ _ _ _
 have hgl:∀ g j,qhc g=some j->(iR d D w t now b).known j=true/\∃ l,β ((iR d D w t now b).big j)=some l/\l.blk=g/\l.off=0:=qzf hG
 have hv0:∀ keep k fe,((rfA d.sk.den d.lm.den k fe (rfL 6 (lsM d.es).length)).ren ((iR d D w t now b).out base keep)).Imp (rfA d.sk.den d.lm.den k fe L):=fun keep k fe=>qah (qba (.refl _) (qba (.refl _) (qba (.refl _) (qba (.refl _) (qba hL qwa)))))
 have hu0:∀ keep k fe,(rfA d.sk.den d.lm.den k fe (rfL 6 (lsM d.es).length)).uses ((iR d D w t now b).seen keep)=true:=fun _ _ _=>rfl
 have hDw:(doRR d.sk.den d.lm.den d.cl.den d.fe.den (rowM (lsM d.es)) (lsM d.es).length 6).w:=(qvn (nm:=0) (mm:=0) hw rfl).2.1
 obtain ⟨hu,he⟩:=rr_e (k:=6) (now:=now) hw (xK shaG t b)
 refine ⟨fun hc => ?_,fun hc => ?_⟩
 . obtain ⟨w1,w2⟩:=cBi.1 hc
   by_cases h4:w<=4
   . obtain ⟨k,hk⟩:∃ k:Nat,w=(k:Int):=⟨w.toNat,by omega⟩
     subst hk
     have hk:k<5:=by omega
     have l4:le4 (k:Int)=true:=qta h4
     have e1:oF d (k:Int) now=d.fe.den:=by unfold oF; rw [qoa (by omega)]; rfl
     have e2:oM shaG d (k:Int) t now b=pM shaG t now b (D0 d.es d.c d.sk.den d.lm.den d.cl.den d.fe.den):=by unfold oM; rw [l4]; rfl
     have e3:oC shaG d (k:Int) t now b=pC shaG t now b (D0 d.es d.c d.sk.den d.lm.den d.cl.den d.fe.den):=by unfold oC; rw [l4]; rfl
     have e4:oL shaG d (k:Int) t now b=prL ((D0 d.es d.c d.sk.den d.lm.den d.cl.den d.fe.den).e (xK shaG t b) now) (xK shaG t b) ((D0 d.es d.c d.sk.den d.lm.den d.cl.den d.fe.den).u now):=by unfold oL; rw [l4]; rfl
     have e5:oV (k:Int) t now=vvT t now:=by unfold oV; rw [l4]; rfl
     rw [e1,e2,e3,e4,e5]
     refine ⟨fun hv => ?_,fun hv => ?_⟩
     . have hvv:=cBi.1 hv
       obtain ⟨hw2,hl2⟩:=qa1 (f:=shaG) (b:=b) hw hvv
       refine ⟨fun hem => ?_,fun hem => ?_⟩
       . have hne:lsM (pM shaG t now b (D0 d.es d.c d.sk.den d.lm.den d.cl.den d.fe.den))=[]:=by rw [hl2]; simpa using hem
         exact qaf hH hgl hA hF hI (qsg (jnl shaG d.es d.c d.sk.den d.lm.den d.cl.den d.fe.den (rowM (lsM d.es)) (lsM d.es).length (k:Int) t now b) hk) (qem (qqu hw hDw hu he hvv hem (all_cons (q2d hw2 hne) qaa))) (.refl _) rfl
       . have hr:=qsg (jol shaG d.es d.c d.sk.den d.lm.den d.cl.den d.fe.den (rowM (lsM d.es)) (lsM d.es).length (k:Int) t now b) hk
         have hpL:pL shaG t now b (doRR d.sk.den d.lm.den d.cl.den d.fe.den (rowM (lsM d.es)) (lsM d.es).length 6)=prL ((D0 d.es d.c d.sk.den d.lm.den d.cl.den d.fe.den).e (xK shaG t b) now) (xK shaG t b) ((D0 d.es d.c d.sk.den d.lm.den d.cl.den d.fe.den).u now):=by unfold pL; rw [he,hu]
         rw [hpL] at hr
         exact qhq hH hgl hA hF hI (q:=12) (by omega) hr (qem (qqu hw hDw hu he hvv hem (all_cons (qsi hw2 hl2) qaa)))
     . exact qaf hH hgl hA hF hI (qsg (jpl shaG d.es d.c d.sk.den d.lm.den d.cl.den d.fe.den (rowM (lsM d.es)) (lsM d.es).length (k:Int) t now b) hk) (qem (jva hw hDw hv (all_cons (qvn hw rfl) qaa))) (hv0 _ _ _) (hu0 _ _ _)
   . have l4:∀ w,¬ w<=4->le4 w=false:=fun w h=>qoa h
     by_cases h5:w=5
     . subst h5
       have e1:oF d 5 now=d.fe.den:=by unfold oF; rw [qoa (by omega)]; rfl
       have e2:oM shaG d 5 t now b=(D0 d.es d.c d.sk.den d.lm.den d.cl.den d.fe.den).esN now:=by unfold oM; rw [l4 _ (by omega)]; rfl
       have e3:oC shaG d 5 t now b=d.c:=by unfold oC; rw [l4 _ (by omega)]; rfl
       have e4:oL shaG d 5 t now b=(D0 d.es d.c d.sk.den d.lm.den d.cl.den d.fe.den).u now:=by unfold oL; rw [l4 _ (by omega)]; rfl
       have e5:oV 5 t now=cB (vTm now):=by unfold oV; rw [l4 _ (by omega)]; rfl
       rw [e1,e2,e3,e4,e5]
       refine ⟨fun hv => ?_,fun hv => ?_⟩
       . have hU:=hw.use (cBi.1 hv)
         refine ⟨fun hem => ?_,fun hem => ?_⟩
         . have hne:lsM (esN d.es d.sk.den d.cl.den now)=[]:=List.isEmpty_iff.1 hem
           exact qaf hH hgl hA hF hI (jql shaG d.es d.c d.sk.den d.lm.den d.cl.den d.fe.den (rowM (lsM d.es)) (lsM d.es).length 5 t now b) (qbf (all_cons hw (all_cons hv (all_cons hDw (all_cons hv (all_cons (by rw [hu]; exact hem) (all_cons (q2d hU hne) qaa))))))) (.refl _) rfl
         . have hr:=jrl shaG d.es d.c d.sk.den d.lm.den d.cl.den d.fe.den (rowM (lsM d.es)) (lsM d.es).length 5 t now b
           rw [hu] at hr
           exact qhq hH hgl hA hF hI (q:=11) (by omega) hr (qbf (all_cons hw (all_cons hv (all_cons hDw (all_cons hv (all_cons hem (all_cons (qsi hU rfl) qaa)))))))
       . exact qaf hH hgl hA hF hI (jsl shaG d.es d.c d.sk.den d.lm.den d.cl.den d.fe.den (rowM (lsM d.es)) (lsM d.es).length 5 t now b) (qbf (all_cons hw (all_cons hv (all_cons hDw (all_cons hv (all_cons (qvn hw rfl) qaa)))))) (hv0 _ _ _) (hu0 _ _ _)
     . obtain rfl:w=6:=by omega
       have e1:oF d 6 now=clk now d.cl.den+d.sk.den:=by unfold oF; rw [qta rfl]; rfl
       have e2:oM shaG d 6 t now b=(D0 d.es d.c d.sk.den d.lm.den d.cl.den d.fe.den).esN now:=by unfold oM; rw [l4 _ (by omega)]; rfl
       have e3:oC shaG d 6 t now b=d.c:=by unfold oC; rw [l4 _ (by omega)]; rfl
       have e4:oL shaG d 6 t now b=(D0 d.es d.c d.sk.den d.lm.den d.cl.den d.fe.den).u now:=by unfold oL; rw [l4 _ (by omega)]; rfl
       have e5:oV 6 t now=cB (vTm now):=by unfold oV; rw [l4 _ (by omega)]; rfl
       rw [e1,e2,e3,e4,e5]
       refine ⟨fun hv => ?_,fun hv => ?_⟩
       . have hU:=hw.use (cBi.1 hv)
         refine ⟨fun hem => ?_,fun hem => ?_⟩
         . have hne:lsM (esN d.es d.sk.den d.cl.den now)=[]:=List.isEmpty_iff.1 hem
           exact qaf hH hgl hA hF hI (jtl shaG d.es d.c d.sk.den d.lm.den d.cl.den d.fe.den (rowM (lsM d.es)) (lsM d.es).length 6 t now b) (qbf (all_cons hw (all_cons hv (all_cons hDw (all_cons hv (all_cons (by rw [hu]; exact hem) (all_cons (q2d hU.fence hne) qaa))))))) (.refl _) rfl
         . have hr:=jul shaG d.es d.c d.sk.den d.lm.den d.cl.den d.fe.den (rowM (lsM d.es)) (lsM d.es).length 6 t now b
           rw [hu] at hr
           exact qhq hH hgl hA hF hI (q:=11) (by omega) hr (qbf (all_cons hw (all_cons hv (all_cons hDw (all_cons hv (all_cons hem (all_cons (qsi hU.fence rfl) qaa)))))))
       . exact qaf hH hgl hA hF hI (jvl shaG d.es d.c d.sk.den d.lm.den d.cl.den d.fe.den (rowM (lsM d.es)) (lsM d.es).length 6 t now b) (qbf (all_cons hw (all_cons hv (all_cons hDw (all_cons hv (all_cons (qvn hw rfl) qaa)))))) (hv0 _ _ _) (hu0 _ _ _)
 . refine ⟨fun h7 => ?_,fun h7 => ?_⟩
   . obtain rfl:=cBi.1 h7
     obtain ⟨i1,i2,i3,i4⟩:=q90 hw
     obtain ⟨hB,hBl⟩:=q8r hw
     have hat:=qou hw
     have hr:=dor_l shaG d.es d.c d.sk.den d.lm.den d.cl.den d.fe.den (rowM (lsM d.es)) (lsM d.es).length 7 t now b
     have x0:bnI (D0 d.es d.c d.sk.den d.lm.den d.cl.den d.fe.den).x 0=d.sk.den:=hat.b0
     have x8:bnI (D0 d.es d.c d.sk.den d.lm.den d.cl.den d.fe.den).x 8=d.lm.den:=hat.b8
     have x16:bnI (D0 d.es d.c d.sk.den d.lm.den d.cl.den d.fe.den).x 16=d.cl.den:=hat.b16
     have x24:bnI (D0 d.es d.c d.sk.den d.lm.den d.cl.den d.fe.den).x 24 - 1=d.fe.den:=by
      have:bnI (D0 d.es d.c d.sk.den d.lm.den d.cl.den d.fe.den).x 24=d.fe.den+1:=hat.b24
      omega
     rw [x0,x8,x16,x24] at hr
     have hsz:(D0 d.es d.c d.sk.den d.lm.den d.cl.den d.fe.den).n<=1152921504606846976:=by
      have h1:=hw.sz
      have h2:=hw.hlm
      have h3:=hw.len
      show 40+40 * d.es.length<=_
      omega
     exact q4j hH hgl hA hF hI (q:=12) (by omega) hr (qbf (k:=7) (all_cons hw (all_cons (qfd _) (all_cons ⟨rfl,hsz⟩ (all_cons (qoa i1) (all_cons (qoa i2) (all_cons (qta ⟨i3,i4⟩) (all_cons (qvn hB hBl) qaa)))))))) (hv0 _ _ _) (hu0 _ _ _)
   . have h8:((8:Nat):Int)<=w\/w<0:=by
      have h7:=cB_f h7
      have hc:=cB_f hc
      omega
     cases hv:cB (vTm now) with
     | true =>
       have hU:=(hw.use (cBi.1 hv)).fence
       have e1:zK d now=clk now d.cl.den:=by unfold zK; rw [hv]; rfl
       have e2:zF d now=clk now d.cl.den+d.sk.den:=by unfold zF; rw [hv]; rfl
       have e3:zM d now=(pD d.sk.den d.lm.den (clk now d.cl.den+d.sk.den) ((D0 d.es d.c d.sk.den d.lm.den d.cl.den d.fe.den).esN now) d.c (clk now d.cl.den)).esN 1099511627776:=by unfold zM; rw [hv,e1,e2]; rfl
       rw [e1,e2,e3]
       exact q4j hH hgl hA hF hI (q:=11) (by omega) (jwl shaG d.es d.c d.sk.den d.lm.den d.cl.den d.fe.den (rowM (lsM d.es)) (lsM d.es).length w t now b) (qtd (qdm h8) (all_cons hw (all_cons hw (all_cons hv (all_cons hU (all_cons (qta v40) (all_cons (qvn hw rfl) qaa))))))) (hv0 _ _ _) (hu0 _ _ _)
     | false =>
       have e1:zK d now=d.cl.den:=by unfold zK; rw [hv]; rfl
       have e2:zF d now=d.fe.den:=by unfold zF; rw [hv]; rfl
       have e3:zM d now=(pD d.sk.den d.lm.den d.fe.den d.es d.c d.cl.den).esN 1099511627776:=by unfold zM; rw [hv,e1,e2]; rfl
       rw [e1,e2,e3]
       exact q4j hH hgl hA hF hI (q:=11) (by omega) (jxl shaG d.es d.c d.sk.den d.lm.den d.cl.den d.fe.den (rowM (lsM d.es)) (lsM d.es).length w t now b) (qtd (qdm h8) (all_cons hw (all_cons hw (all_cons hv (all_cons hw (all_cons (qta v40) (all_cons (qvn hw rfl) qaa))))))) (hv0 _ _ _) (hu0 _ _ _)
theorem doOK:SumAt Tryd.prog qhc 20 (doSm shaG):=by
 intro O w0 β H wd base args vs hH hG ha
 refine q4i fun p v a hv=>q4l fun d hd=>q3j fun D hD=>jki fun w t now b hac=>qnk fun hT=>qva fun h1=>qva fun h2=>qva fun h3 => ?_
 rintro ⟨hw,hW,hs⟩
 rw [hv,hd.ptr] at ha
 cases hn:D.nil with
 | true =>
   have hl0:lsM d.es=[]:=hs.1.trans (q7l hD hn).2
   have e:D.L=.nilSlice:=by unfold RfD.L; rw [hn]; rfl
   rw [e]
   exact do_N hH hG (qba (.refl _) (qba (jyl hD hn hs) (qba hac qwa)) _ _ ha) (jli hT hd h1 h2) hw hl0
 | false =>
   rw [hn] at h3
   have e:D.L=.slice ⟨D.nm,.lit 0⟩ D.n (.rest D.nm 0):=by unfold RfD.L; rw [hn]; rfl
   rw [e]
   have hlen:(lsM d.es).length=D.n.den:=by rw [hs.1]; exact RfD.len
   exact do_R (D:=D) hH hG (qba (.refl _) (qba (jzl hD hn hs) (qba hac qwa)) _ _ ha) (jmi hT hd hD hn hW hs.1 h1 h2 h3) hw (q7c hlen)
end
end Go.Proofs.YthkgcljngalafaaDoor.Aes
