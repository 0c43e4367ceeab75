/-
  Texts behind one another: the symbolic simulator and what it is told of the program.
-/
import Derived.Test.YthkgcljngalafaaDoorPq13
import Derived.Test.YthkgcljngalafaaDoorZqRdo2
namespace Go.Proofs.YthkgcljngalafaaDoor.Aes
noncomputable section
open Go.Sim
open Go.Proofs
variable {α:Type}
set_option maxRecDepth 1000000
theorem jji (x:BitVec 64) (i:Nat):(be8 x i).toNat=x.toNat / 2 ^ (56 - 8 * i) % 256:=by
 unfold be8
 rw [BitVec.toNat_setWidth,BitVec.toNat_ushiftRight,Nat.shiftRight_eq_div_pow]
theorem q03 {X:Nat->BitVec 8} {o:Nat} {x:BitVec 64} (h:∀ r,r<8->X (o+r)=be8 x r):∀ k,k<=8->beN X o k=x.toNat / 2 ^ (64 - 8 * k)
 | 0,_=>by
   have:=x.isLt
   rw [beN,Nat.div_eq_of_lt (by omega)]
 | k+1,hk=>by
   rw [beN,q03 h k (by omega),h k (by omega),jji]
   have e:(2:Nat) ^ (64 - 8 * k)=2 ^ (56 - 8 * k) * 256:=by
    rw [show 64 - 8 * k=(56 - 8 * k)+8 by omega,Nat.pow_add]
   rw [e,← Nat.div_div_eq_div_mul,show 64 - 8 * (k+1)=56 - 8 * k by omega]
   exact Nat.div_add_mod _ 256
theorem jua {X:Nat->BitVec 8} {o:Nat} {v:Int} (h0:0<=v) (h1:v<9223372036854775808) (h:∀ r,r<8->X (o+r)=be8 (BitVec.ofInt 64 v) r):bnI X o=v:=by
 unfold bnI
 rw [q03 h 8 (Nat.le_refl _),show 64 - 8 * 8=0 from rfl,Nat.pow_zero,Nat.div_one,BitVec.toNat_ofInt]
 omega
structure ImgAt (es:List MapEntry) (sk lm cl fe:Int) (X:Nat->BitVec 8):Prop where
 b0:bnI X 0=sk
 b8:bnI X 8=lm
 b16:bnI X 16=cl
 b24:bnI X 24=fe+1
 b32:bnI X 32=((lsM es).length:Int)
 mks:∀ i (h:i<(lsM es).length),mkX X i=(lsM es)[i]
section
variable {es:List MapEntry} {c:Nat} {sk lm cl fe:Int}
theorem qou (h:ChW es c sk lm cl fe):ImgAt es sk lm cl fe (imX es sk lm cl fe):=by
 have hsk:=h.hsk
 have hlm:=h.hlm
 have hcl:=h.hcl
 have hfe:=h.hfe
 have hsz:=h.sz
 have hl:=h.len
 have n:∀ {i:Nat} {v:Int},i<5->(imL es sk lm cl fe).getD i 0=v->0<=v->v<9223372036854775808->bnI (imX es sk lm cl fe) (8 * i)=v:=fun {i v} hi hv h0 h1=>jua h0 h1 fun r hr=>by
  unfold imX
  rw [qk0 _ _ hi hr,hv]
 unfold vTm at hcl
 refine ⟨n (i:=0) (by omega) rfl (by omega) (by omega),n (i:=1) (by omega) rfl (by omega) (by omega),n (i:=2) (by omega) rfl (by omega) (by omega),n (i:=3) (by omega) rfl (by omega) (by omega),?_,fun i hi => ?_⟩
 . rw [← hl]
   exact n (i:=4) (v:=(es.length:Int)) (by omega) rfl (by omega) (by omega)
 . have ht:=h.tm _ (List.getElem_mem hi)
   unfold vTm at ht
   refine Prod.ext ?_ (q8e fun j hj => ?_)
   . show bnI (imX es sk lm cl fe) (40 * i+40)=_
     refine jua (by omega) (by omega) fun r hr => ?_
     rw [show 40 * i+40+r=40+40 * i+r by omega]
     exact qiv _ hi hr
   . show (dgOf _).at j=_
     rw [qxc _ hj,show 40 * i+40+8+j=40+40 * i+(8+j) by omega]
     exact qjv _ hi hj
theorem ImgAt.cnt {X:Nat->BitVec 8} (h:ImgAt es sk lm cl fe X):cntI X=(lsM es).length:=by
 have:=h.b32
 unfold bnI at this
 unfold cntI
 omega
theorem ImgAt.head {X:Nat->BitVec 8} (h:ImgAt es sk lm cl fe X) (hw:ChW es c sk lm cl fe):HeadOK X:=by
 have h0:=h.b0
 have h8:=h.b8
 have h16:=h.b16
 have h24:=h.b24
 have hc:=h.cnt
 have hsk:=hw.hsk
 have hlm:=hw.hlm
 have hcl:=hw.hcl
 have hfe:=hw.hfe
 have hsz:=hw.sz
 unfold vTm at hcl
 unfold bnI at h0 h8 h16 h24
 exact ⟨by omega,by omega,by omega,by omega,by omega,by omega⟩
theorem ImgAt.ents {X:Nat->BitVec 8} (h:ImgAt es sk lm cl fe X) (hw:ChW es c sk lm cl fe):qeh X:=fun i hi=>by
 rw [h.cnt] at hi
 have hm:=h.mks i hi
 have hb:bnI X (40 * i+40)=(lsM es)[i].1:=congrArg Prod.fst hm
 have ht:=hw.tm _ (List.getElem_mem hi)
 have hn:=hw.nr _ (List.getElem_mem hi)
 unfold vTm at ht
 refine ⟨?_,by rw [h.b16,h.b0,hb]; omega,by rw [h.b16,h.b0,hb]; omega,fun k hk => ?_⟩
 . unfold bnI at hb; omega
 . subst hk
   rw [hm,h.mks k (by omega)]
   exact List.pairwise_iff_getElem.1 hw.ok.so k (k+1) _ _ (by omega)
theorem ImgAt.list {X:Nat->BitVec 8} (h:ImgAt es sk lm cl fe X):lkX X (cntI X)=lsM es:=by
 rw [h.cnt]
 refine List.ext_getElem (by rw [qy3]) fun i h1 h2 => ?_
 rw [← h.mks i h2]
 simp [lkX]
theorem q8r (hw:ChW es c sk lm cl fe):ChW (esX (imX es sk lm cl fe) (cntI (imX es sk lm cl fe))) (cntI (imX es sk lm cl fe)) sk lm cl fe/\lsM (esX (imX es sk lm cl fe) (cntI (imX es sk lm cl fe)))=lsM es:=by
 have h:=qou hw
 obtain ⟨h1,h2⟩:=img_w (h.head hw) (h.ents hw)
 rw [h.b0,h.b8,h.b16,h.b24,show fe+1 - 1=fe by omega] at h1
 exact ⟨h1,h2.trans h.list⟩
theorem q90 (hw:ChW es c sk lm cl fe):¬ qnu (imX es sk lm cl fe) (40+40 * es.length)/\¬ qfq (imX es sk lm cl fe) (40+40 * es.length)/\HeadOK (imX es sk lm cl fe)/\qeh (imX es sk lm cl fe):=by
 have h:=qou hw
 have hc:=h.cnt
 have hl:=hw.len
 refine ⟨?_,?_,h.head hw,h.ents hw⟩
 . rintro (h' | h')
   . omega
   . omega
 . unfold qfq
   omega
end
end
noncomputable section
open Go.Sim
open Go.Proofs
variable {α:Type}
set_option maxRecDepth 1000000
section
variable {f:HashF} {es:List MapEntry} {c:Nat} {sk lm cl fe t now:Int} {b:BitVec 8}
theorem qhy (hw:ChW es c sk lm cl fe):(D0 es c sk lm cl fe).u now=(lsM es).filter (yng sk (clk now cl)):=q92 hw.ok now
theorem qa1 (hw:ChW es c sk lm cl fe) (hv:vTm t/\vTm now):ChW (pM f t now b (D0 es c sk lm cl fe)) (pC f t now b (D0 es c sk lm cl fe)) sk lm (clk now cl) fe /\
  lsM (pM f t now b (D0 es c sk lm cl fe))=prL ((D0 es c sk lm cl fe).e (xK f t b) now) (xK f t b) ((D0 es c sk lm cl fe).u now):=by
 have hu:=hw.use hv.2
 unfold pM pC
 generalize hE:(D0 es c sk lm cl fe).e (xK f t b) now=e
 have hk:hasK (esN es sk cl now) (keyM (xK f t b))=cB (xK f t b∈lsM (esN es sk cl now)):=hu.ok.hasB _
 have same:e≠0->ChW (prM e (xK f t b) (esN es sk cl now) c) (prC e c) sk lm (clk now cl) fe/\lsM (prM e (xK f t b) (esN es sk cl now) c)=prL e (xK f t b) (lsM (esN es sk cl now)):=fun h=>by
  have hz:isZ e=false:=by
   unfold isZ
   cases h':eqI e 0 with
   | false=>rfl
   | true=>exact absurd (by rcases e with (_ | _) | _ <;> first | rfl | cases h') h
  unfold prM prC prL
  rw [hz]
  exact ⟨hu,rfl⟩
 show ChW (prM e (xK f t b) (esN es sk cl now) c) (prC e c) sk lm (clk now cl) fe/\lsM (prM e (xK f t b) (esN es sk cl now) c)=prL e (xK f t b) (lsM (esN es sk cl now))
 have hE:prE sk lm (clk now cl) fe (xK f t b) (lsM (esN es sk cl now))=e:=hE
 rcases qfp sk lm (clk now cl) fe (xK f t b) (lsM (esN es sk cl now)) with ⟨_,h⟩ | ⟨_,_,h⟩ | ⟨_,_,_,h⟩ | ⟨_,_,_,_,h⟩ | ⟨h1,h2,h3,h4,h⟩
 . exact same (by rw [← hE,h]; omega)
 . exact same (by rw [← hE,h]; omega)
 . exact same (by rw [← hE,h]; omega)
 . exact same (by rw [← hE,h]; omega)
 . rw [hE] at h
   subst h
   have hn:hasK (esN es sk cl now) (keyM (xK f t b))=false:=by rw [hk]; exact qoa h3
   have hl:=hu.len
   exact ⟨hu.pres hn hv.1 (by omega) (by omega) (by omega),qa3 hu.ok hn⟩
theorem q2d {nm mm:Nat} (h:ChW es c sk lm cl fe) (hl:lsM es=[]):agW (doC es c sk lm cl fe nm mm) (doRN sk lm cl fe):=by
 refine ⟨h,⟨fun h=>(by cases h),?_⟩,hl,rfl,rfl,rfl,rfl⟩
 have:=h.ls
 rw [hl] at this
 exact this
theorem qsi {nm mm k:Nat} {l:List Mk} (h:ChW es c sk lm cl fe) (hl:lsM es=l):agW (doC es c sk lm cl fe nm mm) (doRL sk lm fe cl k l):=by
 subst hl
 have e:(doRL sk lm fe cl k (lsM es)).l=lsM es:=(que (lsM es)).2
 refine ⟨h,⟨fun _=>⟨Nat.le_refl _,(que (lsM es)).1⟩,?_⟩,e.symm,rfl,rfl,rfl,rfl⟩
 show LsW (doRL sk lm fe cl k (lsM es)).l sk lm cl fe
 rw [e]; exact h.ls
theorem qvn {nm mm k:Nat} (h:ChW es c sk lm cl fe) {l:List Mk} (hl:lsM es=l):agW (doC es c sk lm cl fe nm mm) (doRR sk lm cl fe (rowM l) l.length k):=qsi h hl
theorem rr_u {k:Nat} (l:List Mk) (now:Int):(doRR sk lm cl fe (rowM l) l.length k).u now=l.filter (yng sk (clk now cl)):=by
 show (doRR sk lm cl fe (rowM l) l.length k).l.filter _=_
 rw [show (doRR sk lm cl fe (rowM l) l.length k).l=l from (que l).2]; rfl
end
end
noncomputable section
open Go.Sim
open Go.Proofs
variable {α:Type}
set_option maxRecDepth 1000000
theorem qvv:CfgOK (qgq shaG):=qzd (by
 intro y hy
 rcases List.mem_cons.1 hy with rfl | hy
 . exact dgOK
 rcases List.mem_cons.1 hy with rfl | hy
 . show SumAt _ _ _ (qlu (tabF shaG) _)
   rw [qw3]; exact q66
 rcases List.mem_cons.1 hy with rfl | hy
 . exact prOK2 _
 rcases List.mem_cons.1 hy with rfl | hy
 . exact j5k _
 rcases List.mem_cons.1 hy with rfl | hy
 . exact ueOK _
 rcases List.mem_cons.1 hy with rfl | hy
 . exact j9e _
 rcases List.mem_cons.1 hy with rfl | hy
 . exact feOK _
 rcases List.mem_cons.1 hy with rfl | hy
 . exact fefOK _
 rcases List.mem_cons.1 hy with rfl | hy
 . exact j8e _
 rcases List.mem_cons.1 hy with rfl | hy
 . exact loOK _
 rcases List.mem_cons.1 hy with rfl | hy
 . exact cpOK _
 . obtain rfl:=List.mem_singleton.1 hy
   exact agOK _)
section
variable (f:HashF) (d:ChD) (w t now:Int) (b:BitVec 8)
def ChD.d0:ChD:=D0 d.es d.c d.sk.den d.lm.den d.cl.den d.fe.den
def le4 (w:Int):Bool:=cB (w<=4)
def oV (w t now:Int):Bool:=boolC (le4 w) (vvT t now) (cB (vTm now))
def oF:Int:=boolC (cB (w=6)) (clk now d.cl.den+d.sk.den) d.fe.den
def oM:List MapEntry:=boolC (le4 w) (pM f t now b d.d0) (d.d0.esN now)
def oC:Nat:=boolC (le4 w) (pC f t now b d.d0) d.c
def oL:List Mk:=boolC (le4 w) (prL (d.d0.e (xK f t b) now) (xK f t b) (d.d0.u now)) (d.d0.u now)
def zK:Int:=boolC (cB (vTm now)) (clk now d.cl.den) d.cl.den
def zF:Int:=boolC (cB (vTm now)) (clk now d.cl.den+d.sk.den) d.fe.den
def zM:List MapEntry:=(pD d.sk.den d.lm.den (zF d now) (boolC (cB (vTm now)) (d.d0.esN now) d.es) d.c (zK d now)).esN 1099511627776
def qsj (p:Nat) (v:SV):SV:=.tuple [.ptr ⟨p,.lit 0⟩,v,.bool (.lit true)]
def qzh (k fe:Int) (es:List MapEntry) (c:Nat):List (Nat × SO):=q5t d.nm d.mm d.sk.den d.lm.den k fe es c
def q96 (L:SV) (base:Nat):R SumRes :=
 .fork (cB (0<=w/\w<=6))
  (.fork (oV w t now)
   (.fork (oL f d w t now b).isEmpty (.ok ⟨qsj d.nm (rfA d.sk.den d.lm.den (clk now d.cl.den) (oF d w now) .nilSlice),qzh d (clk now d.cl.den) (oF d w now) (oM f d w t now b) (oC f d w t now b),[]⟩)
    (.ok ⟨qsj d.nm (rfA d.sk.den d.lm.den (clk now d.cl.den) (oF d w now) (rfL base (oL f d w t now b).length)),qzh d (clk now d.cl.den) (oF d w now) (oM f d w t now b) (oC f d w t now b),[rfR (rowM (oL f d w t now b)) (oL f d w t now b).length]⟩))
   (.ok ⟨qsj d.nm (rfA d.sk.den d.lm.den d.cl.den d.fe.den L),qzh d d.cl.den d.fe.den d.es d.c,[]⟩))
  (.fork (cB (w=7)) (.ok ⟨qsj base (rfA d.sk.den d.lm.den d.cl.den d.fe.den L),qzh d d.cl.den d.fe.den d.es d.c,[chO (base+1) d.sk.den d.lm.den d.cl.den d.fe.den,.obj (.amap kMk uMk (esX d.x (cntI d.x)) (cntI d.x))]⟩)
   (.ok ⟨qsj base (rfA d.sk.den d.lm.den d.cl.den d.fe.den L),qzh d (clk 1099511627776 (zK d now)) (zF d now) (zM d now) d.c,[chO (base+1) d.sk.den d.lm.den d.cl.den d.fe.den,.obj (.amap kMk uMk d.es d.c)]⟩))
end
def acV (v:SV) (g:Int->Int->Int->BitVec 8->R α):R α:=match v with
 | .agg [.int .i64 w,.int .i64 t,.int .i64 n,.int .u8 (.b8 b)]=>g w.den t.den n.den b
 | _=>.stuck 7921
theorem jki {v:SV} {g:Int->Int->Int->BitVec 8->R α} {φ:α->Prop} (h:∀ w t n b,v.Imp (acA w t n b)->(g w t n b).Sat φ):(acV v g).Sat φ:=by
 unfold acV
 split
 . exact h _ _ _ _ (qah (qba (qna rfl) (qba (qna rfl) (qba (qna rfl) (qba (.refl _) qwa)))))
 . trivial
def doSm (f:HashF):Summ:=fun args H base=>q0p args fun p v a=>chV H p fun d=>rfV H v fun D=>acV a fun w t now b=>shaT H (boolC (qyc d.nm) (boolC (qyc d.mm) (boolC (boolC D.nil true (qyc D.nm)) (.need (d.w/\D.w/\qau d D) (q96 f d w t now b D.L base)) (.stuck 7924)) (.stuck 7923)) (.stuck 7922))
theorem qpu {H:List SO} (hT:ShaT H) {names:List Nat} {ents:List SO} {args:List SV} (h:EntsQ (shaI names ents args).big (shaI names ents args).known H names ents):EntsQ (shaI names ents args).big (shaI names ents args).known H (shaI names ents args).names (shaI names ents args).ents:=by
 have q:∀ {g:Nat->Nat} {E:SO} {n:Nat},(∃ e',H[n]? = some e'/\Taken g E e')->∃ e',H[n]? = some e'/\TakenQ g E e':=fun ⟨e,h1,h2⟩=>⟨e,h1,h2.q⟩
 exact ⟨⟨q (hT.s0 _),SO.CUses.q (q5d _ _ _)⟩,⟨q (hT.s1 _),SO.CUses.q (q5d _ _ _)⟩,⟨q (hT.s2 _ rfl),SO.CUses.q (show SV.usesL _ _=true from rfl)⟩,⟨q (hT.s3 _),SO.CUses.q (q5d _ _ _)⟩,h⟩
theorem qax (d:ChD) (k:Nat) {f:Nat->Nat} (h:f k=d.mm):TakenQ f (chO k d.sk.den d.lm.den d.cl.den d.fe.den) (.own (.lst [.int .i64 d.sk,.int .i64 d.lm,.int .i64 d.cl,.int .i64 d.fe,.map d.mm]) true 68):=by
 refine ⟨_,rfl,fun β vs hv => ?_⟩
 have:SV.renL f (chC k d.sk.den d.lm.den d.cl.den d.fe.den)=chC d.mm d.sk.den d.lm.den d.cl.den d.fe.den:=by
  show [_,_,_,_,SV.map (f k)]=_
  rw [h]; rfl
 show SV.denL β (SV.renL f _)=some vs
 rw [this]
 exact qba (qna rfl) (qba (qna rfl) (qba (qna rfl) (qba (qna rfl) (qba (.refl _) qwa)))) _ _ hv
theorem nd6 {x y:Nat} (h:qyc x=true) (h':qyc y=true) (hn:x≠y):[0,1,2,3,x,y].Nodup:=by
 have:=qae h
 have:=qae h'
 simp only [List.nodup_cons,List.mem_cons,List.not_mem_nil,or_false,not_or,not_false_eq_true,List.nodup_nil,and_true]; omega
theorem nd7 {x y z:Nat} (h:qyc x=true) (h':qyc y=true) (h2:qyc z=true) (hn:x≠y) (hn2:x≠z) (hn3:y≠z):[0,1,2,3,x,y,z].Nodup:=by
 have:=qae h
 have:=qae h'
 have:=qae h2
 simp only [List.nodup_cons,List.mem_cons,List.not_mem_nil,or_false,not_or,not_false_eq_true,List.nodup_nil,and_true]; omega
section
variable (d:ChD) (D:RfD) (w t now:Int) (b:BitVec 8)
def doEn:List SO:=[chO 5 d.sk.den d.lm.den d.cl.den d.fe.den,.obj (.amap kMk uMk d.es d.c)]
def iN:Ifc:=shaI [d.nm,d.mm] (doEn d) [.ptr ⟨4,.lit 0⟩,rfA d.sk.den d.lm.den d.cl.den d.fe.den .nilSlice,acA w t now b]
def iR:Ifc:=shaI [d.nm,d.mm,D.nm] (app (doEn d) [rfW (rowM (lsM d.es)) (lsM d.es).length]) [.ptr ⟨4,.lit 0⟩,rfA d.sk.den d.lm.den d.cl.den d.fe.den (rfL 6 (lsM d.es).length),acA w t now b]
end
section
variable {d:ChD} {D:RfD} {w t now:Int} {b:BitVec 8} {H:List SO}
theorem jli {p:SV} (hT:ShaT H) (hd:ChIn H p d) (h1:qyc d.nm=true) (h2:qyc d.mm=true):(iN d w t now b).FitsQ H :=
 Ifc.fitsQ (nd6 h1 h2 hd.ne) rfl (qpu hT ⟨⟨⟨_,hd.cell,qax d 5 rfl⟩,rfl⟩,⟨⟨_,hd.map,_,rfl,fun _ _ h=>h⟩,rfl⟩,trivial⟩)
theorem jmi {p v:SV} (hT:ShaT H) (hd:ChIn H p d) (hD:RfIn H v D) (hn:D.nil=false) (hW:D.w) (hl:lsM d.es=D.l) (h1:qyc d.nm=true) (h2:qyc d.mm=true) (h3:qyc D.nm=true):(iR d D w t now b).FitsQ H:=by
 obtain ⟨er,her,hor⟩:=hD.row hn
 obtain ⟨r1,r2⟩:=hW.row hn
 have hne1:D.nm≠d.nm:=fun e=>by
  rw [e,hd.cell] at her
  cases her
  rcases hor with h | ⟨_,_,h⟩ <;> cases h
 have hne2:D.nm≠d.mm:=fun e=>by
  rw [e,hd.map] at her
  cases her
  rcases hor with h | ⟨_,_,h⟩ <;> cases h
 have hlen:(lsM d.es).length=D.n.den:=by rw [hl]; exact RfD.len
 refine Ifc.fitsQ (nd7 h1 h2 h3 hd.ne (Ne.symm hne1) (Ne.symm hne2)) rfl (qpu hT ⟨⟨⟨_,hd.cell,qax d 5 rfl⟩,rfl⟩,⟨⟨_,hd.map,_,rfl,fun _ _ h=>h⟩,rfl⟩,⟨⟨_,her,_,hor,fun γ us ⟨g1,g2⟩=>⟨(lsM d.es).length * 33,?_,fun i x hx => ?_⟩⟩,trivial⟩,trivial⟩)
 . rw [List.length_take]; omega
 . have hi:i<(lsM d.es).length * 33:=by
    have:=(List.getElem?_eq_some_iff.1 hx).1
    rw [List.length_take] at this; omega
   rw [List.getElem?_take,if_pos hi] at hx
   rw [g2 i x hx,hl]
   exact q1j r2 i (by omega)
theorem jyl {v:SV} (hD:RfIn H v D) (hn:D.nil=true) (hs:qau d D):v.Imp (rfA d.sk.den d.lm.den d.cl.den d.fe.den .nilSlice):=by
 obtain ⟨_,e2,e3,e4,e5⟩:=hs
 have:=(q7l hD hn).1
 rw [← e2,← e3,← e4,← e5]; exact this
theorem jzl {v:SV} (hD:RfIn H v D) (hn:D.nil=false) (hs:qau d D):v.Imp (rfA d.sk.den d.lm.den d.cl.den d.fe.den (.slice ⟨D.nm,.lit 0⟩ (.sym (lsM d.es).length) (.rest D.nm 0))):=by
 obtain ⟨e1,e2,e3,e4,e5⟩:=hs
 have hlen:(lsM d.es).length=D.n.den:=by rw [e1]; exact RfD.len
 rw [hD.val,← e2,← e3,← e4,← e5]
 refine q7t ?_
 unfold RfD.L
 rw [hn]
 exact q7c hlen.symm
end
theorem qwv {I:Ifc} {base:Nat} {keep:List Nat} {H2:List SO} {d:ChD} {k fe:Int} {es:List MapEntry} {c:Nat} (ho:qwc I.ents 0=[4,5]) (hb4:I.big 4=d.nm) (hb5:I.big 5=d.mm) (hs:I.seen keep 5=true) (hu:I.out base keep 5=d.mm) (h4:H2[4]? = some (chO 5 d.sk.den d.lm.den k fe)) (h5:H2[5]? = some (.obj (.amap kMk uMk es c))) :
  SetsQ I.big (I.seen keep) (I.out base keep) H2 (qwc I.ents 0) (qzh d k fe es c):=by
 rw [ho]
 refine ⟨⟨hb4.symm,.inl ⟨_,_,_,_,h4,?_,?_,rfl⟩⟩,⟨hb5.symm,.inr ⟨_,_,h5,rfl,fun _ _ h=>h,rfl⟩⟩,trivial⟩
 . show (true && (true && (true && (true && (I.seen keep 5 && true)))))=true
   rw [hs]; rfl
 . show Cells.Imp (.lst [_,_,_,_,SV.map (I.out base keep 5)]) _
   rw [hu]; exact .refl _
theorem qxv {I:Ifc} {base:Nat} {keep:List Nat} {p q:Nat} {v v':SV} (hp:I.out base keep p=q) (hv:(v.ren (I.out base keep)).Imp v'):((SV.tuple [.ptr ⟨p,.lit 0⟩,v,.bool (.lit true)]).ren (I.out base keep)).Imp (qsj q v'):=by
 show SV.Imp (.tuple [.ptr ⟨I.out base keep p,.lit 0⟩,v.ren (I.out base keep),.bool (.lit true)]) _
 rw [hp]
 exact q8l (qba (.refl _) (qba hv (qba (.refl _) qwa)))
end
noncomputable section
open Go.Sim
open Go.Proofs
variable {α:Type}
set_option maxRecDepth 1000000
structure DoI (I:Ifc) (d:ChD):Prop where
 own:qwc I.ents 0=[4,5]
 b4:I.big 4=d.nm
 b5:I.big 5=d.mm
 k4:I.known 4=true
 k5:I.known 5=true
 len:I.names.length<=7
theorem DoI.out {I:Ifc} {d:ChD} (h:DoI I d) (base:Nat) (keep:List Nat):I.out base keep 4=d.nm/\I.out base keep 5=d.mm/\I.seen keep 4=true/\I.seen keep 5=true:=by
 unfold Ifc.out Ifc.seen
 rw [h.k4,h.k5]
 exact ⟨h.b4,h.b5,rfl,rfl⟩
theorem iN_ok (d:ChD) (w t now:Int) (b:BitVec 8):DoI (iN d w t now b) d:=⟨rfl,rfl,rfl,rfl,rfl,by show 6<=7; omega⟩
theorem iR_ok (d:ChD) (D:RfD) (w t now:Int) (b:BitVec 8):DoI (iR d D w t now b) d:=⟨rfl,rfl,rfl,rfl,rfl,by show 7<=7; omega⟩
theorem out2 {I:Ifc} {base nm mm:Nat} (h:I.names.length<=nm) (h':I.names.length<=mm) (hne:nm≠mm):I.out base [nm,mm] nm=base/\I.out base [nm,mm] mm=base+1/\I.seen [nm,mm] nm=true/\I.seen [nm,mm] mm=true:=by
 have hk:∀ n,I.names.length<=n->I.known n=false:=fun n hn=>by
  unfold Ifc.known
  rw [qia]
  cases hb:Nat.blt n I.names.length with
  | false=>rfl
  | true=>have:n<I.names.length:=Nat.le_of_ble_eq_true hb; omega
 have hq:Nat.beq nm mm=false:=by
  cases hb:Nat.beq nm mm with
  | false=>rfl
  | true=>exact absurd (Nat.eq_of_beq_eq_true hb) hne
 unfold Ifc.out Ifc.seen
 rw [hk nm h,hk mm h']
 refine ⟨?_,?_,?_,?_⟩
 . show base+boolC (Nat.beq nm nm) 0 _=base
   rw [Nat.beq_refl]; rfl
 . show base+boolC (Nat.beq nm mm) 0 (Nat.succ (boolC (Nat.beq mm mm) 0 (Nat.succ 0)))=base+1
   rw [hq,Nat.beq_refl]; rfl
 . show boolC (Nat.beq nm nm) true _=true
   rw [Nat.beq_refl]; rfl
 . show boolC (Nat.beq nm mm) true (boolC (Nat.beq mm mm) true false)=true
   rw [hq,Nat.beq_refl]; rfl
section
variable {H:List SO} {O:Nat->Prop} {w0 wd:World} {β:Val} {base:Nat} {vs:List Value} {d:ChD} {I:Ifc} {ds:List Bool} {ps:List Prop} {v v':SV} {k fe:Int} {es:List MapEntry} {c:Nat}
theorem qaf (hH:HeapRel0 Tryd.prog O w0 β H wd) (hgl:∀ g j,qhc g=some j->I.known j=true/\∃ l,β (I.big j)=some l/\l.blk=g/\l.off=0) (hA:SV.denL β (SV.renL I.big I.args)=some vs) (hF:I.FitsQ H) (hI:DoI I d)
  (hr:outO [4,5] (qea (qgq shaG) 20000 20 I.args I.ents) ds=(ps,doV v (doE d.sk.den d.lm.den k fe es c []))) (hp:∀ p∈ps,p) (hv:(v.ren (I.out base [])).Imp v') (hu:v.uses (I.seen [])=true) :
  SumSem Tryd.prog H β wd base 20 vs ⟨qsj d.nm v',qzh d k fe es c,[]⟩:=by
 obtain ⟨o4,o5,s4,s5⟩:=hI.out base []
 refine qyb qvv 20000 hH I hgl hA hF [] (by simp) (by simp) (qya hr hp fun H2 hH2 => ?_)
 obtain ⟨h4,h5⟩:=List.cons.inj (show [H2[4]?,H2[5]?]=[some (chO 5 d.sk.den d.lm.den k fe),some (.obj (.amap kMk uMk es c))] from hH2)
 refine ⟨qxv o4 hv,?_,qwv hI.own hI.b4 hI.b5 s5 o5 h4 (List.cons.inj h5).1,trivial⟩
 show (I.seen [] 4 && (v.uses _ && (true && true)))=true
 rw [s4,hu]; rfl
theorem qhq (hH:HeapRel0 Tryd.prog O w0 β H wd) (hgl:∀ g j,qhc g=some j->I.known j=true/\∃ l,β (I.big j)=some l/\l.blk=g/\l.off=0) (hA:SV.denL β (SV.renL I.big I.args)=some vs) (hF:I.FitsQ H) (hI:DoI I d) {q:Nat} (hq:7<=q) {l:List Mk}
  (hr:outO [4,5,q] (qea (qgq shaG) 20000 20 I.args I.ents) ds=(ps,doV (rfA d.sk.den d.lm.den k fe (rfL q l.length)) (doE d.sk.den d.lm.den k fe es c [some (rfR (rowM l) l.length)]))) (hp:∀ p∈ps,p) :
  SumSem Tryd.prog H β wd base 20 vs ⟨qsj d.nm (rfA d.sk.den d.lm.den k fe (rfL base l.length)),qzh d k fe es c,[rfR (rowM l) l.length]⟩:=by
 obtain ⟨o4,o5,s4,s5⟩:=hI.out base [q]
 have hlen:=hI.len
 have oq:I.out base [q] q=base:=out1 (by omega)
 refine qyb qvv 20000 hH I hgl hA hF [q] (by simp; omega) (by simp) (qya hr hp fun H2 hH2 => ?_)
 obtain ⟨h4,h5⟩:=List.cons.inj (show [H2[4]?,H2[5]?,H2[q]?]=[some (chO 5 d.sk.den d.lm.den k fe),some (.obj (.amap kMk uMk es c)),some (rfR (rowM l) l.length)] from hH2)
 obtain ⟨h5,h6⟩:=List.cons.inj h5
 refine ⟨qxv o4 ?_,?_,qwv hI.own hI.b4 hI.b5 s5 o5 h4 h5,⟨.inl ⟨_,_,_,_,(List.cons.inj h6).1,trivial,fun _ _ h=>h,rfl⟩,trivial⟩⟩
 . show SV.Imp (rfA d.sk.den d.lm.den k fe (.slice ⟨I.out base [q] q,.lit 0⟩ (.sym l.length) (.rest (I.out base [q] q) 0))) _
   rw [oq]; exact .refl _
 . show (I.seen [q] 4 && ((true && (true && (true && (true && ((I.seen [q] q && I.seen [q] q) && true))))) && (true && true)))=true
   rw [s4,q2t I q]; rfl
theorem q4j (hH:HeapRel0 Tryd.prog O w0 β H wd) (hgl:∀ g j,qhc g=some j->I.known j=true/\∃ l,β (I.big j)=some l/\l.blk=g/\l.off=0) (hA:SV.denL β (SV.renL I.big I.args)=some vs) (hF:I.FitsQ H) (hI:DoI I d) {q:Nat} (hq:7<=q) {cl2 fe2:Int} {es2:List MapEntry} {c2:Nat}
  (hr:outO [4,5,q,q+1] (qea (qgq shaG) 20000 20 I.args I.ents) ds=(ps,some (.tuple [.ptr ⟨q,.lit 0⟩,v,.bool (.lit true)],doE d.sk.den d.lm.den k fe es c [some (chO (q+1) d.sk.den d.lm.den cl2 fe2),some (.obj (.amap kMk uMk es2 c2))]))) (hp:∀ p∈ps,p)
  (hv:(v.ren (I.out base [q,q+1])).Imp v') (hu:v.uses (I.seen [q,q+1])=true) :
  SumSem Tryd.prog H β wd base 20 vs ⟨qsj base v',qzh d k fe es c,[chO (base+1) d.sk.den d.lm.den cl2 fe2,.obj (.amap kMk uMk es2 c2)]⟩:=by
 obtain ⟨o4,o5,s4,s5⟩:=hI.out base [q,q+1]
 have hlen:=hI.len
 obtain ⟨oq,oq1,sq,sq1⟩:=out2 (I:=I) (base:=base) (nm:=q) (mm:=q+1) (by omega) (by omega) (by omega)
 refine qyb qvv 20000 hH I hgl hA hF [q,q+1] (by simp; omega) (by simp) (qya hr hp fun H2 hH2 => ?_)
 obtain ⟨h4,h5⟩:=List.cons.inj (show [H2[4]?,H2[5]?,H2[q]?,H2[q+1]?]=[some (chO 5 d.sk.den d.lm.den k fe),some (.obj (.amap kMk uMk es c)),some (chO (q+1) d.sk.den d.lm.den cl2 fe2),some (.obj (.amap kMk uMk es2 c2))] from hH2)
 obtain ⟨h5,h6⟩:=List.cons.inj h5
 obtain ⟨h6,h7⟩:=List.cons.inj h6
 refine ⟨qxv oq hv,?_,qwv hI.own hI.b4 hI.b5 s5 o5 h4 h5,⟨.inl ⟨_,_,_,_,h6,?_,?_,rfl⟩,.inr ⟨_,_,(List.cons.inj h7).1,rfl,fun _ _ h=>h,rfl⟩,trivial⟩⟩
 . show (I.seen [q,q+1] q && (v.uses _ && (true && true)))=true
   rw [sq,hu]; rfl
 . show (true && (true && (true && (true && (I.seen [q,q+1] (q+1) && true)))))=true
   rw [sq1]; rfl
 . show Cells.Imp (.lst [_,_,_,_,SV.map (I.out base [q,q+1] (q+1))]) _
   rw [oq1]; exact .refl _
end
end
end Go.Proofs.YthkgcljngalafaaDoor.Aes
