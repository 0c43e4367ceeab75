/-
  Texts behind one another: the symbolic simulator and what it is told of the program.
-/
import Derived.Test.YthkgcljngalafaaDoorPr6
import Derived.Shelf.SlMaps.Clone
import Derived.Ground.SlmcProg
namespace Go.Proofs.YthkgcljngalafaaDoor.Aes
noncomputable section
open Go.Sim
open Go.Proofs
variable {α:Type}
set_option maxRecDepth 1000000
def cfgU:Cfg:=qvh (qjc [(37,usSm)])
theorem jeg:CfgOK cfgU:=q8d (all1 usOK)
def dgS (d:Dg):SV:=.agg (mapN (fun j=>.int .u8 (.b8 (d.at j))) (qba 32 0))
def keyD (t:Int) (d:Dg):Value:=.agg (.int .i64 t::mapN (fun j=>.int .u8 ((d.at j).toNat:Int)) (qba 32 0)).toArray
section
variable (es:List MapEntry) (c:Nat) (sk lm cl fe:Int) (d:Dg) (t now:Int)
def prT:Tree:=qka cfgU 20000 16 [.ptr ⟨0,.lit 0⟩,dgS d,.int .i64 (.sym t),.int .i64 (.sym now)] [chO 1 sk lm cl fe,.obj (.amap kMk uMk es c)]
def ueT:Tree:=qka cfgU 20000 13 [.ptr ⟨0,.lit 0⟩,.int .i64 (.sym now)] [chO 1 sk lm cl fe,.obj (.amap kMk uMk es c)]
def feT:Tree:=qka cfgU 20000 15 [.ptr ⟨0,.lit 0⟩,.int .i64 (.sym now)] [chO 1 sk lm cl fe,.obj (.amap kMk uMk es c)]
def chR (e:Int) (sk lm cl fe:Int) (es:List MapEntry) (c:Nat):Option (SV × List (Option SO)):=some (.int .i64 (.lit e),[some (chO 1 sk lm cl fe),some (.obj (.amap kMk uMk es c))])
def lm0:Prop:=(lm == 0)=false
def tLo (t:Int):Prop:=decide (t>=0)=false
def tHi (t:Int) (q:List Prop):List Prop:=(decide (t>=0)=true)::q
def tMx (t:Int):Prop:=(!decide (t<=1099511627776))=true
def tOk (t:Int) (q:List Prop):List Prop:=(decide (t>=0)=true)::((!decide (t<=1099511627776))=false)::q
def usN:Prop:=ChOK es c/\∀ m∈lsM es,qsa (m.1+sk)
def prQ (q:List Prop):List Prop:=lm0 lm::tOk t (tOk now (usN es c sk::qsa (clk now cl - sk)::q))
def prR (q:List Prop):List Prop:=prQ es c sk lm cl t now ((decide (t<clk now cl - sk)=false)::qsa (clk now cl+sk)::q)
def esN:List MapEntry:=esU es sk (clk now cl)
theorem pr_a1:outO [0,1] (prT es c sk lm cl fe d t now) [false,false,false,false]=(lm0 lm::repN (tLo t) 3,chR 2 sk lm cl fe es c):=by kernel_rfl
theorem pr_a2:outO [0,1] (prT es c sk lm cl fe d t now) [false,true,true,true,true,true]=(lm0 lm::tHi t (repN (tMx t) 4),chR 2 sk lm cl fe es c):=by kernel_rfl
theorem pr_b1:outO [0,1] (prT es c sk lm cl fe d t now) [false,true,false,false,false,false]=(lm0 lm::tOk t (repN (tLo now) 3),chR 2 sk lm cl fe es c):=by kernel_rfl
theorem pr_b2:outO [0,1] (prT es c sk lm cl fe d t now) [false,true,false,true,true]=(lm0 lm::tOk t (tHi now [tMx now]),chR 2 sk lm cl fe es c):=by kernel_rfl
theorem pr_r1:outO [0,1] (prT es c sk lm cl fe d t now) [false,true,false,true,false,true,true,true,true,true,true,true,true,true,true,true,true]=(prQ es c sk lm cl t now (repN (decide (t<clk now cl - sk)=true) 12),chR 3 sk lm (clk now cl) fe (esN es sk cl now) c):=by kernel_rfl
theorem pr_r2:outO [0,1] (prT es c sk lm cl fe d t now) [false,true,false,true,false,false,true]=(prR es c sk lm cl t now [decide (t > clk now cl+sk)=true],chR 3 sk lm (clk now cl) fe (esN es sk cl now) c):=by kernel_rfl
theorem pr_st:outO [0,1] (prT es c sk lm cl fe d t now) [false,true,false,true,false,false,false,true]=(prR es c sk lm cl t now [decide (t > clk now cl+sk)=false,decide (t<=fe)=true],chR 8 sk lm (clk now cl) fe (esN es sk cl now) c):=by kernel_rfl
theorem pr_bu:outO [0,1] (prT es c sk lm cl fe d t now) [false,true,false,true,false,false,false,false,true]=(prR es c sk lm cl t now [decide (t > clk now cl+sk)=false,decide (t<=fe)=false,hasK (esN es sk cl now) (keyD t d)=true],chR 11 sk lm (clk now cl) fe (esN es sk cl now) c):=by kernel_rfl
theorem pr_fu:outO [0,1] (prT es c sk lm cl fe d t now) [false,true,false,true,false,false,false,false,false,true]=(prR es c sk lm cl t now [decide (t > clk now cl+sk)=false,decide (t<=fe)=false,hasK (esN es sk cl now) (keyD t d)=false,decide (((esN es sk cl now).length:Int)>=lm)=true],chR 7 sk lm (clk now cl) fe (esN es sk cl now) c):=by kernel_rfl
theorem pr_ok:outO [0,1] (prT es c sk lm cl fe d t now) [false,true,false,true,false,false,false,false,false,false,false]=(prR es c sk lm cl t now [decide (t > clk now cl+sk)=false,decide (t<=fe)=false,hasK (esN es sk cl now) (keyD t d)=false,decide (((esN es sk cl now).length:Int)>=lm)=false,hasK (esN es sk cl now) (keyD t d)=false],chR 0 sk lm (clk now cl) fe (insK (esN es sk cl now) c (keyD t d) (.agg #[])) (c+1)):=by kernel_rfl
theorem ue_ok:outO [0,1] (ueT es c sk lm cl fe now) [false,true,false]=(lm0 lm::tOk now [usN es c sk],chR 0 sk lm (clk now cl) fe (esN es sk cl now) c):=by kernel_rfl
theorem ue_a1:outO [0,1] (ueT es c sk lm cl fe now) [false,false,false,false]=(lm0 lm::repN (tLo now) 3,chR 2 sk lm cl fe es c):=by kernel_rfl
theorem ue_a2:outO [0,1] (ueT es c sk lm cl fe now) [false,true,true]=(lm0 lm::tHi now [tMx now],chR 2 sk lm cl fe es c):=by kernel_rfl
theorem fe_a1:outO [0,1] (feT es c sk lm cl fe now) [false,false,false,false]=(lm0 lm::repN (tLo now) 3,chR 2 sk lm cl fe es c):=by kernel_rfl
theorem fe_a2:outO [0,1] (feT es c sk lm cl fe now) [false,true,true]=(lm0 lm::tHi now [tMx now],chR 2 sk lm cl fe es c):=by kernel_rfl
theorem fe_ok:outO [0,1] (feT es c sk lm cl fe now) [false,true,false]=(lm0 lm::tOk now [usN es c sk,qsa (clk now cl+sk)],chR 0 sk lm (clk now cl) (clk now cl+sk) (esN es sk cl now) c):=by kernel_rfl
end
end
noncomputable section
open Go.Sim
open Go.Proofs
variable {α:Type}
set_option maxRecDepth 1000000
def vTm (t:Int):Prop:=0<=t/\t<=1099511627776
structure ChW (es:List MapEntry) (c:Nat) (sk lm cl fe:Int):Prop where
 ok:ChOK es c
 hsk:0<=sk/\sk<=1048576
 hlm:1<=lm/\lm<=65536
 hcl:vTm cl
 hfe : -1<=fe/\fe<=1099511627776+1048576
 tm:∀ m∈lsM es,vTm m.1
 nr:∀ m∈lsM es,cl - sk<=m.1/\m.1<=cl+sk
 sz:((lsM es).length:Int)<=lm
section
variable {es:List MapEntry} {c:Nat} {sk lm cl fe:Int}
theorem ChW.len (h:ChW es c sk lm cl fe):es.length=(lsM es).length:=h.ok.len.symm
theorem jfg {now cl:Int} (h:vTm now) (h':vTm cl):vTm (clk now cl):=by unfold clk; split <;> assumption
theorem qbl (now cl:Int):cl<=clk now cl:=by unfold clk; split <;> omega
theorem qd1 (h:ChOK es c) (now:Int):lsM (esN es sk cl now)=(lsM es).filter (yng sk (clk now cl)):=qdo (h.filter _)
theorem ChW.use (h:ChW es c sk lm cl fe) {now:Int} (hn:vTm now):ChW (esN es sk cl now) c sk lm (clk now cl) fe:=by
 have hl:=qd1 (sk:=sk) (cl:=cl) h.ok now
 have hs:∀ m∈lsM (esN es sk cl now),m∈lsM es/\clk now cl - sk<=m.1:=fun m hm=>by
  rw [hl,List.mem_filter] at hm
  refine ⟨hm.1,?_⟩
  have:=hm.2
  unfold yng at this
  simp at this
  omega
 have h1:=qbl now cl
 refine ⟨?_,h.hsk,h.hlm,jfg hn h.hcl,h.hfe,fun m hm=>h.tm m (hs m hm).1,fun m hm=>⟨(hs m hm).2,?_⟩,?_⟩
 . show MarkOK _ c (lsM _)
   rw [hl]; exact h.ok.filter _
 . have:=(h.nr m (hs m hm).1).2; omega
 . have:=List.length_filter_le (yng sk (clk now cl)) (lsM es)
   have:=h.sz
   rw [hl]; omega
theorem ChW.fence (h:ChW es c sk lm cl fe):ChW es c sk lm cl (cl+sk):=⟨h.ok,h.hsk,h.hlm,h.hcl,by have:=h.hcl; have:=h.hsk; unfold vTm at *; omega,h.tm,h.nr,h.sz⟩
theorem qe1 (h:ChOK es c) {m:Mk} (hn:hasK es (keyM m)=false):lsM (insK es c (keyM m) (.agg #[]))=insM m (lsM es):=qdo (h.ins fun hm=>by rw [h.has.2 hm] at hn; cases hn)
theorem ChW.pres (h:ChW es c sk lm cl fe) {m:Mk} (hn:hasK es (keyM m)=false) (hm:vTm m.1) (h1:cl - sk<=m.1) (h2:m.1<=cl+sk) (hz:(es.length:Int)<lm):ChW (insK es c (keyM m) (.agg #[])) (c+1) sk lm cl fe:=by
 have hl:=qe1 h.ok hn
 have hs:∀ x∈lsM (insK es c (keyM m) (.agg #[])),x=m\/x∈lsM es:=fun x hx=>by
  rw [hl] at hx
  exact List.mem_cons.1 ((qcf m _).mem_iff.1 hx)
 refine ⟨?_,h.hsk,h.hlm,h.hcl,h.hfe,fun x hx => ?_,fun x hx => ?_,?_⟩
 . show MarkOK _ (c+1) (lsM _)
   rw [hl]; exact h.ok.ins fun hm=>by rw [h.ok.has.2 hm] at hn; cases hn
 . rcases hs x hx with rfl | hx
   . exact hm
   . exact h.tm x hx
 . rcases hs x hx with rfl | hx
   . exact ⟨h1,h2⟩
   . exact h.nr x hx
 . rw [hl,(qcf m _).length_eq,List.length_cons]
   have:=h.len
   omega
theorem ChW.usN (h:ChW es c sk lm cl fe):usN es c sk:=⟨h.ok,fun m hm=>by
 have:=h.tm m hm
 have:=h.hsk
 unfold vTm at *
 exact ⟨by omega,by omega⟩⟩
theorem ChW.lm0 (h:ChW es c sk lm cl fe):lm0 lm:=by
 have:=h.hlm
 show (lm == 0)=false
 simp; omega
end
theorem q7t (t:Int) (d:Dg):keyD t d=keyM (t,d):=by
 unfold keyD keyM
 congr 2
def dgV (v:SV):Option Dg:=match v with
 | .agg l=>optC (unb l) none fun xs=>boolC (Nat.beq (lenN xs) 32) (some (dgOf (qya xs))) none
 | _=>none
theorem j2d (d:Dg) (β:Val):SV.denL β (mapN (fun j=>.int .u8 (.b8 (d.at j))) (qba 32 0))=some ((List.range 32).map fun j=>Value.int .u8 ((d.at j).toNat:Int)):=by
 obtain ⟨_,_,_,h4,h5⟩:=denL_cons.1 (q2q (0,d) β)
 cases h5
 exact h4
theorem q49 {v:SV} {d:Dg} (h:dgV v=some d):v.Imp (dgS d):=by
 unfold dgV at h
 split at h
 . rename_i l
   cases hu:unb l with
   | none=>rw [hu] at h; cases h
   | some xs =>
     rw [hu] at h
     have h:boolC (Nat.beq (lenN xs) 32) (some (dgOf (qya xs))) none=some d:=h
     cases hl:Nat.beq (lenN xs) 32 with
     | false=>rw [hl] at h; cases h
     | true =>
       rw [hl] at h
       cases h
       have hl:=Nat.eq_of_beq_eq_true hl
       rw [qga] at hl
       refine q60 fun γ vs hv => ?_
       obtain ⟨h1,h2⟩:=qoe hu hv
       refine (j2d (dgOf (qya xs)) γ).trans (congrArg some ?_)
       refine List.ext_getElem (by simp; omega) fun i g1 g2 => ?_
       have hi:i<32:=by simpa using g1
       have:=h2 i (by omega)
       rw [List.getElem?_eq_getElem g2] at this
       rw [Option.some.inj this]
       simp [qhd _ hi]
 . cases h
def chOk (d:ChD) (e:Int) (cl fe:Int) (es:List MapEntry) (c:Nat):R SumRes:=.ok ⟨.int .i64 (.lit e),qsw d.nm d.mm d.sk.den d.lm.den cl fe es c,[]⟩
def ChD.w (d:ChD):Prop:=ChW d.es d.c d.sk.den d.lm.den d.cl.den d.fe.den
def ChD.esN (d:ChD) (now:Int):List MapEntry:=Go.Proofs.YthkgcljngalafaaDoor.Aes.esN d.es d.sk.den d.cl.den now
def ChD.k (d:ChD) (now:Int):Int:=clk now d.cl.den
def ueSm:Summ:=fun args H _=>qbe args fun p n=>chV H p fun d=>optC (i64V n) (.stuck 7978) fun now =>
 .need d.w (.fork (cB (vTm now.den)) (chOk d 0 (d.k now.den) d.fe.den (d.esN now.den) d.c) (chOk d 2 d.cl.den d.fe.den d.es d.c))
def feSm:Summ:=fun args H _=>qbe args fun p n=>chV H p fun d=>optC (i64V n) (.stuck 7978) fun now =>
 .need d.w (.fork (cB (vTm now.den)) (chOk d 0 (d.k now.den) (d.k now.den+d.sk.den) (d.esN now.den) d.c) (chOk d 2 d.cl.den d.fe.den d.es d.c))
def farP (d:ChD) (t now:Int):Prop:=t<d.k now - d.sk.den\/d.k now+d.sk.den<t
def prOut (d:ChD) (g:Dg) (t now:Int):R SumRes :=
 .fork (cB (vTm t/\vTm now)) (.fork (cB (farP d t now)) (chOk d 3 (d.k now) d.fe.den (d.esN now) d.c) (.fork (cB (t<=d.fe.den)) (chOk d 8 (d.k now) d.fe.den (d.esN now) d.c) (.fork (hasK (d.esN now) (keyM (t,g))) (chOk d 11 (d.k now) d.fe.den (d.esN now) d.c)
  (.fork (cB (d.lm.den<=((d.esN now).length:Int))) (chOk d 7 (d.k now) d.fe.den (d.esN now) d.c) (chOk d 0 (d.k now) d.fe.den (insK (d.esN now) d.c (keyM (t,g)) (.agg #[])) (d.c+1)))))) (chOk d 2 d.cl.den d.fe.den d.es d.c)
theorem qqc {H:List SO} {O:Nat->Prop} {w0 w:World} {β:Val} {base:Nat} {f:FuncId} {vs:List Value} (hH:HeapRel0 Tryd.prog O w0 β H w) {p:SV} {d:ChD} (hd:ChIn H p d) {ar:List SV} (hu:SV.usesL (chI d ar).known ar=true) (ha:SV.denL β (SV.renL (chI d ar).big (chI d ar).args)=some vs)
  {ds:List Bool} {ps:List Prop} {e cl fe:Int} {es:List MapEntry} {c:Nat} (hr:outO [0,1] (qka cfgU 20000 f (.ptr ⟨0,.lit 0⟩::ar) (chE d)) ds=(ps,chR e d.sk.den d.lm.den cl fe es c)) (hp:∀ p∈ps,p):(chOk d e cl fe es c).Sat (SumSem Tryd.prog H β w base f vs) :=
 qsd jeg 20000 hH (chI d ar) (by intro g j hg; cases hg) ha (qwy hd hu) [] (by simp) (by simp) (qpc hr hp fun H2 hH2=>by
  obtain ⟨h0,h1⟩:=List.cons.inj (show [H2[0]?,H2[1]?]=[some (chO 1 d.sk.den d.lm.den cl fe),some (.obj (.amap kMk uMk es c))] from hH2)
  exact ⟨.refl _,rfl,qb1 h0 (List.cons.inj h1).1,trivial⟩)
theorem qbp {t:Int} (h:vTm t) {q:List Prop} (hq:∀ p∈q,p):∀ p∈tOk t q,p :=
 all_cons (decide_eq_true h.1) (all_cons (by rw [decide_eq_true h.2]; rfl) hq)
theorem qtw {t:Int} (h:¬ vTm t):tLo t\/(decide (t>=0)=true/\tMx t):=by
 unfold vTm at h
 by_cases c:0<=t
 . refine .inr ⟨decide_eq_true c,?_⟩
   show (!decide (t<=1099511627776))=true
   rw [decide_eq_false (by omega)]; rfl
 . exact .inl (decide_eq_false c)
theorem ueOK:qob Tryd.prog 13 ueSm:=by
 intro glob O w0 β H w base args vs hH hG ha
 refine q5b fun p n hv=>qap fun d hd=>qia fun now hn => ?_
 rw [hv,hd.ptr,qbf hn] at ha
 intro hw
 have ha:SV.denL β (SV.renL (chI d [.int .i64 (.sym now.den)]).big (chI d [.int .i64 (.sym now.den)]).args)=some vs:=qpa (.refl _) (qpa (q9a rfl) qcd) _ _ ha
 refine ⟨fun hc => ?_,fun hc => ?_⟩
 . have hc:=cBi.1 hc
   exact qqc hH hd rfl ha (ue_ok d.es d.c d.sk.den d.lm.den d.cl.den d.fe.den now.den) (all_cons hw.lm0 (qbp hc (all_cons hw.usN qca)))
 . have hc:¬ vTm now.den:=fun h=>by rw [qsb h] at hc; cases hc
   rcases qtw hc with h | ⟨h,h'⟩
   . exact qqc hH hd rfl ha (ue_a1 d.es d.c d.sk.den d.lm.den d.cl.den d.fe.den now.den) (all_cons hw.lm0 (quc h 3))
   . exact qqc hH hd rfl ha (ue_a2 d.es d.c d.sk.den d.lm.den d.cl.den d.fe.den now.den) (all_cons hw.lm0 (all_cons h (all_cons h' qca)))
theorem feOK:qob Tryd.prog 15 feSm:=by
 intro glob O w0 β H w base args vs hH hG ha
 refine q5b fun p n hv=>qap fun d hd=>qia fun now hn => ?_
 rw [hv,hd.ptr,qbf hn] at ha
 intro hw
 have ha:SV.denL β (SV.renL (chI d [.int .i64 (.sym now.den)]).big (chI d [.int .i64 (.sym now.den)]).args)=some vs:=qpa (.refl _) (qpa (q9a rfl) qcd) _ _ ha
 refine ⟨fun hc => ?_,fun hc => ?_⟩
 . have hc:=cBi.1 hc
   refine qqc hH hd rfl ha (fe_ok d.es d.c d.sk.den d.lm.den d.cl.den d.fe.den now.den) (all_cons hw.lm0 (qbp hc (all_cons hw.usN (all_cons ?_ qca))))
   have:=(hw.use hc).fence.hfe
   exact ⟨by omega,by omega⟩
 . have hc:¬ vTm now.den:=fun h=>by rw [qsb h] at hc; cases hc
   rcases qtw hc with h | ⟨h,h'⟩
   . exact qqc hH hd rfl ha (fe_a1 d.es d.c d.sk.den d.lm.den d.cl.den d.fe.den now.den) (all_cons hw.lm0 (quc h 3))
   . exact qqc hH hd rfl ha (fe_a2 d.es d.c d.sk.den d.lm.den d.cl.den d.fe.den now.den) (all_cons hw.lm0 (all_cons h (all_cons h' qca)))
theorem cB_f {p:Prop} (h:cB p=false):¬ p:=fun c=>by rw [qsb c] at h; cases h
theorem j3d {H:List SO} {O:Nat->Prop} {w0 w:World} {β:Val} {base:Nat} {vs:List Value} (hH:HeapRel0 Tryd.prog O w0 β H w) {d:ChD} {g':SV} {g:Dg} {t now:SI} {p:SV} (hd:ChIn H p d) (hg:dgV g'=some g)
  (ha:SV.denL β [.ptr ⟨d.nm,.lit 0⟩,g',.int .i64 t,.int .i64 now]=some vs) (hw:d.w):(prOut d g t.den now.den).Sat (SumSem Tryd.prog H β w base 16 vs):=by
 have ha:SV.denL β (SV.renL (chI d [dgS g,.int .i64 (.sym t.den),.int .i64 (.sym now.den)]).big (chI d [dgS g,.int .i64 (.sym t.den),.int .i64 (.sym now.den)]).args)=some vs:=qpa (.refl _) (qpa (q49 hg) (qpa (q9a rfl) (qpa (q9a rfl) qcd))) _ _ ha
 have hu:SV.usesL (chI d [dgS g,.int .i64 (.sym t.den),.int .i64 (.sym now.den)]).known [dgS g,.int .i64 (.sym t.den),.int .i64 (.sym now.den)]=true:=by kernel_rfl
 refine ⟨fun hc => ?_,fun hc => ?_⟩
 . obtain ⟨h1,h2⟩:=cBi.1 hc
   have hu2:=hw.use h2
   have hk:=hu2.hcl
   have hsk:=hw.hsk
   have i1:qsa (clk now.den d.cl.den - d.sk.den):=by unfold vTm at hk; exact ⟨by omega,by omega⟩
   have i2:qsa (clk now.den d.cl.den+d.sk.den):=by unfold vTm at hk; exact ⟨by omega,by omega⟩
   have q0:∀ {q:List Prop},(∀ p∈q,p)->∀ p∈prQ d.es d.c d.sk.den d.lm.den d.cl.den t.den now.den q,p:=fun {q} hq=>all_cons hw.lm0 (qbp h1 (qbp h2 (all_cons hw.usN (all_cons i1 hq))))
   refine ⟨fun hf => ?_,fun hf => ?_⟩
   . by_cases h3:t.den<clk now.den d.cl.den - d.sk.den
     . exact qqc hH hd hu ha (pr_r1 d.es d.c d.sk.den d.lm.den d.cl.den d.fe.den g t.den now.den) (q0 (quc (decide_eq_true h3) 12))
     . rcases cBi.1 hf with hf | hf
       . exact absurd hf h3
       . exact qqc hH hd hu ha (pr_r2 d.es d.c d.sk.den d.lm.den d.cl.den d.fe.den g t.den now.den) (q0 (all_cons (decide_eq_false h3) (all_cons i2 (all_cons (decide_eq_true hf) qca))))
   . have hf:=cB_f hf
     have h3:¬ t.den<clk now.den d.cl.den - d.sk.den:=fun h=>hf (.inl h)
     have h4:¬ clk now.den d.cl.den+d.sk.den<t.den:=fun h=>hf (.inr h)
     have q1:∀ {q:List Prop},(∀ p∈q,p)->∀ p∈prR d.es d.c d.sk.den d.lm.den d.cl.den t.den now.den ((decide (t.den > clk now.den d.cl.den+d.sk.den)=false)::q),p:=fun {q} hq=>q0 (all_cons (decide_eq_false h3) (all_cons i2 (all_cons (decide_eq_false h4) hq)))
     refine ⟨fun h5 => ?_,fun h5 => ?_⟩
     . exact qqc hH hd hu ha (pr_st d.es d.c d.sk.den d.lm.den d.cl.den d.fe.den g t.den now.den) (q1 (all_cons (decide_eq_true (cBi.1 h5)) qca))
     . have h5:decide (t.den<=d.fe.den)=false:=decide_eq_false (cB_f h5)
       refine ⟨fun h6 => ?_,fun h6 => ?_⟩
       . rw [← q7t] at h6
         exact qqc hH hd hu ha (pr_bu d.es d.c d.sk.den d.lm.den d.cl.den d.fe.den g t.den now.den) (q1 (all_cons h5 (all_cons h6 qca)))
       . rw [← q7t] at h6
         refine ⟨fun h7 => ?_,fun h7 => ?_⟩
         . exact qqc hH hd hu ha (pr_fu d.es d.c d.sk.den d.lm.den d.cl.den d.fe.den g t.den now.den) (q1 (all_cons h5 (all_cons h6 (all_cons (decide_eq_true (cBi.1 h7)) qca))))
         . rw [← q7t]
           exact qqc hH hd hu ha (pr_ok d.es d.c d.sk.den d.lm.den d.cl.den d.fe.den g t.den now.den) (q1 (all_cons h5 (all_cons h6 (all_cons (decide_eq_false (cB_f h7)) (all_cons h6 qca)))))
 . have hc:=cB_f hc
   by_cases h1:vTm t.den
   . have h2:¬ vTm now.den:=fun h=>hc ⟨h1,h⟩
     rcases qtw h2 with h | ⟨h,h'⟩
     . exact qqc hH hd hu ha (pr_b1 d.es d.c d.sk.den d.lm.den d.cl.den d.fe.den g t.den now.den) (all_cons hw.lm0 (qbp h1 (quc h 3)))
     . exact qqc hH hd hu ha (pr_b2 d.es d.c d.sk.den d.lm.den d.cl.den d.fe.den g t.den now.den) (all_cons hw.lm0 (qbp h1 (all_cons h (all_cons h' qca))))
   . rcases qtw h1 with h | ⟨h,h'⟩
     . exact qqc hH hd hu ha (pr_a1 d.es d.c d.sk.den d.lm.den d.cl.den d.fe.den g t.den now.den) (all_cons hw.lm0 (quc h 3))
     . exact qqc hH hd hu ha (pr_a2 d.es d.c d.sk.den d.lm.den d.cl.den d.fe.den g t.den now.den) (all_cons hw.lm0 (all_cons h (quc h' 4)))
end
noncomputable section
open Go.Sim
open Go.Proofs
variable {α:Type}
set_option maxRecDepth 1000000
section
variable (sk lm:Int)
def nwT:Tree:=qka cfgP0 20000 12 [.int .i64 (.sym sk),.int .i64 (.sym lm)] []
def nwX:Option (SV × List (Option SO)):=some (.tuple [.nilPtr,.int .i64 (.lit 2)],[])
def nwC:SO:=.own (.lst [.int .i64 (.sym sk),.int .i64 (.sym lm),.int .i64 (.lit 0),.int .i64 (.lit (-1)),.map 0]) true 68
theorem nw_1:outO [] (nwT sk lm) [true,true,true]=(repN (decide (sk<0)=true) 3,nwX):=by kernel_rfl
theorem nw_2:outO [] (nwT sk lm) [false,true,true,true]=((decide (sk<0)=false)::repN (decide (sk > 1048576)=true) 3,nwX):=by kernel_rfl
theorem nw_3:outO [] (nwT sk lm) [false,false,true,true,true]=((decide (sk<0)=false)::(decide (sk > 1048576)=false)::repN (decide (lm<1)=true) 3,nwX):=by kernel_rfl
theorem nw_4:outO [] (nwT sk lm) [false,false,false,true]=([decide (sk<0)=false,decide (sk > 1048576)=false,decide (lm<1)=false,decide (lm > 65536)=true],nwX):=by kernel_rfl
theorem nw_ok:outO [0,1] (nwT sk lm) [false,false,false,false]=([decide (sk<0)=false,decide (sk > 1048576)=false,decide (lm<1)=false,decide (lm > 65536)=false],some (.tuple [.ptr ⟨1,.lit 0⟩,.int .i64 (.lit 0)],[some (.obj (.map [] 0)),some (nwC sk lm)])):=by kernel_rfl
end
def nwP (sk lm:Int):Prop:=(0<=sk/\sk<=1048576)/\1<=lm/\lm<=65536
def nwSm:Summ:=fun args _ base=>qbe args fun a b=>optC (i64V a) (.stuck 7930) fun a=>optC (i64V b) (.stuck 7930) fun b =>
 .fork (cB (nwP a.den b.den)) (.ok ⟨.tuple [.ptr ⟨base,.lit 0⟩,.int .i64 (.lit 0)],[],[chO (base+1) a.den b.den 0 (-1),.obj (.amap kMk uMk [] 0)]⟩) (.ok ⟨.tuple [.nilPtr,.int .i64 (.lit 2)],[],[]⟩)
theorem nwOK:qob Tryd.prog 12 nwSm:=by
 intro glob O w0 β H w base args vs hH hG ha
 refine q5b fun p q hv=>qia fun a hp=>qia fun b hq => ?_
 rw [hv,qbf hp,qbf hq] at ha
 have hA:SV.denL β (SV.renL (Ifc.mk [] [] [.int .i64 (.sym a.den),.int .i64 (.sym b.den)]).big [.int .i64 (.sym a.den),.int .i64 (.sym b.den)])=some vs:=qpa (q9a rfl) (qpa (q9a rfl) qcd) _ _ ha
 have hF:(Ifc.mk [] [] [.int .i64 (.sym a.den),.int .i64 (.sym b.den)]).FitsQ H:=Ifc.fitsQ (by simp) rfl trivial
 refine ⟨fun hc => ?_,fun hc => ?_⟩
 . obtain ⟨⟨h1,h2⟩,h3,h4⟩:=cBi.1 hc
   refine qsd cfgP0OK 20000 hH ⟨[],[],[.int .i64 (.sym a.den),.int .i64 (.sym b.den)]⟩ (by intro g j hg; cases hg) hA hF [1,0] (by simp) (by simp) (qpc (nw_ok a.den b.den) (all_cons (decide_eq_false (by omega)) (all_cons (decide_eq_false (by omega)) (all_cons (decide_eq_false (by omega)) (all_cons (decide_eq_false (by omega)) qca)))) fun H2 hH2 => ?_)
   obtain ⟨h0,h1⟩:=List.cons.inj (show [H2[0]?,H2[1]?]=[some (.obj (.map [] 0)),some (nwC a.den b.den)] from hH2)
   refine ⟨.refl _,rfl,trivial,⟨.inl ⟨_,_,_,_,(List.cons.inj h1).1,rfl,?_,rfl⟩,.inr ⟨_,_,h0,rfl,fun β x h=>SObj.amap_den.2 ⟨fun e he=>(by cases he),by cases h; rfl⟩,rfl⟩,trivial⟩⟩
   exact fun γ us h=>h
 . have hc:¬ nwP a.den b.den:=fun h=>by rw [qsb h] at hc; cases hc
   have go:∀ {ds ps},outO [] (nwT a.den b.den) ds=(ps,nwX)->(∀ p∈ps,p)->(R.ok ⟨.tuple [.nilPtr,.int .i64 (.lit 2)],[],[]⟩:R SumRes).Sat (SumSem Tryd.prog H β w base 12 vs):=fun {ds ps} hr hp =>
    qsd cfgP0OK 20000 hH ⟨[],[],[.int .i64 (.sym a.den),.int .i64 (.sym b.den)]⟩ (by intro g j hg; cases hg) hA hF [] (by simp) (by simp) (qpc hr hp fun _ _=>⟨.refl _,rfl,trivial,trivial⟩)
   by_cases h1:a.den<0
   . exact go (nw_1 a.den b.den) (quc (decide_eq_true h1) 3)
   by_cases h2:a.den > 1048576
   . exact go (nw_2 a.den b.den) (all_cons (decide_eq_false h1) (quc (decide_eq_true h2) 3))
   by_cases h3:b.den<1
   . exact go (nw_3 a.den b.den) (all_cons (decide_eq_false h1) (all_cons (decide_eq_false h2) (quc (decide_eq_true h3) 3)))
   by_cases h4:b.den > 65536
   . exact go (nw_4 a.den b.den) (all_cons (decide_eq_false h1) (all_cons (decide_eq_false h2) (all_cons (decide_eq_false h3) (all_cons (decide_eq_true h4) qca))))
   . exact absurd ⟨⟨by omega,by omega⟩,by omega,by omega⟩ hc
theorem nw_w {sk lm:Int} (h:nwP sk lm):ChW [] 0 sk lm 0 (-1)/\lsM ([]:List MapEntry)=[]:=by
 have hl:lsM ([]:List MapEntry)=[]:=qdo (MarkOK.nil 0)
 obtain ⟨⟨h1,h2⟩,h3,h4⟩:=h
 refine ⟨⟨by show MarkOK _ _ (lsM _); rw [hl]; exact MarkOK.nil 0,⟨h1,h2⟩,⟨h3,h4⟩,⟨Int.le_refl _,by omega⟩,⟨by omega,by omega⟩,fun m hm => ?_,fun m hm => ?_,?_⟩,hl⟩
 . rw [hl] at hm; cases hm
 . rw [hl] at hm; cases hm
 . rw [hl]; show ((0:Nat):Int)<=lm; omega
end
noncomputable section
open Go.Sim
open Go.Proofs
variable {α:Type}
set_option maxRecDepth 1000000
def chRw (m:Nat) (sk lm cl fe:Int):SO:=.row (.lst (chC m sk lm cl fe))
def chLr (e:SO):Option (SI × SI × SI × SI × Nat):=match e with
 | .own (.lst [.int .i64 a,.int .i64 b,.int .i64 c,.int .i64 d,.map m]) _ _=>some (a,b,c,d,m)
 | .row (.lst [.int .i64 a,.int .i64 b,.int .i64 c,.int .i64 d,.map m])=>some (a,b,c,d,m)
 | _=>none
def chLs (r:SI × SI × SI × SI × Nat):Cells:=.lst [.int .i64 r.1,.int .i64 r.2.1,.int .i64 r.2.2.1,.int .i64 r.2.2.2.1,.map r.2.2.2.2]
theorem qa7 {e:SO} {r:SI × SI × SI × SI × Nat} (h:chLr e=some r):e=.row (chLs r)\/∃ w el,e=.own (chLs r) w el:=by
 unfold chLr at h
 split at h
 . cases h; exact .inr ⟨_,_,rfl⟩
 . cases h; exact .inl rfl
 . cases h
def chRd (H:List SO) (p:SV) (f:ChD->R α):R α:=optC (q8o p) (.stuck 7970) fun m=>optC (nth H m) (.stuck 7971) fun e=>optC (chLr e) (.stuck 7972) fun r=>optC (nth H r.2.2.2.2) (.stuck 7973) fun e=>optC (q2s e) (.stuck 7974) fun q =>
 boolC (qqw q.1.1) (boolC (qrw q.1.2) (boolC (Nat.beq m r.2.2.2.2) (.stuck 7977) (f ⟨m,r.2.2.2.2,r.1,r.2.1,r.2.2.1,r.2.2.2.1,q.2.1,q.2.2⟩)) (.stuck 7976)) (.stuck 7975)
def ChD.cs (d:ChD):Cells:=.lst [.int .i64 d.sk,.int .i64 d.lm,.int .i64 d.cl,.int .i64 d.fe,.map d.mm]
structure ChRd (H:List SO) (p:SV) (d:ChD):Prop where
 ptr:p=.ptr ⟨d.nm,.lit 0⟩
 cell:∃ e,H[d.nm]? = some e/\(e=.row d.cs\/∃ w el,e=.own d.cs w el)
 map:H[d.mm]? = some (.obj (.amap kMk uMk d.es d.c))
 ne:d.nm≠d.mm
theorem qcp {H:List SO} {p:SV} {f:ChD->R α} {φ:α->Prop} (h:∀ d,ChRd H p d->(f d).Sat φ):(chRd H p f).Sat φ:=by
 refine qia fun m hm=>qia fun e he=>qia fun r hr=>qia fun e2 he2=>qia fun q hq=>qra fun h1=>qra fun h2 => ?_
 cases hn:Nat.beq m r.2.2.2.2 with
 | true=>exact trivial
 | false =>
   rw [qda] at he he2
   refine h _ ⟨qwi hm,⟨e,he,qa7 hr⟩,by rw [he2,q3p hq,q3s h1,q4s h2],fun e => ?_⟩
   have e:m=r.2.2.2.2:=e
   rw [e,Nat.beq_refl] at hn; cases hn
def chQ (d:ChD):List SO:=[chRw 1 d.sk.den d.lm.den d.cl.den d.fe.den,.obj (.amap kMk uMk d.es d.c)]
def chJ (d:ChD) (ar:List SV):Ifc:=⟨[d.nm,d.mm],chQ d,.ptr ⟨0,.lit 0⟩::ar⟩
theorem qnm {H:List SO} {p:SV} {d:ChD} (h:ChRd H p d) {ar:List SV} (hu:SV.usesL (chJ d ar).known ar=true):(chJ d ar).FitsQ H:=by
 obtain ⟨e,he,ho⟩:=h.cell
 refine Ifc.fitsQ (by show [d.nm,d.mm].Nodup; simpa using h.ne) (by show (true && SV.usesL (chJ d ar).known ar)=true; rw [hu]; rfl) ⟨⟨⟨_,he,_,ho,fun β vs hv=>⟨vs.length,?_⟩⟩,rfl⟩,⟨⟨_,h.map,_,rfl,fun _ _ h=>h⟩,rfl⟩,trivial⟩
 rw [List.take_length]
 have:SV.renL (chJ d ar).big (chC 1 d.sk.den d.lm.den d.cl.den d.fe.den)=chC d.mm d.sk.den d.lm.den d.cl.den d.fe.den:=rfl
 show SV.denL β (SV.renL _ _)=some vs
 rw [this]
 exact qpa (q9a rfl) (qpa (q9a rfl) (qpa (q9a rfl) (qpa (q9a rfl) (qpa (.refl _) qcd)))) _ _ hv
theorem qom {d:ChD} {ar:List SV} {base:Nat} {keep:List Nat} {H2:List SO} {es:List MapEntry} {c:Nat} (h1:H2[1]? = some (.obj (.amap kMk uMk es c))) :
  SetsQ (chJ d ar).big ((chJ d ar).seen keep) ((chJ d ar).out base keep) H2 (q7c (chJ d ar).ents 0) [(d.mm,.obj (.amap kMk uMk es c))] :=
 ⟨⟨rfl,.inr ⟨_,_,h1,rfl,fun _ _ h=>h,rfl⟩⟩,trivial⟩
end
noncomputable section
open Go.Sim
open Go.Proofs
variable {α:Type}
set_option maxRecDepth 1000000
def cfgS:Cfg:=qvh (qjc [(48,smS)])
theorem jgg:CfgOK cfgS:=q8d (all1 smOK)
def keyL (v:Value):List Value:=.int .i64 (vNum (qtd v 0))::mapN (fun j=>.int .u8 (((BitVec.ofInt 8 (vNum (qtd v (j+1)))).toNat:Nat):Int)) (qba 32 0)
def addY (v:Value):Nat->Value:=fun i=>atV (keyL v) (0+i)
def addM (V:Nat->Value) (k:Nat) (v:Value):Nat->Value:=qkc V (0+k * 33) 33 (addY v)
section
variable (es:List MapEntry) (c:Nat) (seen:List Nat) (sk lm cl fe:Int) (V:Nat->Value) (k n:Nat) (J:Junk) (z:Nat->Nat->Nat)
def soT (st:Option (Nat × Nat)):Tree:=qka (cfgS.at st) 20000 35 [.ptr ⟨0,.lit 0⟩] [chRw 1 sk lm cl fe,.obj (.amap kMk uMk es c)]
def soF:List SP:=qke (qmd (soT es c sk lm cl fe (some (1,0))) []).frames [[(2,.nilSlice),(3,.slice ⟨2,.lit 0⟩ (.sym k) (.sym n)),(15,.ptr ⟨3,.lit 0⟩)]]
def soR:SO:=.own (.raw V (n * 33)) true 65
def soC:Cut:=⟨soF es c sk lm cl fe k n,[.ent (chRw 1 sk lm cl fe),.ent (.obj (.amap kMk uMk es c)),.ent (soR V n),.ent (.obj (.iter (some 1) c seen c))]⟩
def so1 (st:Option (Nat × Nat)):Tree:=sim1 (cfgS.at st) 20000 ((soC es c seen sk lm cl fe V k n).fill J)
def n4:List Nat:=[0,1,2,3]
def jhg (n:Nat):Prop:=(0:Int)<=(0:Int)/\(0:Int)<=(n:Int)/\((n * 40:Nat):Int)<=281474976710656/\(n:Int)<=9223372036854775807/\33=33/\0<33
def msS:List (Nat × Nat × SV):=[(0,3,.slice ⟨2,.lit 0⟩ (.lit 0) (.sym es.length))]
def soZ:SO:=(nth (qmd (soT es c sk lm cl fe (some (1,0))) []).heap 2).getD .gone
def soV0:Nat->Value:=optC (qpw (soZ es c sk lm cl fe)) (fun _=>undef) fun r=>r.1.1
theorem j4d:outL [] (soC es c [] sk lm cl fe (soV0 es c sk lm cl fe) 0 es.length) n4 (soT es c sk lm cl fe (some (1,0))) [] z=([jhg es.length],some (.inr (qtc (msS es) [] (q2a n4 4 (soC es c [] sk lm cl fe (soV0 es c sk lm cl fe) 0 es.length))))):=by kernel_rfl
theorem jig:(((soC es c seen sk lm cl fe V k n).frames[0]?).bind fun p=>p.tmps[3]?)=some (some (.slice ⟨2,.lit 0⟩ (.sym k) (.sym n))):=by kernel_rfl
def soQ (b:Nat) (q:List Prop):List Prop:=nxG es c seen::((qoa es seen).isEmpty=false)::nxE es c seen b::q
theorem j5d:outL [] (soC es c [] sk lm cl fe V 0 es.length) n4 (so1 es c seen sk lm cl fe V k n J (some (1,0))) [false,true] z=(soQ es c seen (nxB es seen (z 0 0)) [33<=33,decide (k+1<=n)=true,0+k * 33+33<=n * 33,∀ i,i<33->(addY (nxK es seen (nxB es seen (z 0 0))) i).oneCell'=true],
 some (.inr (q2a n4 6 (soC es c (app seen [nxB es seen (z 0 0)]) sk lm cl fe (addM V k (nxK es seen (nxB es seen (z 0 0)))) (k+1) n)))):=by kernel_rfl
theorem jjg:outL [0,1,2] (soC es c [] sk lm cl fe V 0 es.length) n4 (so1 es c seen sk lm cl fe V k n J none) [true] z=([nxG es c seen,(qoa es seen).isEmpty=true,n * 33=k * 33/\MkV V k/\k<4611686018427387904],some (.inl (.slice ⟨2,.lit 0⟩ (.sym k) (.sym n),[some (chRw 1 sk lm cl fe),some (.obj (.amap kMk uMk es c)),some (.own (.raw (qof mkC 33 (srtM (mkL V k))) (k * 33)) true 65)]))):=by kernel_rfl
theorem so_n (X:Nat->Value) (s:List Nat) (j:Nat):boolC (q0a 2 n4 (soC es c [] sk lm cl fe X j n) (soC es c s sk lm cl fe V k n)) (allN qva (soC es c s sk lm cl fe V k n).heap) false=true:=by kernel_rfl
end
end
noncomputable section
open Go.Sim
open Go.Proofs
variable {α:Type}
set_option maxRecDepth 1000000
theorem q8t (v:Value):keyL v=mkC (mkOf v):=by
 have:=qc1 v
 have h:(keyL v).toArray=(mkC (mkOf v)).toArray:=Value.agg.inj this
 exact List.toArray_inj h
theorem qpm {V:Nat->Value} {k j:Nat} {v:Value} (h:j<k * 33):addM V k v j=V j:=by
 unfold addM qkc
 rw [if_neg (by omega)]
theorem qqm {V:Nat->Value} {k j:Nat} {v:Value} (h:j<33):addM V k v (k * 33+j)=(mkC (mkOf v)).getD j undef:=by
 unfold addM qkc
 rw [if_pos (by omega)]
 unfold addY atV
 rw [q8t,List.getD_eq_getElem?_getD]
 congr 2
 omega
theorem q4p {V:Nat->Value} {k i:Nat} {v:Value} (h:i<k):mkAt (addM V k v) i=mkAt V i:=by
 unfold mkAt
 rw [qpm (by omega)]
 refine Prod.ext rfl (qqj fun j hj => ?_)
 rw [qhd _ hj,qhd _ hj,qpm (by omega)]
theorem q5p {V:Nat->Value} {k:Nat} {v:Value}:mkAt (addM V k v) k=mkOf v:=by
 unfold mkAt
 have h0:=qqm (V:=V) (k:=k) (v:=v) (j:=0) (by omega)
 rw [Nat.add_zero] at h0
 rw [h0]
 refine Prod.ext ?_ (qqj fun j hj => ?_)
 . rw [List.getD_eq_getElem?_getD,qjh]; rfl
 . rw [qhd _ hj,qqm (by omega),List.getD_eq_getElem?_getD,q5f _ hj]
   exact qci _
theorem j6d {V:Nat->Value} {k:Nat} {v:Value} (h:MkV V k):MkV (addM V k v) (k+1)/\mkL (addM V k v) (k+1)=mkL V k++[mkOf v]:=by
 refine ⟨fun i hi => ?_,?_⟩
 . by_cases c:i<k
   . rw [q4p c,qpm (by omega)]
     obtain ⟨h1,h2⟩:=h i c
     exact ⟨h1,fun j hj=>by rw [qpm (by omega)]; exact h2 j hj⟩
   . obtain rfl:i=k:=by omega
     rw [q5p]
     have h0:=qqm (V:=V) (k:=i) (v:=v) (j:=0) (by omega)
     rw [Nat.add_zero] at h0
     refine ⟨by rw [h0,List.getD_eq_getElem?_getD,qjh]; rfl,fun j hj => ?_⟩
     rw [qqm (by omega),List.getD_eq_getElem?_getD,q5f _ hj]; rfl
 . unfold mkL
   rw [List.range_succ,List.map_append,List.map_singleton,q5p]
   congr 1
   exact List.map_congr_left fun i hi=>q4p (List.mem_range.1 hi)
section
variable {es:List MapEntry} {c:Nat} {l:List Mk} (sk lm cl fe:Int)
def soK (es:List MapEntry) (c:Nat) (a:List Nat × (Nat->Value)):Cut:=soC es c a.1 sk lm cl fe a.2 a.1.length es.length
def soOK (es:List MapEntry) (a:List Nat × (Nat->Value)):Prop:=VisOK es a.1/\MkV a.2 a.1.length/\mkL a.2 a.1.length=a.1.map fun b=>mkE (getB es b)
def soD (es:List MapEntry) (c:Nat) (v:SV) (H:List SO):Prop:=v=.slice ⟨2,.lit 0⟩ (.sym es.length) (.sym es.length)/\H[0]? = some (chRw 1 sk lm cl fe)/\H[1]? = some (.obj (.amap kMk uMk es c))/\H[2]? = some (soR (qof mkC 33 (lsM es)) es.length)
theorem j7d (h:MarkOK es c l) (hz:es.length<=65536):Runs cfgS 35 [.ptr ⟨0,.lit 0⟩] [chRw 1 sk lm cl fe,.obj (.amap kMk uMk es c)] (soD sk lm cl fe es c):=by
 have hm:=h.ok
 have hG:∀ seen,nxG es c seen:=fun seen=>⟨qty hm,hm.lt⟩
 have hE:∀ (seen:List Nat) {e:MapEntry},e∈qoa es seen->nxE es c seen e.born:=fun seen e he=>⟨rfl,by rw [qza]; simp,e,(left_mem.1 he).1,(q8j _ _).symm⟩
 have hnd:∀ seen,VisOK es seen->seen.length<=es.length:=fun seen hv=>by
  have:=List.Nodup.length_le_of_subset (l₁:=seen) (l₂:=es.map fun e=>e.born) hv.nd fun b hb=>by
   obtain ⟨e,he,rfl⟩:=hv.mem b hb
   exact List.mem_map.2 ⟨e,he,rfl⟩
  simpa using this
 refine qmf jgg (soK sk lm cl fe es c) (soOK es) (fun a=>(qoa es a.1).length) (fun g nm hg=>by cases hg) ?_ fun a ha J => ?_
 . refine qgg (ds:=[]) (es:=[]) (some (1,0)) 20000 ([],soV0 es c sk lm cl fe) ⟨q3t es,fun i hi=>absurd hi (Nat.not_lt_zero i),rfl⟩ (fun z=>j4d es c sk lm cl fe z) (so_n es c sk lm cl fe _ 0 es.length _ [] 0) (fun q hq p u hp hu => ?_) (fun e he=>by cases he) (all_cons ⟨by omega,by omega,by omega,by omega,rfl,by omega⟩ qca)
   obtain rfl:=List.mem_singleton.1 hq
   exact qnf (jig es c [] sk lm cl fe (soV0 es c sk lm cl fe) 0 es.length) hp hu fun _ _ h=>h
 obtain ⟨seen,V⟩:=a
 obtain ⟨hv,hV,hL⟩:VisOK es seen/\MkV V seen.length/\mkL V seen.length=seen.map fun b=>mkE (getB es b):=ha
 show q6d cfgS _ (soK sk lm cl fe es c) _ _ ((soC es c seen sk lm cl fe V seen.length es.length).fill J)
 cases hl:(qoa es seen).isEmpty with
 | true =>
   have hp:=jtd hm hv hl
   have hlen:seen.length=es.length:=by have:=hp.length_eq; simpa using this
   refine qdd (js:=[0,1,2]) (M:=soC es c [] sk lm cl fe V 0 es.length) (names:=n4) none 20000 (fun z=>jjg es c seen sk lm cl fe V seen.length es.length J z) (all_cons (hG seen) (all_cons hl (all_cons ⟨by omega,hV,by omega⟩ qca))) fun H hH => ?_
   have hs:srtM (mkL V seen.length)=lsM es:=by
    rw [hL,qdo h]
    refine h.srt ?_
    have:=hp.map mkE
    rwa [List.map_map] at this
   rw [hs,hlen] at hH
   obtain ⟨h0,h1⟩:=List.cons.inj (show [H[0]?,H[1]?,H[2]?]=[some (chRw 1 sk lm cl fe),some (.obj (.amap kMk uMk es c)),some (soR (qof mkC 33 (lsM es)) es.length)] from hH)
   obtain ⟨h1,h2⟩:=List.cons.inj h1
   rw [hlen]
   exact ⟨rfl,h0,h1,(List.cons.inj h2).1⟩
 | false =>
   have hp:∀ z,qid (qoa es seen) z∈qoa es seen:=fun z=>qsy hl z
   refine qry (js:=[]) (K:=fun _=>False) (some (1,0)) 20000 (M:=soC es c [] sk lm cl fe V 0 es.length) (names:=n4) (fun z => ?_) (fun v es h=>h.elim)
   have hb:=hp (z 0 0)
   generalize he:qid (qoa es seen) (z 0 0)=e at hb
   have hbe:nxB es seen (z 0 0)=e.born:=by unfold nxB; rw [he]
   have hgB:nxK es seen e.born=e.key:=by unfold nxK; rw [q8j,q7o hm.nd (left_mem.1 hb).1]
   have hr:=j5d es c seen sk lm cl fe V seen.length es.length J z
   rw [hbe,hgB] at hr
   have hv':=q0q hv hb
   have hl1:(app seen [e.born]).length=seen.length+1:=by rw [qza]; simp
   have hlt:=hnd _ hv'
   obtain ⟨hV',hL'⟩:=j6d (v:=e.key) hV
   refine ⟨_,_,_,hr,all_cons (hG seen) (all_cons hl (all_cons (hE seen hb) (all_cons (Nat.le_refl 33) (all_cons (decide_eq_true (by omega)) (all_cons (by omega) (all_cons (fun i hi => ?_) qca)))))),?_⟩
   . unfold addY atV
     rw [q8t,Nat.zero_add]
     rcases (show i=0\/∃ j,i=j+1/\j<32 by
      cases i with
      | zero=>exact .inl rfl
      | succ i=>exact .inr ⟨i,rfl,by omega⟩) with rfl | ⟨j,rfl,hj⟩
     . rw [qjh]; rfl
     . rw [q5f _ hj]; rfl
   show SeenTurn _ _ _ _ _ _
   rw [← hl1]
   refine SeenTurn.of (C:=soK sk lm cl fe es c) (app seen [e.born],addM V seen.length e.key) ⟨⟨hv',?_,?_⟩,q50 hb⟩ (so_n es c sk lm cl fe _ _ es.length _ _ _)
   . show MkV _ (app seen [e.born]).length
     rw [hl1]; exact hV'
   . show mkL _ (app seen [e.born]).length=_
     rw [hl1,hL',hL,qza,List.map_append,List.map_singleton,q7o hm.nd (left_mem.1 hb).1]
     rfl
end
theorem qxy {V V':Nat->Value} {N:Nat} (h:∀ j,j<N->V j=V' j):(Cells.raw V N).Imp (.raw V' N):=fun _ vs ⟨h1,h2⟩=>⟨h1,fun i x hx=>by
 have hi:i<N:=by
  have:=(List.getElem?_eq_some_iff.1 hx).1
  omega
 rw [← h i hi]; exact h2 i x hx⟩
def soSm:Summ:=fun args H base=>qye args fun p=>chRd H p fun d=>.need (ChOK d.es d.c/\d.es.length<=65536) (.ok ⟨.slice ⟨base,.lit 0⟩ (.sym d.es.length) (.sym d.es.length),[],[soR (rowM (lsM d.es)) d.es.length]⟩)
theorem jmc:qob Tryd.prog 35 soSm:=by
 intro glob O w0 β H w base args vs hH hG ha
 refine qic fun p hv=>qcp fun d hd => ?_
 rw [hv,hd.ptr] at ha
 rintro ⟨h,hz⟩
 refine qjm (k':=kMk) (v':=uMk) hH hd.map ?_
 refine qhg (c:=cfgS) hH (chJ d []) (by intro g j hg; cases hg) ha (qnm hd rfl) [2] (by simp [chJ]) (by simp) (qyc (j7d d.sk.den d.lm.den d.cl.den d.fe.den h hz) fun v H2 ⟨h1,h2,h3,h4⟩ => ?_)
 subst h1
 refine ⟨?_,rfl,qom h3,⟨.inl ⟨_,_,_,_,h4,trivial,?_,rfl⟩,trivial⟩⟩
 . show SV.Imp (.slice ⟨(chJ d []).out base [2] 2,.lit 0⟩ (.sym d.es.length) (.sym d.es.length)) _
   rw [out1 (by show 2<=2; omega)]
   exact .refl _
 . refine qxy fun j hj=>qy9 _ j ?_
   rw [MarkOK.len h]; exact hj
end
noncomputable section
open Go.Sim
open Go.Proofs
variable {α:Type}
set_option maxRecDepth 1000000
def be8 (x:BitVec 64) (i:Nat):BitVec 8:=BitVec.setWidth 8 (x >>> (56 - 8 * i))
def beV (x:BitVec 64) (i:Nat):Value:=.int .u8 ((be8 x i).toNat:Int)
def qxh (V:Nat->Value) (N:Nat):SO:=.own (.raw V N) true 5
section
variable (V:Nat->Value) (k n N:Nat) (x:BitVec 64)
def anT:Tree:=qka cfgP0 20000 34 [.slice ⟨0,.lit 0⟩ (.sym k) (.sym n),.int .u64 (.b64 x)] [qxh V N]
def anY (i:Nat):Nat->Value:=fun j=>atV [beV x i] (0+j)
def anQ (k i:Nat) (q:List Prop):List Prop:=(1<=1)::(decide (k+1<=n)=true)::(0+k * 1+1<=N)::(∀ j,j<1->(anY x i j).oneCell'=true)::q
def anV (m:Nat):Nat->Value:=Nat.rec (motive:=fun _=>Nat->Value) V (fun i W=>qkc W (0+(k+i) * 1) 1 (anY x i)) m
def anR:Option (SV × List (Option SO)):=some (.slice ⟨0,.lit 0⟩ (.sym (k+8)) (.sym n),[some (qxh (anV V k x 8) N)])
theorem jkg:outO [0] (anT V k n N x) (repN true 8)=(anQ n N x k 0 (anQ n N x (k+1) 1 (anQ n N x (k+2) 2 (anQ n N x (k+3) 3 (anQ n N x (k+4) 4 (anQ n N x (k+5) 5 (anQ n N x (k+6) 6 (anQ n N x (k+7) 7 []))))))),anR V k n N x):=by kernel_rfl
end
theorem qb7 (V:Nat->Value) (k:Nat) (x:BitVec 64):∀ (m j:Nat),anV V k x m j=qkc V k m (beV x) j
 | 0,j=>by
   show V j=_
   unfold qkc
   rw [if_neg (by omega)]
 | m+1,j=>by
   show qkc (anV V k x m) (0+(k+m) * 1) 1 (anY x m) j=_
   unfold qkc
   by_cases c:k+m=j
   . rw [if_pos (by omega),if_pos (by omega)]
     unfold anY atV
     rw [show 0+(j - (0+(k+m) * 1))=0 by omega,show j - k=m by omega]; rfl
   . rw [if_neg (by omega),qb7 V k x m j]
     unfold qkc
     by_cases c2:k<=j/\j<k+m
     . rw [if_pos c2,if_pos (by omega)]
     . rw [if_neg c2,if_neg (by omega)]
def slN (v:SV):Option (Nat × SN × Nat):=match v with
 | .slice a l (.sym c)=>boolC (is0 a.off) (some (a.nm,l,c)) none
 | _=>none
theorem q59 {v:SV} {r:Nat × SN × Nat} (h:slN v=some r):v=.slice ⟨r.1,.lit 0⟩ r.2.1 (.sym r.2.2):=by
 unfold slN at h
 split at h
 . rename_i a l c
   cases h0:is0 a.off with
   | false=>rw [h0] at h; cases h
   | true =>
     rw [h0] at h
     cases h
     obtain ⟨nm,off⟩:=a
     obtain rfl:=q1q h0
     rfl
 . cases h
def u64V (v:SV):Option (BitVec 64):=match v with
 | .int .u64 (.b64 x)=>some x
 | _=>none
theorem qc7 {v:SV} {x:BitVec 64} (h:u64V v=some x):v=.int .u64 (.b64 x):=by
 unfold u64V at h
 split at h
 . cases h; rfl
 . cases h
def rawB (e:SO):Option ((Nat->Value) × Nat):=match e with
 | .own (.raw V n) true el=>boolC (Nat.beq el 5) (some (V,n)) none
 | _=>none
theorem qd7 {e:SO} {r:(Nat->Value) × Nat} (h:rawB e=some r):e=qxh r.1 r.2:=by
 unfold rawB at h
 split at h
 . rename_i V n el
   cases ht:Nat.beq el 5 with
   | false=>rw [ht] at h; cases h
   | true =>
     rw [ht] at h; cases h
     rw [Nat.eq_of_beq_eq_true ht]; rfl
 . cases h
theorem q4v {a:SA} {l l':SN} {c:SC} (h:l.den=l'.den):(SV.slice a l c).Imp (.slice a l' c):=fun β x hx=>by
 rw [den_slice] at hx ⊢
 rw [← h]; exact hx
def anSm:Summ:=fun args H _=>qbe args fun b v=>optC (slN b) (.stuck 7980) fun r=>optC (nth H r.1) (.stuck 7981) fun e=>optC (rawB e) (.stuck 7982) fun w=>optC (u64V v) (.stuck 7983) fun x =>
 .need (r.2.1.den+8<=r.2.2/\r.2.2=w.2) (.ok ⟨.slice ⟨r.1,.lit 0⟩ (.sym (r.2.1.den+8)) (.sym r.2.2),[(r.1,qxh (qkc w.1 r.2.1.den 8 (beV x)) w.2)],[]⟩)
theorem anOK:qob Tryd.prog 34 anSm:=by
 intro glob O w0 β H w base args vs hH hG ha
 refine q5b fun b v hv=>qia fun r hr=>qia fun e he=>qia fun q hq=>qia fun x hx => ?_
 rw [hv,q59 hr,qc7 hx] at ha
 rw [qda,qd7 hq] at he
 obtain ⟨nm,l,c⟩:=r
 obtain ⟨V,N⟩:=q
 rintro ⟨h1,h2⟩
 have h1:l.den+8<=c:=h1
 have h2:c=N:=h2
 let I:Ifc:=⟨[nm],[qxh V N],[.slice ⟨0,.lit 0⟩ (.sym l.den) (.sym c),.int .u64 (.b64 x)]⟩
 have hF:I.FitsQ H:=Ifc.fitsQ (by simp [I]) rfl ⟨⟨⟨_,he,_,rfl,.refl _⟩,trivial⟩,trivial⟩
 have hy:∀ i j,j<1->(anY x i j).oneCell'=true:=fun i j hj=>by
  obtain rfl:j=0:=by omega
  rfl
 have hq:∀ {k i:Nat} {q:List Prop},k+1<=c->(∀ p∈q,p)->∀ p∈anQ c N x k i q,p:=fun {k i q} hk hp=>all_cons (Nat.le_refl 1) (all_cons (decide_eq_true hk) (all_cons (by omega) (all_cons (hy i) hp)))
 refine qsd cfgP0OK 20000 hH I (by intro g j hg; cases hg) ?_ hF [] (by simp) (by simp) (qpc (jkg V l.den c N x) (hq (by omega) (hq (by omega) (hq (by omega) (hq (by omega) (hq (by omega) (hq (by omega) (hq (by omega) (hq (by omega) qca)))))))) fun H2 hH2=>⟨.refl _,rfl,⟨⟨rfl,.inl ⟨_,_,_,_,(List.cons.inj hH2).1,trivial,qxy fun j _=>qb7 V l.den x 8 j,rfl⟩⟩,trivial⟩,trivial⟩)
 exact qpa (q4v rfl) (qpa (.refl _) qcd) _ _ ha
end
noncomputable section
open Go.Sim
open Go.Proofs
variable {α:Type}
set_option maxRecDepth 1000000
def rlI:List (FuncId × Summ):=[(34,anSm),(35,soSm)]
def cfgI:Cfg:=qvh (qjc rlI)
theorem jlg:CfgOK cfgI:=q8d (by
 intro y hy
 rcases List.mem_cons.1 hy with rfl | hy
 . exact anOK
 . obtain rfl:=List.mem_singleton.1 hy
   exact jmc)
def keyW (W:Nat->Value) (o:Nat):List Value:=.int .i64 (vNum (W (o+0)))::mapN (fun j=>.int .u8 (((BitVec.ofInt 8 (vNum (W (o+(j+1))))).toNat:Nat):Int)) (qba 32 0)
def dgY (W:Nat->Value) (o:Nat):Nat->Value:=fun i=>atV (keyW W o) (1+i)
def fitM (W:Nat->Value) (o:Nat):Prop:=qdr (mapN (fun j=>SV.val (W (o+j))) (qba 33 0)) (.i .i64::repN (.i .u8) 32)
def imN (m:Nat):Int:=40+@Bool.rec (fun _=>Int) (IntKind.i64.wrap ((40:Int) * (m:Int))) ((40 * m:Nat):Int) ((40 * m).ble (maxN .i64))
section
variable (es:List MapEntry) (c:Nat) (sk lm cl fe:Int) (V W:Nat->Value) (k n m j:Nat) (J:Junk) (z:Nat->Nat->Nat)
def imT (st:Option (Nat × Nat)):Tree:=qka (cfgI.at st) 20000 11 [.ptr ⟨0,.lit 0⟩] [chRw 1 sk lm cl fe,.obj (.amap kMk uMk es c)]
def imF (i:Int):List SP:=qke (qmd (imT es c sk lm cl fe (some (1,0))) [false]).frames [[(0,.ptr ⟨0,.lit 0⟩),(2,.nilSlice),(3,.slice ⟨2,.lit 0⟩ (.sym k) (.sym n)),(40,.agg [.int .i64 (.sym sk),.int .i64 (.sym lm),.int .i64 (.sym cl),.int .i64 (.sym (fe+1)),.int .i64 (.sym (es.length:Int))]),(41,.int .i64 (.lit i))]]
def imC (i:Int):Cut:=⟨imF es c sk lm cl fe k n i,[.ent (chRw 1 sk lm cl fe),.ent (.obj (.amap kMk uMk es c)),.ent (qxh V n)]⟩
def im1 (i:Int) (st:Option (Nat × Nat)):Tree:=sim1 (cfgI.at st) 20000 ((imC es c sk lm cl fe V k n i).fill J)
def ibF:List SP:=qke (qmd (im1 es c sk lm cl fe (fun _=>undef) 0 0 j0 5 (some (1,3))) []).frames [[(2,.nilSlice),(3,.slice ⟨2,.lit 0⟩ (.sym k) (.sym n)),(50,.slice ⟨3,.lit 0⟩ (.sym m) (.sym m)),(51,.int .i64 (.sym m)),(52,.int .i64 (.sym j))]]
def ibC:Cut:=⟨ibF es c sk lm cl fe k n m j,[.ent (chRw 1 sk lm cl fe),.ent (.obj (.amap kMk uMk es c)),.ent (qxh V n),.ent (soR W m)]⟩
def ib1 (st:Option (Nat × Nat)):Tree:=sim1 (cfgI.at st) 20000 ((ibC es c sk lm cl fe V W k n m j).fill J)
def q5s:Prop:=(0:Int)<=0/\(0:Int)<=imN es.length/\imN es.length * ((1:Nat):Int)<=281474976710656/\imN es.length<=9223372036854775807/\1=1
def imZ:SO:=.own (.fn (qfr (.int .u8 (.lit 0))) (imN es.length).toNat) true 5
def qrm:Nat->Value:=fun _=>.int .u8 0
theorem j8d:outL [] (imC es c sk lm cl fe qrm 0 (imN es.length).toNat 0) n3 (imT es c sk lm cl fe (some (1,0))) [false] z=([lm0 lm,qsa (imN es.length),q5s es,qsa (fe+1)],
 some (.inr (qtc [(0,3,.slice ⟨2,.lit 0⟩ (.lit 0) (.sym (imN es.length).toNat))] [(2,.ent (imZ es))] (q2a n3 3 (imC es c sk lm cl fe qrm 0 (imN es.length).toNat 0))))):=by kernel_rfl
theorem jmg (i:Int):(((imC es c sk lm cl fe V k n i).frames[0]?).bind fun p=>p.tmps[3]?)=some (some (.slice ⟨2,.lit 0⟩ (.sym k) (.sym n))):=by kernel_rfl
def imV (x:Int):Nat->Value:=qkc V k 8 (beV (BitVec.ofInt 64 x))
def anN:Prop:=k+8<=n/\n=n
theorem im_t0:outL [] (imC es c sk lm cl fe V 0 n 0) n3 (im1 es c sk lm cl fe V k n J 0 (some (1,0))) [] z=([anN k n],some (.inr (q2a n3 3 (imC es c sk lm cl fe (imV V k sk) (k+8) n 1)))):=by kernel_rfl
theorem im_t1:outL [] (imC es c sk lm cl fe V 0 n 0) n3 (im1 es c sk lm cl fe V k n J 1 (some (1,0))) [] z=([anN k n],some (.inr (q2a n3 3 (imC es c sk lm cl fe (imV V k lm) (k+8) n 2)))):=by kernel_rfl
theorem im_t2:outL [] (imC es c sk lm cl fe V 0 n 0) n3 (im1 es c sk lm cl fe V k n J 2 (some (1,0))) [] z=([anN k n],some (.inr (q2a n3 3 (imC es c sk lm cl fe (imV V k cl) (k+8) n 3)))):=by kernel_rfl
theorem im_t3:outL [] (imC es c sk lm cl fe V 0 n 0) n3 (im1 es c sk lm cl fe V k n J 3 (some (1,0))) [] z=([anN k n],some (.inr (q2a n3 3 (imC es c sk lm cl fe (imV V k (fe+1)) (k+8) n 4)))):=by kernel_rfl
theorem im_t4:outL [] (imC es c sk lm cl fe V 0 n 0) n3 (im1 es c sk lm cl fe V k n J 4 (some (1,0))) [] z=([anN k n],some (.inr (q2a n3 3 (imC es c sk lm cl fe (imV V k (es.length:Int)) (k+8) n 5)))):=by kernel_rfl
theorem jng:outL [] (ibC es c sk lm cl fe V W k n es.length 0) n4 (im1 es c sk lm cl fe V k n J 5 (some (1,3))) [] z=([ChOK es c/\es.length<=65536],some (.inr (qtc [(0,52,.int .i64 (.lit 0))] [] (q2a n4 4 (ibC es c sk lm cl fe V (rowM (lsM es)) k n es.length 0))))):=by kernel_rfl
theorem jog:(((ibC es c sk lm cl fe V W k n m j).frames[0]?).bind fun p=>p.tmps[52]?)=some (some (.int .i64 (.sym (j:Int)))):=by kernel_rfl
def ibV:Nat->Value:=qkc (imV V k (vNum (W (0+j * 33+0)))) (0+(k+8) * 1) 32 (dgY W (0+j * 33))
theorem j9d:outL [] (ibC es c sk lm cl fe V W k n m j) n4 (ib1 es c sk lm cl fe V W k n m j J (some (1,3))) [true,true] z=([decide ((j:Int)<(m:Int))=true,(0:Int)<=(j:Int)/\(j:Int)<(m:Int),0+j * 33+33<=m * 33,fitM W (0+j * 33),anN k n,33<=33,decide (k+8+32<=n)=true,0+(k+8) * 1+32<=n,∀ i,i<32->(dgY W (0+j * 33) i).oneCell'=true,qsa ((j+1:Nat):Int)],
 some (.inr (q2a n4 5 (ibC es c sk lm cl fe (ibV V W k j) W (k+8+32) n m (j+1))))):=by kernel_rfl
theorem jpg:outL [0,1,2] (ibC es c sk lm cl fe V W k n m j) n4 (ib1 es c sk lm cl fe V W k n m j J none) [false] z=([decide ((j:Int)<(m:Int))=false],some (.inl (.slice ⟨2,.lit 0⟩ (.sym k) (.sym n),[some (chRw 1 sk lm cl fe),some (.obj (.amap kMk uMk es c)),some (qxh V n)]))):=by kernel_rfl
theorem im_n (X:Nat->Value) (q:Nat) (i:Int):boolC (q0a 2 n3 (imC es c sk lm cl fe X q n 0) (imC es c sk lm cl fe V k n i)) (allN qva (imC es c sk lm cl fe V k n i).heap) false=true:=by kernel_rfl
theorem ib_n (X Y:Nat->Value) (q r:Nat):boolC (q0a 2 n4 (ibC es c sk lm cl fe X Y q n m r) (ibC es c sk lm cl fe V W k n m j)) (allN qva (ibC es c sk lm cl fe V W k n m j).heap) false=true:=by kernel_rfl
end
end
noncomputable section
open Go.Sim
open Go.Proofs
variable {α:Type}
set_option maxRecDepth 1000000
def imgB (ns:List Int) (l:List Mk) (i:Nat):BitVec 8 :=
 if i<40 then be8 (BitVec.ofInt 64 (ns.getD (i / 8) 0)) (i % 8)
 else if (i - 40) % 40<8 then be8 (BitVec.ofInt 64 ((l[(i - 40) / 40]?).getD default).1) ((i - 40) % 40) else ((l[(i - 40) / 40]?).getD default).2.at ((i - 40) % 40 - 8)
def vB (x:BitVec 8):Value:=.int .u8 (x.toNat:Int)
theorem qyy (ns:List Int) (l:List Mk) {i r:Nat} (hi:i<5) (hr:r<8):imgB ns l (8 * i+r)=be8 (BitVec.ofInt 64 (ns.getD i 0)) r:=by
 unfold imgB
 rw [if_pos (by omega),show (8 * i+r) / 8=i by omega,show (8 * i+r) % 8=r by omega]
theorem qf1 (ns:List Int) {l:List Mk} {j r:Nat} (hj:j<l.length) (hr:r<8):imgB ns l (40+40 * j+r)=be8 (BitVec.ofInt 64 l[j].1) r:=by
 unfold imgB
 rw [if_neg (by omega),show (40+40 * j+r - 40) % 40=r by omega,show (40+40 * j+r - 40) / 40=j by omega,if_pos hr,List.getElem?_eq_getElem hj]; rfl
theorem qg1 (ns:List Int) {l:List Mk} {j r:Nat} (hj:j<l.length) (hr:r<32):imgB ns l (40+40 * j+(8+r))=l[j].2.at r:=by
 unfold imgB
 rw [if_neg (by omega),show (40+40 * j+(8+r) - 40) % 40=8+r by omega,show (40+40 * j+(8+r) - 40) / 40=j by omega,if_neg (by omega),List.getElem?_eq_getElem hj,show 8+r - 8=r by omega]; rfl
theorem qe7 {V:Nat->Value} {B:Nat->BitVec 8} {k:Nat} {x:Int} (h:∀ t,t<k->V t=vB (B t)) (hx:∀ r,r<8->B (k+r)=be8 (BitVec.ofInt 64 x) r):∀ t,t<k+8->imV V k x t=vB (B t):=by
 intro t ht
 unfold imV qkc
 by_cases c:k<=t
 . rw [if_pos ⟨c,ht⟩]
   have:=hx (t - k) (by omega)
   rw [show k+(t - k)=t by omega] at this
   rw [this]; rfl
 . rw [if_neg (by omega)]; exact h t (by omega)
theorem q69 {l:List Mk} {j:Nat} (hj:j<l.length):keyW (rowM l) (0+j * 33)=mkC l[j]:=by
 obtain ⟨h1,h2⟩:=qal hj
 have e:mkOf (keyM l[j])=l[j]:=qrj _
 rw [show mkC l[j]=mkC (mkOf (keyM l[j])) by rw [e],← q8t]
 unfold keyW keyL
 congr 1
 . rw [Nat.zero_add,Nat.add_zero,h1,q9j,List.getD_eq_getElem?_getD,qjh]; rfl
 . rw [qla,qla]
   refine List.map_congr_left fun i hi => ?_
   rw [qcb,← List.range_eq_range',List.mem_range] at hi
   rw [Nat.zero_add,h2 i hi,q9j,List.getD_eq_getElem?_getD,q5f _ hi]; rfl
theorem qh1 {l:List Mk} {j i:Nat} (hj:j<l.length) (hi:i<32):dgY (rowM l) (0+j * 33) i=vB (l[j].2.at i):=by
 unfold dgY atV
 rw [q69 hj,Nat.add_comm,q5f _ hi]; rfl
theorem qhv:∀ {l:List Value} {ks:List SK},(∀ (i:Nat) (x:Value) (k:SK),l[i]? = some x->ks[i]? = some k->fitK k x)->qdr (l.map SV.val) ks
 | [],_,_=>trivial
 | _::_,[],_=>trivial
 | _::_,_::_,h=>⟨h 0 _ _ rfl rfl,qhv fun i x k h1 h2=>h (i+1) x k h1 h2⟩
theorem jnc (x:BitVec 8):fitK (.i .u8) (vB x):=fun β=>by
 show some (Value.int .u8 ((BitVec.ofInt 8 (x.toNat:Int)).toNat:Int))=_
 rw [qci]; rfl
theorem qzy {l:List Mk} {j:Nat} (hj:j<l.length):fitM (rowM l) (0+j * 33):=by
 obtain ⟨h1,h2⟩:=qal hj
 unfold fitM
 have e:mapN (fun i=>SV.val (rowM l (0+j * 33+i))) (qba 33 0)=((List.range 33).map fun i=>rowM l (0+j * 33+i)).map SV.val:=by
  rw [qla,qcb,← List.range_eq_range',List.map_map]; rfl
 rw [e]
 refine qhv fun i x k hx hk => ?_
 rw [List.getElem?_map,Option.map_eq_some_iff] at hx
 obtain ⟨i',hi',rfl⟩:=hx
 obtain ⟨hi,rfl⟩:i<33/\i=i':=by
  obtain ⟨h,he⟩:=List.getElem?_eq_some_iff.1 hi'
  simp at h he
  exact ⟨h,he⟩
 rw [Nat.zero_add]
 cases i with
 | zero =>
   cases hk
   rw [Nat.add_zero,h1]
   exact fun _=>rfl
 | succ i =>
   have hk:(repN (SK.i .u8) 32)[i]? = some k:=hk
   rw [qgd] at hk
   have hk:k=.i .u8:=(List.eq_of_mem_replicate (List.mem_of_getElem? hk))
   rw [hk,h2 i (by omega)]
   exact jnc _
theorem jqg {m:Nat} (h:m<=65536):imN m=((40+40 * m:Nat):Int):=by
 unfold imN
 have:(40 * m).ble (maxN .i64)=true:=Nat.ble_eq_true_of_le (show 40 * m<=9223372036854775807 by omega)
 rw [this]
 show (40:Int)+((40 * m:Nat):Int)=_
 omega
inductive ImS
 | a (i:Nat) (V:Nat->Value)
 | b (j:Nat) (V:Nat->Value)
section
variable (es:List MapEntry) (c:Nat) (sk lm cl fe:Int)
def imL:List Int:=[sk,lm,cl,fe+1,(es.length:Int)]
def imX:Nat->BitVec 8:=imgB (imL es sk lm cl fe) (lsM es)
def imK:ImS->Cut
 | .a i V=>imC es c sk lm cl fe V (8 * i) (40+40 * es.length) (i:Int)
 | .b j V=>ibC es c sk lm cl fe V (rowM (lsM es)) (40+40 * j) (40+40 * es.length) es.length j
def imOK:ImS->Prop
 | .a i V=>i<=5/\∀ t,t<8 * i->V t=vB (imX es sk lm cl fe t)
 | .b j V=>j<=es.length/\∀ t,t<40+40 * j->V t=vB (imX es sk lm cl fe t)
def imMu:ImS->Nat
 | .a i _=>es.length+10 - i
 | .b j _=>es.length - j
def imD (v:SV) (H:List SO):Prop:=v=.slice ⟨2,.lit 0⟩ (.sym (40+40 * es.length)) (.sym (40+40 * es.length))/\H[0]? = some (chRw 1 sk lm cl fe)/\H[1]? = some (.obj (.amap kMk uMk es c))/\∃ V,H[2]? = some (qxh V (40+40 * es.length))/\∀ t,t<40+40 * es.length->V t=vB (imX es sk lm cl fe t)
variable {es c sk lm cl fe}
theorem jae (h:ChW es c sk lm cl fe):Runs cfgI 11 [.ptr ⟨0,.lit 0⟩] [chRw 1 sk lm cl fe,.obj (.amap kMk uMk es c)] (imD es c sk lm cl fe):=by
 have hz:es.length<=65536:=by have:=h.sz; have:=h.hlm; have:=h.len; omega
 have hN:=jqg hz
 have hNt:(imN es.length).toNat=40+40 * es.length:=by rw [hN]; omega
 have hl:(lsM es).length=es.length:=h.len.symm
 refine qmf jlg (imK es c sk lm cl fe) (imOK es sk lm cl fe) (imMu es) (fun g nm hg=>by cases hg) ?_ fun a ha J => ?_
 . have hr:=fun z=>j8d es c sk lm cl fe z
   rw [hNt] at hr
   refine qgg (M:=imC es c sk lm cl fe qrm 0 (40+40 * es.length) 0) (names:=n3) (N:=3) (ds:=[false]) (some (1,0)) 20000 (.a 0 qrm) ⟨Nat.zero_le 5,fun t ht=>by omega⟩ hr (im_n es c sk lm cl fe qrm 0 _ qrm 0 0) (fun q hq p u hp hu => ?_) (fun e he E0 hE0 => ?_) (all_cons h.lm0 (all_cons ?_ (all_cons ?_ (all_cons ?_ qca))))
   . obtain rfl:=List.mem_singleton.1 hq
     exact qnf (jmg es c sk lm cl fe qrm 0 _ 0) hp hu fun _ _ h=>h
   . obtain rfl:=List.mem_singleton.1 he
     cases hE0
     refine ⟨_,rfl,fun γ vs hv => ?_⟩
     obtain ⟨h1,h2⟩:vs.length=(imN es.length).toNat/\∀ (i:Nat) (x:Value),vs[i]? = some x->(qfr (.int .u8 (.lit 0)) i).den γ=some x:=hv
     refine ⟨by rw [h1,hNt],fun i x hx => ?_⟩
     have:=h2 i x hx
     exact (Option.some.inj this).symm
   . rw [hN]; exact ⟨by omega,by omega⟩
   . rw [show q5s es=q5s es from rfl]
     unfold q5s
     rw [hN]
     exact ⟨by omega,by omega,by omega,by omega,rfl⟩
   . have:=h.hfe
     exact ⟨by omega,by omega⟩
 cases a with
 | a i V =>
   obtain ⟨hi,hV⟩:i<=5/\∀ t,t<8 * i->V t=vB (imX es sk lm cl fe t):=ha
   show q6d cfgI _ (imK es c sk lm cl fe) _ _ ((imC es c sk lm cl fe V (8 * i) (40+40 * es.length) (i:Int)).fill J)
   have hn:∀ (V:Nat->Value) (k:Nat) (i:Int) (W:Nat->Value),boolC (q0a 2 n3 (imC es c sk lm cl fe W 0 (40+40 * es.length) 0) (imC es c sk lm cl fe V k (40+40 * es.length) i)) (allN qva (imC es c sk lm cl fe V k (40+40 * es.length) i).heap) false=true:=fun V k i W=>im_n es c sk lm cl fe V k _ W 0 i
   have hok:∀ (x:Int),i<5->(imL es sk lm cl fe).getD i 0=x->imOK es sk lm cl fe (.a (i+1) (imV V (8 * i) x)):=fun x hi' hx=>by
    refine ⟨by omega,fun t ht=>qe7 hV (fun r hr => ?_) t (by omega)⟩
    unfold imX
    rw [qyy _ _ hi' hr,hx]
   have hmu:∀ V',i<5->imMu es (.a (i+1) V')<imMu es (.a i V):=fun V' hi'=>by show es.length+10 - (i+1)<es.length+10 - i; omega
   have hp:i<5->∀ p∈[anN (8 * i) (40+40 * es.length)],p:=fun hi'=>all_cons ⟨by omega,rfl⟩ qca
   rcases (show i=0\/i=1\/i=2\/i=3\/i=4\/i=5 by omega) with rfl | rfl | rfl | rfl | rfl | rfl
   . exact qgc (ds:=[]) (names:=n3) (N:=3) (M:=imC es c sk lm cl fe V 0 _ 0) (some (1,0)) 20000 (.a 1 (imV V (8 * 0) sk)) ⟨hok sk (by omega) rfl,hmu _ (by omega)⟩ (fun z=>im_t0 es c sk lm cl fe V (8 * 0) _ J z) (hn _ _ _ _) (hp (by omega))
   . exact qgc (ds:=[]) (names:=n3) (N:=3) (M:=imC es c sk lm cl fe V 0 _ 0) (some (1,0)) 20000 (.a 2 (imV V (8 * 1) lm)) ⟨hok lm (by omega) rfl,hmu _ (by omega)⟩ (fun z=>im_t1 es c sk lm cl fe V (8 * 1) _ J z) (hn _ _ _ _) (hp (by omega))
   . exact qgc (ds:=[]) (names:=n3) (N:=3) (M:=imC es c sk lm cl fe V 0 _ 0) (some (1,0)) 20000 (.a 3 (imV V (8 * 2) cl)) ⟨hok cl (by omega) rfl,hmu _ (by omega)⟩ (fun z=>im_t2 es c sk lm cl fe V (8 * 2) _ J z) (hn _ _ _ _) (hp (by omega))
   . exact qgc (ds:=[]) (names:=n3) (N:=3) (M:=imC es c sk lm cl fe V 0 _ 0) (some (1,0)) 20000 (.a 4 (imV V (8 * 3) (fe+1))) ⟨hok (fe+1) (by omega) rfl,hmu _ (by omega)⟩ (fun z=>im_t3 es c sk lm cl fe V (8 * 3) _ J z) (hn _ _ _ _) (hp (by omega))
   . exact qgc (ds:=[]) (names:=n3) (N:=3) (M:=imC es c sk lm cl fe V 0 _ 0) (some (1,0)) 20000 (.a 5 (imV V (8 * 4) (es.length:Int))) ⟨hok (es.length:Int) (by omega) rfl,hmu _ (by omega)⟩ (fun z=>im_t4 es c sk lm cl fe V (8 * 4) _ J z) (hn _ _ _ _) (hp (by omega))
   . refine qih (ds:=[]) (names:=n4) (N:=4) (es:=[]) (M:=ibC es c sk lm cl fe V (fun _=>undef) 40 (40+40 * es.length) es.length 0) (some (1,3)) 20000 (.b 0 V) ⟨⟨Nat.zero_le _,fun t ht=>hV t (by omega)⟩,?_⟩ (fun z=>jng es c sk lm cl fe V (fun _=>undef) 40 _ J z) (ib_n es c sk lm cl fe V _ 40 _ es.length 0 V _ 40 0) (fun q hq p u hp hu => ?_) (fun e he=>by cases he) (all_cons ⟨h.ok,hz⟩ qca)
     . show es.length - 0<es.length+10 - 5; omega
     . obtain rfl:=List.mem_singleton.1 hq
       exact qnf (jog es c sk lm cl fe V (rowM (lsM es)) 40 _ es.length 0) hp hu (q9a rfl)
 | b j V =>
   obtain ⟨hj,hV⟩:j<=es.length/\∀ t,t<40+40 * j->V t=vB (imX es sk lm cl fe t):=ha
   show q6d cfgI _ (imK es c sk lm cl fe) _ _ ((ibC es c sk lm cl fe V (rowM (lsM es)) (40+40 * j) (40+40 * es.length) es.length j).fill J)
   by_cases hc:j<es.length
   . have hjl:j<(lsM es).length:=by omega
     have e0:vNum (rowM (lsM es) (0+j * 33+0))=(lsM es)[j].1:=by
      rw [Nat.zero_add,Nat.add_zero,(qal hjl).1]; rfl
     refine qgc (ds:=[true,true]) (names:=n4) (N:=5) (M:=ibC es c sk lm cl fe V (rowM (lsM es)) (40+40 * j) (40+40 * es.length) es.length j) (some (1,3)) 20000 (.b (j+1) (ibV V (rowM (lsM es)) (40+40 * j) j)) ⟨⟨hc,?_⟩,?_⟩ (fun z=>j9d es c sk lm cl fe V (rowM (lsM es)) (40+40 * j) _ es.length j J z) (ib_n es c sk lm cl fe _ _ _ _ es.length _ _ _ _ _)
      (all_cons (decide_eq_true (by omega)) (all_cons ⟨by omega,by omega⟩ (all_cons (by omega) (all_cons (qzy hjl) (all_cons ⟨by omega,rfl⟩ (all_cons (Nat.le_refl 33) (all_cons (decide_eq_true (by omega)) (all_cons (by omega) (all_cons (fun i hi => ?_) (all_cons ⟨by omega,by omega⟩ qca))))))))))
     . intro t ht
       have h1:=qe7 (B:=imX es sk lm cl fe) (k:=40+40 * j) (x:=(lsM es)[j].1) hV fun r hr=>by unfold imX; exact qf1 _ hjl hr
       unfold ibV qkc
       rw [e0]
       by_cases c2:40+40 * j+8<=t
       . rw [if_pos (by omega),qh1 hjl (by omega)]
         have:=qg1 (imL es sk lm cl fe) hjl (show t - (0+(40+40 * j+8) * 1)<32 by omega)
         rw [show 40+40 * j+(8+(t - (0+(40+40 * j+8) * 1)))=t by omega] at this
         rw [← this]; rfl
       . rw [if_neg (by omega)]
         exact h1 t (by omega)
     . show es.length - (j+1)<es.length - j; omega
     . rw [qh1 hjl hi]; rfl
   . have hje:j=es.length:=by omega
     subst hje
     refine qdd (js:=[0,1,2]) (names:=n4) (M:=ibC es c sk lm cl fe V (rowM (lsM es)) (40+40 * es.length) (40+40 * es.length) es.length es.length) none 20000 (fun z=>jpg es c sk lm cl fe V (rowM (lsM es)) (40+40 * es.length) _ es.length es.length J z) (all_cons (decide_eq_false (by omega)) qca) fun H hH => ?_
     obtain ⟨h0,h1⟩:=List.cons.inj (show [H[0]?,H[1]?,H[2]?]=[some (chRw 1 sk lm cl fe),some (.obj (.amap kMk uMk es c)),some (qxh V (40+40 * es.length))] from hH)
     obtain ⟨h1,h2⟩:=List.cons.inj h1
     exact ⟨rfl,h0,h1,V,(List.cons.inj h2).1,hV⟩
end
def ChD.n (d:ChD):Nat:=40+40 * d.es.length
def ChD.x (d:ChD):Nat->BitVec 8:=imX d.es d.sk.den d.lm.den d.cl.den d.fe.den
def imSm:Summ:=fun args H base=>qye args fun p=>chRd H p fun d=>.need d.w (.ok ⟨.slice ⟨base,.lit 0⟩ (.sym d.n) (.sym d.n),[],[.own (.fn (qab d.x) d.n) true 5]⟩)
theorem imOKs:qob Tryd.prog 11 imSm:=by
 intro glob O w0 β H w base args vs hH hG ha
 refine qic fun p hv=>qcp fun d hd => ?_
 rw [hv,hd.ptr] at ha
 intro hw
 refine qjm (k':=kMk) (v':=uMk) hH hd.map ?_
 refine qhg (c:=cfgI) hH (chJ d []) (by intro g j hg; cases hg) ha (qnm hd rfl) [2] (by simp [chJ]) (by simp) (qyc (jae hw) fun v H2 ⟨h1,h2,h3,V,h4,h5⟩ => ?_)
 subst h1
 refine ⟨?_,rfl,qom h3,⟨.inl ⟨_,_,_,_,h4,trivial,?_,rfl⟩,trivial⟩⟩
 . show SV.Imp (.slice ⟨(chJ d []).out base [2] 2,.lit 0⟩ (.sym (40+40 * d.es.length)) (.sym (40+40 * d.es.length))) _
   rw [out1 (by show 2<=2; omega)]
   exact .refl _
 . intro γ vs ⟨g1,g2⟩
   refine ⟨g1,fun i x hx => ?_⟩
   have hi:i<40+40 * d.es.length:=by
    have:=(List.getElem?_eq_some_iff.1 hx).1
    omega
   rw [g2 i x hx,h5 i hi]; rfl
end
end Go.Proofs.YthkgcljngalafaaDoor.Aes
namespace Go.Sim
noncomputable section
open Go.Proofs Go.Shelf
def q0y (e:SO):Bool:=match e with
 | .obj (.map _ _)=>true
 | .obj (.amap _ _ _ _)=>true
 | _=>false
theorem qe0 {e:SO} (h:q0y e=true):∃ o,e=.obj o/\∀ β x,o.den β=some x->∃ es c,x=.map es c:=by
 unfold q0y at h
 split at h
 . refine ⟨_,rfl,fun β x hx => ?_⟩
   simp only [SObj.den,Option.map_eq_some_iff] at hx
   obtain ⟨es,_,rfl⟩:=hx
   exact ⟨_,_,rfl⟩
 . refine ⟨_,rfl,fun β x hx => ?_⟩
   exact ⟨_,_,(SObj.amap_den.1 hx).2⟩
 . cases h
def clnM:Summ:=fun args H base=>qye args fun v=>match v with
 | .nilMap=>.ok ⟨.nilMap,[],[]⟩
 | .map nm=>optC (nth H nm) (.stuck 7850) fun e=>boolC (q0y e) (.ok ⟨.map base,[],[e]⟩) (.stuck 7851)
 | _=>.stuck 7852
section
variable {P:Program} {ρ:Ren}
theorem qf7 (L:SlLaysW.n5 P ρ) (hs:∃ fn,P.funcs[ρ.f 5]? = some fn/\fn.body.isSome=true):qob P (ρ.f 5) clnM:=by
 intro glob O w0 β H w base args vs hH hG ha
 refine qic fun v hv => ?_
 rw [hv] at ha
 cases v <;> first | exact trivial | skip
 . rename_i nm
   refine qia fun e he=>qra fun hm => ?_
   obtain ⟨o,rfl,ho⟩:=qe0 hm
   rw [qda] at he
   obtain ⟨x,ys,hx,hys,rfl⟩:=denL_cons.1 ha
   cases hys
   obtain ⟨l,x',hβ,h0,hd,hh⟩:OwnRel P β w nm (.obj o):=(hH.entries nm _ he).toOwn rfl
   obtain ⟨es,c,rfl⟩:=ho _ _ hd
   have hx:(β nm).map (fun l=>Value.map (some l.blk))=some x:=hx
   rw [hβ] at hx
   cases hx
   intro hnew
   have hb:β base=none:=hnew 0 (by show (0:Nat)<1; omega)
   refine ⟨fun n e hm=>(by cases hm),.inl ⟨hs,?_⟩⟩
   refine (AnyW.maps_Clone L l.blk es c w hh).mono fun e w' ⟨he,hw⟩=>⟨_,β.upd base ⟨w.heap.size,0,0⟩,he,?_,?_⟩
   . show ((β.upd base ⟨w.heap.size,0,0⟩) base).map (fun l=>Value.map (some l.blk))=_
     rw [Val.upd_same]; rfl
   . subst hw
     exact Eff.allocO hb rfl rfl rfl rfl hd
 . obtain ⟨x,ys,hx,hys,rfl⟩:=denL_cons.1 ha
   cases hys; cases hx
   intro hnew
   refine ⟨fun n e hm=>(by cases hm),.inl ⟨hs,?_⟩⟩
   refine (AnyW.maps_Clone_nil L w).mono fun e w' ⟨he,hw⟩=>⟨_,β,he,rfl,?_⟩
   subst hw
   exact ⟨fun n l h=>h,rfl,rfl,rfl,Nat.le_refl _,Nat.le_refl _,fun _ _=>rfl,fun _ _ _=>rfl,fun _ _ _ h=>(by cases h),fun _ _ h=>(by cases h),fun _ _ h=>(by simp at h),fun _ _ _ _ _ h=>(by simp at h)⟩
end
end
end Go.Sim
namespace Go.Proofs
noncomputable section
open Go.Shelf
def Tryd.clnMk_ren:Go.Shelf.Ren:=⟨fun | 5=>52 | 7=>63 | n=>n,fun | 23=>66 | 25=>65 | 3=>70 | 4=>4 | 20=>20 | n=>n,fun | n=>n⟩
theorem Tryd.clnMk:Go.Proofs.SlLaysW.n5 Tryd.prog Tryd.clnMk_ren:={
 mixed:=by kernel_rfl
 f5:=⟨Tryd.f52.name,by decide,Tryd.func52.trans (congrArg some (by kernel_rfl))⟩
 f7:=Tryd.func63.trans (congrArg some (by kernel_rfl))
 t4:=Tryd.underlying4
 a4:=Tryd.isAgg4
 z4:=Tryd.sizeOf4
 v4:=Tryd.zeroValue4
 t20:=Tryd.underlying20
 a20:=Tryd.isAgg20
 z20:=Tryd.sizeOf20
 v20:=Tryd.zeroValue20
 t23:=Tryd.underlying66
 a23:=Tryd.isAgg66
 z23:=Tryd.sizeOf66
 v23:=Tryd.zeroValue66 }
end
end Go.Proofs
namespace Go.Proofs.YthkgcljngalafaaDoor.Aes
noncomputable section
open Go.Sim
open Go.Proofs
variable {α:Type}
set_option maxRecDepth 1000000
theorem jbe:qob Tryd.prog 52 clnM:=qf7 Tryd.clnMk ⟨_,Tryd.func52,by kernel_rfl⟩
def rlE:List (FuncId × Summ):=[(52,clnM),(35,soSm)]
def cfgE:Cfg:=qvh (qjc rlE)
theorem jrg:CfgOK cfgE:=q8d (by
 intro y hy
 rcases List.mem_cons.1 hy with rfl | hy
 . exact jbe
 . obtain rfl:=List.mem_singleton.1 hy
   exact jmc)
section
variable (es:List MapEntry) (c:Nat) (sk lm cl fe:Int)
def enT:Tree:=qka cfgE 20000 18 [.ptr ⟨0,.lit 0⟩] [chRw 1 sk lm cl fe,.obj (.amap kMk uMk es c)]
def enV (b:Nat):SV:=.func (.fn (.func 39)) [] [.ptr ⟨b,.lit 0⟩]
def enO (b n:Nat):SO:=.own (.lst [.slice ⟨b,.lit 0⟩ (.sym n) (.sym n)]) true 77
theorem jsg:outO [0,1,2,3] (enT es c sk lm cl fe) [true]=([(!(lm == 0))=true,ChOK es c/\es.length<=65536],some (enV 2,[some (chRw 1 sk lm cl fe),some (.obj (.amap kMk uMk es c)),some (enO 3 es.length),some (soR (rowM (lsM es)) es.length)])):=by kernel_rfl
end
def enSm:Summ:=fun args H base=>qye args fun p=>chRd H p fun d=>.need d.w (.ok ⟨enV base,[],[enO (base+1) d.es.length,soR (rowM (lsM d.es)) d.es.length]⟩)
theorem enOK:qob Tryd.prog 18 enSm:=by
 intro glob O w0 β H w base args vs hH hG ha
 refine qic fun p hv=>qcp fun d hd => ?_
 rw [hv,hd.ptr] at ha
 intro hw
 have hz:d.es.length<=65536:=by have:=hw.sz; have:=hw.hlm; have:=hw.len; omega
 refine qjm (k':=kMk) (v':=uMk) hH hd.map ?_
 refine qsd jrg 20000 hH (chJ d []) (by intro g j hg; cases hg) ha (qnm hd rfl) [2,3] (by simp [chJ]) (by simp) (qpc (jsg d.es d.c d.sk.den d.lm.den d.cl.den d.fe.den) (all_cons (by rw [show (d.lm.den == 0)=false from hw.lm0]; rfl) (all_cons ⟨hw.ok,hz⟩ qca)) fun H2 hH2 => ?_)
 obtain ⟨h0,h1⟩:=List.cons.inj (show [H2[0]?,H2[1]?,H2[2]?,H2[3]?]=[some (chRw 1 d.sk.den d.lm.den d.cl.den d.fe.den),some (.obj (.amap kMk uMk d.es d.c)),some (enO 3 d.es.length),some (soR (rowM (lsM d.es)) d.es.length)] from hH2)
 obtain ⟨h1,h2⟩:=List.cons.inj h1
 obtain ⟨h2,h3⟩:=List.cons.inj h2
 have h3:=(List.cons.inj h3).1
 exact ⟨.refl _,rfl,qom h1,⟨.inl ⟨_,_,_,_,h2,rfl,.refl _,rfl⟩,.inl ⟨_,_,_,_,h3,trivial,.refl _,rfl⟩,trivial⟩⟩
end
noncomputable section
open Go.Sim
open Go.Proofs
variable {α:Type}
set_option maxRecDepth 1000000
def rfA (sk lm cl fe:Int) (L:SV):SV:=.agg [.int .i64 (.sym sk),.int .i64 (.sym lm),.int .i64 (.sym cl),.int .i64 (.sym fe),L]
def tup2 (v:SV) (e:Int):SV:=.tuple [v,.int .i64 (.lit e)]
section
variable (W:Nat->Value) (n:Nat) (sk lm cl k fe now:Int) (i:Nat) (V:Nat->Value) (m:Nat) (J:Junk) (z:Nat->Nat->Nat)
def ixP (i n:Nat):Prop:=(0:Int)<=(i:Int)/\(i:Int)<(n:Int)
def nxI (i:Nat):Prop:=qsa ((i+1:Nat):Int)
end
end
noncomputable section
open Go.Sim
open Go.Proofs
variable {α:Type}
set_option maxRecDepth 1000000
structure LsW (l:List Mk) (sk lm cl fe:Int):Prop where
 so:l.Pairwise mkLt
 hsk:0<=sk/\sk<=1048576
 hlm:1<=lm/\lm<=65536
 hcl:vTm cl
 hfe : -1<=fe/\fe<=1099511627776+1048576
 tm:∀ m∈l,vTm m.1
 nr:∀ m∈l,cl - sk<=m.1/\m.1<=cl+sk
 sz:(l.length:Int)<=lm
inductive XuS
 | a (i:Nat)
 | b (i m:Nat) (V:Nat->Value)
section
variable (l:List Mk) (sk lm cl fe now k:Int)
def RfOut (f:List Mk) (e:Int) (b:Nat) (v:SV) (H:List SO):Prop :=
 (f=[]/\v=tup2 (rfA sk lm k fe .nilSlice) e)\/(f≠[]/\∃ nl:SN,nl.den=f.length/\v=tup2 (rfA sk lm k fe (.slice ⟨b,.lit 0⟩ nl (.rest b 0))) e/\∃ cl,H[b]? = some (.own cl false 54)/\(∀ p,cl.Uses p)/\∀ g,(cl.ren g).Imp (.raw (rowM f) (f.length * 33)))
variable {l sk lm cl fe now}
end
end
noncomputable section
open Go.Sim
open Go.Proofs
variable {α:Type}
set_option maxRecDepth 1000000
structure RfD where
 sk:SI
 lm:SI
 cl:SI
 fe:SI
 nm:Nat
 V:Nat->Value
 N:Nat
 n:SN
 nil:Bool
def RfD.l (d:RfD):List Mk:=mkL d.V d.n.den
def RfD.L (d:RfD):SV:=boolC d.nil .nilSlice (.slice ⟨d.nm,.lit 0⟩ d.n (.rest d.nm 0))
structure RfIn (H:List SO) (v:SV) (d:RfD):Prop where
 val:v=.agg [.int .i64 d.sk,.int .i64 d.lm,.int .i64 d.cl,.int .i64 d.fe,d.L]
 row:d.nil=false->∃ e,H[d.nm]? = some e/\(e=.row (.raw d.V d.N)\/∃ w el,e=.own (.raw d.V d.N) w el)
 nl:d.nil=true->d.n=.lit 0
structure RfD.w (d:RfD):Prop where
 row:d.nil=false->d.n.den * 33<=d.N/\MkV d.V d.n.den
 ls:LsW d.l d.sk.den d.lm.den d.cl.den d.fe.den
end
noncomputable section
open Go.Sim
open Go.Proofs
variable {α:Type}
set_option maxRecDepth 1000000
end
noncomputable section
open Go.Sim
open Go.Proofs
variable {α:Type}
set_option maxRecDepth 1000000
section
variable (sk lm:Int)
end
end
noncomputable section
open Go.Sim
open Go.Proofs
open Go.Shelf Go.Sort
variable {α:Type}
set_option maxRecDepth 1000000
section
variable (m n:Mk)
end
end
noncomputable section
open Go.Sim
open Go.Proofs
variable {α:Type}
set_option maxRecDepth 1000000
section
variable (W:Nat->Value) (n:Nat) (sk lm cl k fe t now:Int) (d:Dg) (U:Nat->Value) (q:Nat) (i:Nat) (V:Nat->Value) (m:Nat) (J:Junk) (z:Nat->Nat->Nat)
end
end
noncomputable section
open Go.Sim
open Go.Proofs
variable {α:Type}
set_option maxRecDepth 1000000
section
variable (W:Nat->Value) (n:Nat) (sk lm cl k fe t now:Int) (d:Dg) (U:Nat->Value) (q:Nat) (i:Nat) (V:Nat->Value) (m:Nat) (J:Junk) (z:Nat->Nat->Nat)
end
end
noncomputable section
open Go.Sim
open Go.Proofs
variable {α:Type}
set_option maxRecDepth 1000000
theorem andS_d (x y:SB):(andS x y).den=(x.den && y.den):=by
 cases x with
 | lit a=>cases a <;> cases y <;> rfl
 | sym a =>
   cases y with
   | lit b =>
     cases b
     . show false=(a && false); simp
     . show a=(a && true); simp
   | sym b=>rfl
end
noncomputable section
open Go.Sim
open Go.Proofs
variable {α:Type}
set_option maxRecDepth 1000000
inductive XpS
 | z
 | b (i m:Nat) (V:Nat->Value) (pl:Bool)
section
variable (W:Nat->Value) (n:Nat) (sk lm k fe t:Int) (d:Dg) (u:List Mk)
variable {W n sk lm k fe t d u}
end
end
noncomputable section
open Go.Sim
open Go.Proofs
variable {α:Type}
set_option maxRecDepth 1000000
section
variable {l:List Mk} {sk lm cl fe t now:Int} {d:Dg}
end
end
noncomputable section
open Go.Sim
open Go.Proofs
variable {α:Type}
set_option maxRecDepth 1000000
section
variable (W:Nat->Value) (n:Nat) (sk lm cl fe now:Int)
end
end
noncomputable section
open Go.Sim
open Go.Proofs
variable {α:Type}
set_option maxRecDepth 1000000
def dq (v:Int) (k:Nat):Int:=Nat.rec (motive:=fun _=>Int) v (fun _ x=>IntKind.i64.wrap (x.tdiv 256)) k
def eiB (v:Int) (i:Nat):BitVec 8:=BitVec.ofInt 8 ((dq v (7 - i)).tmod 256)
end
noncomputable section
open Go.Sim
open Go.Proofs
variable {α:Type}
set_option maxRecDepth 1000000
def riB (X:Nat->BitVec 8) (k:Nat):SO:=.own (.fn (qab X) k) false 5
def n64 (x:Int):BitVec 64:=BitVec.ofInt 64 x
section
variable (W:Nat->Value) (n:Nat) (sk lm cl fe:Int) (X:Nat->BitVec 8) (i k:Nat) (J:Junk) (z:Nat->Nat->Nat)
def eiC (x:Int):List SV:=mapN (fun j=>.int .u8 (.b8 (be8 (n64 x) j))) (qba 8 0)
def riH (m:Int):List SV:=app (app (app (eiC sk) (eiC lm)) (app (eiC cl) (eiC (fe+1)))) (eiC m)
end
end
noncomputable section
open Go.Sim
open Go.Proofs
variable {α:Type}
set_option maxRecDepth 1000000
def riNs (sk lm cl fe:Int) (l:List Mk):List Int:=[sk,lm,cl,fe+1,(l.length:Int)]
def riX (sk lm cl fe:Int) (l:List Mk):Nat->BitVec 8:=imgB (riNs sk lm cl fe l) l
section
variable (l:List Mk) (sk lm cl fe:Int)
variable {l sk lm cl fe}
end
end
noncomputable section
open Go.Sim
open Go.Proofs
variable {α:Type}
set_option maxRecDepth 1000000
section
variable (es:List MapEntry) (c:Nat) (sk lm cl fe:Int)
def ckT:Tree:=qka cfgP0 20000 14 [.ptr ⟨0,.lit 0⟩] [chRw 1 sk lm cl fe,.obj (.amap kMk uMk es c)]
theorem jtg:outO [1] (ckT es c sk lm cl fe) [false]=([lm0 lm],some (.int .i64 (.sym cl),[some (.obj (.amap kMk uMk es c))])):=by kernel_rfl
end
def ckSm:Summ:=fun args H _=>qye args fun p=>chRd H p fun d=>.need d.w (.ok ⟨.int .i64 (.sym d.cl.den),[],[]⟩)
theorem ckOK:qob Tryd.prog 14 ckSm:=by
 intro glob O w0 β H w base args vs hH hG ha
 refine qic fun p hv=>qcp fun d hd => ?_
 rw [hv,hd.ptr] at ha
 intro hw
 refine qjm (k':=kMk) (v':=uMk) hH hd.map ?_
 exact qsd cfgP0OK 20000 hH (chJ d []) (by intro g j hg; cases hg) ha (qnm hd rfl) [] (by simp) (by simp) (qpc (jtg d.es d.c d.sk.den d.lm.den d.cl.den d.fe.den) (all_cons hw.lm0 qca) fun H2 hH2=>⟨.refl _,rfl,qom (List.cons.inj hH2).1,trivial⟩)
end
noncomputable section
open Go.Sim
open Go.Proofs
variable {α:Type}
set_option maxRecDepth 1000000
section
variable (es:List MapEntry) (c:Nat) (sk lm cl fe:Int) (W:Nat->Value) (n:Nat)
variable (U:Nat->Value) (m i:Nat) (J:Junk) (z:Nat->Nat->Nat)
end
end
noncomputable section
open Go.Sim
open Go.Proofs
variable {α:Type}
set_option maxRecDepth 1000000
section
variable (es:List MapEntry) (c:Nat) (sk lm cl fe:Int) (W U:Nat->Value) (n m i:Nat) (J:Junk) (z:Nat->Nat->Nat)
end
end
noncomputable section
open Go.Sim
open Go.Proofs
variable {α:Type}
set_option maxRecDepth 1000000
section
variable (es:List MapEntry) (c:Nat) (sk lm cl fe:Int) (W:Nat->Value) (n:Nat) (z:Nat->Nat->Nat)
end
end
noncomputable section
open Go.Sim
open Go.Proofs
variable {α:Type}
set_option maxRecDepth 1000000
section
variable {es:List MapEntry} {c:Nat} {sk lm cl fe:Int}
def agD (es:List MapEntry) (c:Nat) (v:SV) (H:List SO):Prop:=∃ b,v=.bool b/\b.den=true/\H[1]? = some (.obj (.amap kMk uMk es c))
end
end
noncomputable section
open Go.Sim
open Go.Proofs
variable {α:Type}
def qyi:Nat->Option Nat:=fun g=>boolC (Nat.beq g 0) (some 0) (boolC (Nat.beq g 2) (some 1) none)
def startL:List Nat:=[0x6a09e667,0xbb67ae85,0x3c6ef372,0xa54ff53a,0x510e527f,0x9b05688c,0x1f83d9ab,0x5be0cd19]
def constL:List Nat:=[
 0x428a2f98,0x71374491,0xb5c0fbcf,0xe9b5dba5,0x3956c25b,0x59f111f1,0x923f82a4,0xab1c5ed5,
 0xd807aa98,0x12835b01,0x243185be,0x550c7dc3,0x72be5d74,0x80deb1fe,0x9bdc06a7,0xc19bf174,
 0xe49b69c1,0xefbe4786,0x0fc19dc6,0x240ca1cc,0x2de92c6f,0x4a7484aa,0x5cb0a9dc,0x76f988da,
 0x983e5152,0xa831c66d,0xb00327c8,0xbf597fc7,0xc6e00bf3,0xd5a79147,0x06ca6351,0x14292967,
 0x27b70a85,0x2e1b2138,0x4d2c6dfc,0x53380d13,0x650a7354,0x766a0abb,0x81c2c92e,0x92722c85,
 0xa2bfe8a1,0xa81a664b,0xc24b8b70,0xc76c51a3,0xd192e819,0xd6990624,0xf40e3585,0x106aa070,
 0x19a4c116,0x1e376c08,0x2748774c,0x34b0bcb5,0x391c0cb3,0x4ed8aa4a,0x5b9cca4f,0x682e6ff3,
 0x748f82ee,0x78a5636f,0x84c87814,0x8cc70208,0x90befffa,0xa4506ceb,0xbef9a3f7,0xc67178f2]
abbrev W32:=BitVec 32
def wd (n:Nat):W32:=BitVec.ofNat 32 n
def wi (n:Nat):W32:=BitVec.ofInt 32 (Int.ofNat n)
def wx (l:List W32):List SV:=mapN (fun x=>.int .u32 (.b32 x)) l
def kx (k:IntKind) (l:List Nat):List SV:=mapN (fun n=>.int k (.lit (Int.ofNat n))) l
def qoc:List W32:=mapN wi startL
def constV':List W32:=mapN wi constL
def q3g:SO:=.row (.lst (kx .u32 startL))
def q4g:SO:=.row (.lst (kx .u32 constL))
def anyR:SO:=.row (.lst [])
def quw (l:List SO):List SO:=q3g::q4g::anyR::anyR::l
theorem qiv {f:Nat->Nat} {e:Option SO} (h:q2t e=true):∃ e',e=some e'/\Taken f anyR e':=by
 cases e with
 | none=>cases h
 | some e =>
   have hf:∀ c:Cells,c.Front ((Cells.lst []).ren f):=fun c β vs _=>⟨0,by rw [List.take_zero]; rfl⟩
   cases e with
   | own c w el=>exact ⟨_,rfl,q9h (.inr ⟨_,_,rfl⟩) (hf c)⟩
   | row c=>exact ⟨_,rfl,q9h (.inl rfl) (hf c)⟩
   | loop=>cases h
   | deferred=>cases h
   | gone=>cases h
   | obj=>cases h
theorem q6s (k:IntKind) (f:Nat->Nat):∀ xs,SV.renL f (kx k xs)=kx k xs
 | []=>rfl
 | x::xs=>by show _::SV.renL f (kx k xs)=_; rw [q6s k f xs]; rfl
theorem qpf (k:IntKind) (p:Nat->Bool):∀ xs,SV.usesL p (kx k xs)=true
 | []=>rfl
 | x::xs=>by show (true && SV.usesL p (kx k xs))=true; rw [qpf k p xs]; rfl
theorem q7s (f:Nat->Nat):∀ xs,SV.renL f (wx xs)=wx xs
 | []=>rfl
 | x::xs=>by show _::SV.renL f (wx xs)=_; rw [q7s f xs]; rfl
theorem q9t (p:Nat->Bool):∀ xs,SV.usesL p (wx xs)=true
 | []=>rfl
 | x::xs=>by show (true && SV.usesL p (wx xs))=true; rw [q9t p xs]; rfl
def litK (k:IntKind) (v:SV):Option Nat:=v.asInt none fun k' n=>boolC (eqK k' k) (n.asLit none fun n=>intC n some fun _=>none) none
theorem qg7 {k:IntKind} {v:SV} {n:Nat} (h:litK k v=some n):v=.int k (.lit (.ofNat n)):=by
 unfold litK at h
 rcases q2b v with ⟨k',m,rfl⟩ | hv
 . obtain ⟨hk,h⟩:=qyb (show boolC (eqK k' k) (m.asLit none fun n=>intC n some fun _=>none) none=some n from h)
   rw [q8e hk]
   cases m with
   | lit m=>cases m with
     | ofNat m=>cases h; rfl
     | negSucc m=>cases h
   | sym=>cases h
   | b8=>cases h
   | b32=>cases h
   | b64=>cases h
 . rw [hv] at h; cases h
def isK (k:IntKind) (L:List Nat):List SV->Bool :=
 List.rec (motive:=fun _=>List SV->Bool) (fun l=>nilN l) (fun t _ ih l=>List.rec (motive:=fun _=>Bool) false (fun v r _=>optC (litK k v) false fun x=>boolC (Nat.beq x t) (ih r) false) l) L
theorem q1y {k:IntKind}:∀ {L:List Nat} {l:List SV},isK k L l=true->l=kx k L
 | [],[],_=>rfl
 | [],_::_,h=>by cases h
 | t::L,[],h=>by cases h
 | t::L,v::l,h=>by
   have h:(optC (litK k v) false fun x=>boolC (Nat.beq x t) (isK k L l) false)=true:=h
   cases hx:litK k v with
   | none=>rw [hx] at h; cases h
   | some x =>
     rw [hx] at h
     have h:boolC (Nat.beq x t) (isK k L l) false=true:=h
     cases he:Nat.beq x t with
     | false=>rw [he] at h; cases h
     | true =>
       rw [he] at h
       rw [qg7 hx,qzb he,q1y (L:=L) (l:=l) h]; rfl
def rowK (k:IntKind) (L:List Nat) (e:Option SO):Bool:=optC (q5d e) false fun l=>isK k L l
theorem qei {k:IntKind} {L:List Nat} {e:Option SO} (h:rowK k L e=true) (g:Nat->Nat):∃ e',e=some e'/\Taken g (.row (.lst (kx k L))) e':=by
 unfold rowK at h
 cases hc:q5d e with
 | none=>rw [hc] at h; cases h
 | some l =>
   rw [hc] at h
   rw [q1y h] at hc
   exact qnk hc (by rw [q6s]; exact .refl _)
def qvw (v:SV) (nm n:Nat):Bool:=v.asSlice false fun a l c=>boolC (Nat.beq a.nm nm) (a.off.asLit false fun o=>boolC (Nat.beq o 0) (l.asLit false fun m=>boolC (Nat.beq m n) (SC.rec (motive:=fun _=>Bool) (fun k=>Nat.beq k n) (fun _=>false) (fun _ _=>false) c) false) false) false
theorem asSlice_cases (v:SV):(∃ a l c,v=.slice a l c)\/∀ {γ:Type} (d:γ) (f:SA->SN->SC->γ),v.asSlice d f=d:=by
 cases v <;> first | exact .inl ⟨_,_,_,rfl⟩ | exact .inr fun _ _=>rfl
theorem qsm {b c:Bool} (h:boolC b c false=true):b=true/\c=true:=by cases b <;> first | exact ⟨rfl,h⟩ | cases h
theorem qc4 {v:SV} {nm n:Nat} (h:qvw v nm n=true):v=.slice ⟨nm,.lit 0⟩ (.lit n) (.lit n):=by
 unfold qvw at h
 rcases asSlice_cases v with ⟨⟨q,o⟩,l,c,rfl⟩ | hv
 . obtain ⟨h1,h⟩:=qsm h
   cases o <;> first | (cases h; done) | skip
   obtain ⟨h2,h⟩:=qsm h
   cases l <;> first | (cases h; done) | skip
   obtain ⟨h3,h⟩:=qsm h
   cases c <;> first | (cases h; done) | skip
   have h1:=qzb h1
   have h2:=qzb h2
   have h3:=qzb h3
   have h4:=qzb h
   subst h1 h2 h3 h4; rfl
 . rw [hv] at h; cases h
def qd4 (H:List SO) (r:R α):R α:=boolC (rowK .u32 startL (nth H 0)) (boolC (rowK .u32 constL (nth H 1)) (boolC (q2t (nth H 2)) (boolC (q2t (nth H 3)) r (.stuck 730)) (.stuck 731)) (.stuck 732)) (.stuck 733)
structure ShaTP (H:List SO):Prop where
 s0:∀ g,∃ e',H[0]? = some e'/\Taken g q3g e'
 s1:∀ g,∃ e',H[1]? = some e'/\Taken g q4g e'
 s2:∀ g,∃ e',H[2]? = some e'/\Taken g anyR e'
 s3:∀ g,∃ e',H[3]? = some e'/\Taken g anyR e'
theorem qjv {H:List SO} {r:R α} {φ:α->Prop} (h:ShaTP H->r.Sat φ):(qd4 H r).Sat φ:=by
 refine qra fun h0=>qra fun h1=>qra fun h2=>qra fun h3=>h ⟨fun g => ?_,fun g => ?_,fun g => ?_,fun g => ?_⟩
 . rw [← qda]; exact qei h0 g
 . rw [← qda]; exact qei h1 g
 . rw [← qda]; exact qiv h2
 . rw [← qda]; exact qiv h3
def qqf (names:List Nat) (ents:List SO) (args:List SV):Ifc:=⟨0::1::2::3::names,quw ents,args⟩
theorem qtm {H:List SO} (hT:ShaTP H) {names:List Nat} {ents:List SO} {args:List SV} (h:EntsOK (qqf names ents args).big (qqf names ents args).known H names ents):EntsOK (qqf names ents args).big (qqf names ents args).known H (qqf names ents args).names (qqf names ents args).ents :=
 ⟨⟨hT.s0 _,qpf _ _ _⟩,⟨hT.s1 _,qpf _ _ _⟩,⟨hT.s2 _,rfl⟩,⟨hT.s3 _,rfl⟩,h⟩
theorem qum {β:Val} {names:List Nat} {ents:List SO} {args:List SV} (hG:GlobRel qyi β):∀ g j,qyi g=some j->(qqf names ents args).known j=true/\∃ l,β ((qqf names ents args).big j)=some l/\l.blk=g/\l.off=0:=by
 intro g j hg
 have hj:j=0\/j=1:=by
  rcases qnc (show boolC (Nat.beq g 0) (some 0) _=some j from hg) with ⟨_,h⟩ | h
  . cases h; exact .inl rfl
  obtain ⟨_,h⟩:=qyb h
  cases h; exact .inr rfl
 rcases hj with rfl | rfl
 . exact ⟨rfl,hG g 0 hg⟩
 . exact ⟨rfl,hG g 1 hg⟩
def rrt (x:W32) (n:Nat):W32:=x <<< (32 - n) ||| x >>> n
def tur2 (x:W32) (a b:Nat):W32:=BitVec.ofInt 32 0 ^^^ rrt x a ^^^ rrt x b
def tur3 (x:W32) (a b c:Nat):W32:=BitVec.ofInt 32 0 ^^^ rrt x a ^^^ rrt x b ^^^ rrt x c
def un32 (v:SV):Option W32:=v.asInt none fun k n=>boolC (eqK k .u32) (SI.rec (motive:=fun _=>Option W32) (fun _=>none) (fun _=>none) (fun _=>none) (fun x=>some x) (fun _=>none) n) none
theorem qak {v:SV} {x:W32} (h:un32 v=some x):v=.int .u32 (.b32 x):=by
 unfold un32 at h
 rcases q2b v with ⟨k,n,rfl⟩ | hv
 . obtain ⟨hk,h⟩:=qyb (show boolC (eqK k .u32) (SI.rec (motive:=fun _=>Option W32) (fun _=>none) (fun _=>none) (fun _=>none) (fun x=>some x) (fun _=>none) n) none=some x from h)
   rw [q8e hk]
   cases n <;> first | (cases h; rfl) | cases h
 . rw [hv] at h; cases h
def unL (l:List SV):Option (List Nat):=List.rec (motive:=fun _=>Option (List Nat)) (some []) (fun v _ ih=>optC (litI v) none fun x=>optC ih none fun xs=>some (x::xs)) l
def ix (l:List Nat):List SV:=mapN (fun n=>.int .i64 (.lit (Int.ofNat n))) l
theorem q2y:∀ {l:List SV} {xs:List Nat},unL l=some xs->l=ix xs
 | [],xs,h=>by cases h; rfl
 | v::l,xs,h=>by
   obtain ⟨x,hx,h⟩:=q7e (show (optC (litI v) none fun x=>optC (unL l) none fun xs=>some (x::xs))=some xs from h)
   obtain ⟨ys,hy,h⟩:=q7e h
   cases h
   rw [q7u hx,q2y hy]; rfl
def qdp (a:List Nat):List Nat->Bool:=List.rec (motive:=fun _=>List Nat->Bool) (fun b=>nilN b) (fun x _ ih b=>List.rec (motive:=fun _=>Bool) false (fun y r _=>boolC (Nat.beq x y) (ih r) false) b) a
theorem q5g:∀ {a b:List Nat},qdp a b=true->a=b
 | [],[],_=>rfl
 | [],_::_,h=>by cases h
 | x::a,[],h=>by cases h
 | x::a,y::b,h=>by
   have h:boolC (Nat.beq x y) (qdp a b) false=true:=h
   cases hx:Nat.beq x y with
   | false=>rw [hx] at h; cases h
   | true =>
     rw [hx] at h
     rw [qzb hx,q5g h]
theorem q6p (x:W32) (a b:Nat) (h:(a=17/\b=19)\/(a=7/\b=18)):outP [] (qka cfg0 2000 65 [.int .u32 (.b32 x),.slice ⟨0,.lit 0⟩ (.lit 2) (.lit 2)] [.row (.lst (ix [a,b]))])=([],some (.int .u32 (.b32 (tur2 x a b)),[])):=by
 rcases h with ⟨rfl,rfl⟩ | ⟨rfl,rfl⟩ <;> kernel_rfl
theorem q7p (x:W32) (a b c:Nat) (h:(a=6/\b=11/\c=25)\/(a=2/\b=13/\c=22)):outP [] (qka cfg0 2000 65 [.int .u32 (.b32 x),.slice ⟨0,.lit 0⟩ (.lit 3) (.lit 3)] [.row (.lst (ix [a,b,c]))])=([],some (.int .u32 (.b32 (tur3 x a b c)),[])):=by
 rcases h with ⟨rfl,rfl,rfl⟩ | ⟨rfl,rfl,rfl⟩ <;> kernel_rfl
def w32R (x:W32):R SumRes:=.ok ⟨.int .u32 (.b32 x),[],[]⟩
def isSl (v:SV) (n:Nat) (f:Nat->R α):R α:=v.asSlice (.stuck 720) fun a l c=>a.off.asLit (.stuck 720) fun o=>boolC (Nat.beq o 0) (l.asLit (.stuck 720) fun m=>boolC (Nat.beq m n) (SC.rec (motive:=fun _=>R α) (fun k=>boolC (Nat.beq k n) (f a.nm) (.stuck 720)) (fun _=>.stuck 720) (fun _ _=>.stuck 720) c) (.stuck 720)) (.stuck 720)
theorem q3y {v:SV} {n:Nat} {f:Nat->R α} {φ:α->Prop} (h:∀ nm,v=.slice ⟨nm,.lit 0⟩ (.lit n) (.lit n)->(f nm).Sat φ):(isSl v n f).Sat φ:=by
 unfold isSl
 rcases asSlice_cases v with ⟨⟨nm,o⟩,l,c,rfl⟩ | hv
 . cases o with
   | lit o =>
     refine qra fun ho => ?_
     cases l with
     | lit m =>
       refine qra fun hm => ?_
       cases c with
       | lit k =>
         refine qra fun hk=>h nm ?_
         rw [qzb ho,qzb hm,qzb hk]
       | sym=>trivial
       | rest=>trivial
     | sym=>trivial
     | byt=>trivial
   | sym=>trivial
   | byt=>trivial
 . rw [hv]; trivial
def turS:Summ:=fun args H _=>qbe args fun v sl=>optC (un32 v) (.stuck 721) fun x =>
 sl.asSlice (.stuck 722) fun _ l _=>l.asLit (.stuck 722) fun n=>boolC (Nat.beq n 2)
  (isSl sl 2 fun nm=>optC (q5d (nth H nm)) (.stuck 723) fun cs=>optC (unL cs) (.stuck 723) fun ns=>boolC (qdp ns [17,19]) (w32R (tur2 x 17 19)) (boolC (qdp ns [7,18]) (w32R (tur2 x 7 18)) (.stuck 723)))
  (isSl sl 3 fun nm=>optC (q5d (nth H nm)) (.stuck 723) fun cs=>optC (unL cs) (.stuck 723) fun ns=>boolC (qdp ns [6,11,25]) (w32R (tur3 x 6 11 25)) (boolC (qdp ns [2,13,22]) (w32R (tur3 x 2 13 22)) (.stuck 723)))
theorem qh7 (f:Nat->Nat):∀ xs,SV.renL f (ix xs)=ix xs
 | []=>rfl
 | x::xs=>by show _::SV.renL f (ix xs)=_; rw [qh7 f xs]; rfl
theorem qi1 (p:Nat->Bool):∀ xs,SV.usesL p (ix xs)=true
 | []=>rfl
 | x::xs=>by show (true && SV.usesL p (ix xs))=true; rw [qi1 p xs]; rfl
theorem turOK:qob Tryd.prog 65 turS:=by
 intro glob O w0 β H w base args vs hH hG ha
 refine q5b fun v sl hv=>qia fun x hx => ?_
 have key:∀ (nm n:Nat) (cs:List SV) (ns:List Nat) (y:W32),sl=.slice ⟨nm,.lit 0⟩ (.lit n) (.lit n)->q5d (nth H nm)=some cs->unL cs=some ns ->
   outP [] (qka cfg0 2000 65 [.int .u32 (.b32 x),.slice ⟨0,.lit 0⟩ (.lit n) (.lit n)] [.row (.lst (ix ns))])=([],some (.int .u32 (.b32 y),[]))->(w32R y).Sat (SumSem Tryd.prog H β w base 65 vs):=by
  intro nm n cs ns y hs hc hn hrun
  rw [hv,qak hx,hs] at ha
  rw [qda] at hc
  have ht:∀ g,∃ e',H[nm]? = some e'/\Taken g (.row (.lst (ix ns))) e':=fun g=>qnk hc (by rw [qh7,q2y hn]; exact .refl _)
  exact q4o qoj rfl 2000 hH ⟨[nm],[.row (.lst (ix ns))],[.int .u32 (.b32 x),.slice ⟨0,.lit 0⟩ (.lit n) (.lit n)]⟩ ha
   (Ifc.fits (by simp) rfl ⟨⟨ht _,qi1 _ _⟩,trivial⟩) [] (by simp) (by simp) hrun qca fun _ _=>qvs rfl rfl rfl
 rcases asSlice_cases sl with ⟨a,l,c,hsl⟩ | hno
 . rw [hsl]
   show R.Sat (l.asLit _ _) _
   refine SN.asLit_sat (fun n _ => ?_) fun _=>trivial
   rw [← hsl]
   refine q6e (fun _=>q3y fun nm hs=>qia fun cs hcs=>qia fun ns hns => ?_) fun _=>q3y fun nm hs=>qia fun cs hcs=>qia fun ns hns => ?_
   . refine q6e (fun h1 => ?_) fun _=>qra fun h1 => ?_
     . have:=q5g h1; subst this
       exact key nm 2 cs _ _ hs hcs hns (q6p x 17 19 (.inl ⟨rfl,rfl⟩))
     . have:=q5g h1; subst this
       exact key nm 2 cs _ _ hs hcs hns (q6p x 7 18 (.inr ⟨rfl,rfl⟩))
   . refine q6e (fun h1 => ?_) fun _=>qra fun h1 => ?_
     . have:=q5g h1; subst this
       exact key nm 3 cs _ _ hs hcs hns (q7p x 6 11 25 (.inl ⟨rfl,rfl,rfl⟩))
     . have:=q5g h1; subst this
       exact key nm 3 cs _ _ hs hcs hns (q7p x 2 13 22 (.inr ⟨rfl,rfl,rfl⟩))
 . rw [hno]; trivial
def qeo (F:W32->W32->W32->W32):Summ:=fun args _ _=>qts args fun a b c=>optC (un32 a) (.stuck 724) fun x=>optC (un32 b) (.stuck 724) fun y=>optC (un32 c) (.stuck 724) fun z=>w32R (F x y z)
theorem qj1 {f:FuncId} {F:W32->W32->W32->W32} (hrun:∀ x y z:W32,outP [] (qka cfg0 200 f [.int .u32 (.b32 x),.int .u32 (.b32 y),.int .u32 (.b32 z)] [])=([],some (.int .u32 (.b32 (F x y z)),[]))):qob Tryd.prog f (qeo F):=by
 intro glob O w0 β H w base args vs hH hG ha
 refine q4j fun a b c hv=>qia fun x hx=>qia fun y hy=>qia fun z hz => ?_
 rw [hv,qak hx,qak hy,qak hz] at ha
 exact q4o qoj rfl 200 hH ⟨[],[],[.int .u32 (.b32 x),.int .u32 (.b32 y),.int .u32 (.b32 z)]⟩ ha (qus rfl) [] (by simp) (by simp) (hrun x y z) qca fun _ _=>qvs rfl rfl rfl
def qrf (x y z:W32):W32:=x &&& y ^^^ ((BitVec.ofInt 32 4294967295 ^^^ x) &&& z)
def majW (x y z:W32):W32:=x &&& y ^^^ x &&& z ^^^ y &&& z
theorem q79:qob Tryd.prog 66 (qeo qrf):=qj1 fun x y z=>by kernel_rfl
theorem majOK:qob Tryd.prog 67 (qeo majW):=qj1 fun x y z=>by kernel_rfl
def joc:Cfg:=cfgG qyi (qjc [(65,turS),(66,qeo qrf),(67,qeo majW)])
theorem allS {glob:Nat->Option Nat} {x:FuncId × Summ} {l:List (FuncId × Summ)} (h:SumAt Tryd.prog glob x.1 x.2) (h':∀ y∈l,SumAt Tryd.prog glob y.1 y.2):∀ y∈x::l,SumAt Tryd.prog glob y.1 y.2:=by
 intro y hy
 rcases List.mem_cons.1 hy with rfl | hy
 . exact h
 . exact h' y hy
theorem jce:CfgOK joc:=qrd (allS (turOK _) (allS (q79 _) (allS (majOK _) (by simp))))
end
end Go.Proofs.YthkgcljngalafaaDoor.Aes
