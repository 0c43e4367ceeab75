/-
  Texts behind one another: the symbolic simulator and what it is told of the program.
-/
import Derived.Test.YthkgcljngalafaaDoorPq6
import Derived.Shelf.SlMaps.Clone
import Derived.Ground.SlmcProg
namespace Go.Proofs.YthkgcljngalafaaDoor.Aes
noncomputable section
open Go.Sim
open Go.Proofs
variable {α:Type}
set_option maxRecDepth 1000000
def kMk:MSh:=⟨true,.i .i64::mapN (fun _=>SK.i .u8) (qka 32 0)⟩
def uMk:MSh:=⟨true,[]⟩
def chC (m:Nat) (sk lm cl fe:Int):List SV:=[.int .i64 (.sym sk),.int .i64 (.sym lm),.int .i64 (.sym cl),.int .i64 (.sym fe),.map m]
def chO (m:Nat) (sk lm cl fe:Int):SO:=.own (.lst (chC m sk lm cl fe)) true 68
def keyX (v:Value):Value:=.agg (.int .i64 (vNum (qge v 0))::mapN (fun j=>.int .u8 (((BitVec.ofInt 8 (vNum (qge v (j+1)))).toNat:Nat):Int)) (qka 32 0)).toArray
section
variable (es:List MapEntry) (c:Nat) (seen:List Nat) (sk lm cl fe now:Int) (J:Junk) (z:Nat->Nat->Nat)
def usT (st:Option (Nat × Nat)):Tree:=qea (cfgP0.at st) 20000 37 [.ptr ⟨0,.lit 0⟩,.int .i64 (.sym now)] [chO 1 sk lm cl fe,.obj (.amap kMk uMk es c)]
def usS:SS:=q8c (usT es c sk lm cl fe 0 (some (1,0))) [false]
def usC:Cut:=⟨jmj (usS es c sk lm cl fe).frames [[0,18,19]],[.ent (chO 1 sk lm cl fe),.ent (.obj (.amap kMk uMk es c)),.ent (.obj (.iter (some 1) c seen c))]⟩
def us1 (st:Option (Nat × Nat)):Tree:=sim1 (cfgP0.at st) 20000 ((usC es c seen sk lm cl fe).fill J)
def nxB (z:Nat):Nat:=(q6d (qua es seen) z).born
def nxK (b:Nat):Value:=(getB es (qmf (app seen [b]))).key
def nxG:Prop:=¬ qq4 es seen c/\∀ e∈es,e.born<c
def nxE (b:Nat):Prop:=c=c/\app seen [b]≠[]/\∃ e∈es,e.born=qmf (app seen [b])
def usQ (b:Nat):List Prop:=[nxG es c seen,(qua es seen).isEmpty=false,nxE es c seen b,qqa (vNum (qge (nxK es seen b) 0)+sk)]
def n3:List Nat:=[0,1,2]
theorem us_i1:outL [] (usC es c [] sk lm now fe) n3 (usT es c sk lm cl fe now (some (1,0))) [true] z=([decide (now > cl)=true],some (.inr (qra n3 3 (usC es c [] sk lm now fe)))):=by kernel_rfl
theorem us_i0:outL [] (usC es c [] sk lm cl fe) n3 (usT es c sk lm cl fe now (some (1,0))) [false] z=([decide (now > cl)=false],some (.inr (qra n3 3 (usC es c [] sk lm cl fe)))):=by kernel_rfl
theorem jqj:outL [] (usC es c [] sk lm cl fe) n3 (us1 es c seen sk lm cl fe J (some (1,0))) [false,true] z=(app (usQ es c seen sk (nxB es seen (z 0 0))) [decide (vNum (qge (nxK es seen (nxB es seen (z 0 0))) 0)+sk<cl)=true],some (.inr (qra n3 4 (usC (delK es (keyX (nxK es seen (nxB es seen (z 0 0))))) c (app seen [nxB es seen (z 0 0)]) sk lm cl fe)))):=by kernel_rfl
theorem jqg:outL [] (usC es c [] sk lm cl fe) n3 (us1 es c seen sk lm cl fe J (some (1,0))) [false,false] z=(app (usQ es c seen sk (nxB es seen (z 0 0))) [decide (vNum (qge (nxK es seen (nxB es seen (z 0 0))) 0)+sk<cl)=false],some (.inr (qra n3 4 (usC es c (app seen [nxB es seen (z 0 0)]) sk lm cl fe)))):=by kernel_rfl
theorem jrj:outL [0,1] (usC es c [] sk lm cl fe) n3 (us1 es c seen sk lm cl fe J none) [true] z=([nxG es c seen,(qua es seen).isEmpty=true],some (.inl (.tuple [],[some (chO 1 sk lm cl fe),some (.obj (.amap kMk uMk es c))]))):=by kernel_rfl
theorem us_n (es0:List MapEntry) (s:List Nat) (cl':Int):boolC (qza 2 n3 (usC es0 c s sk lm cl' fe) (usC es c seen sk lm cl fe)) (allN qxa (usC es c seen sk lm cl fe).heap) false=true:=by kernel_rfl
end
end
noncomputable section
open Go.Sim
open Go.Proofs
variable {α:Type}
set_option maxRecDepth 1000000
def u8K (k:SK):Bool:=match k with
 | .i .u8=>true
 | _=>false
def qay (k:MSh):Bool:=match k with
 | ⟨true,.i .i64::l⟩=>boolC (Nat.beq (lenN l) 32) (allN u8K l) false
 | _=>false
theorem q3t {k:MSh} (h:qay k=true):k=kMk:=by
 unfold qay at h
 split at h
 . rename_i l
   cases h1:Nat.beq (lenN l) 32 with
   | false=>rw [h1] at h; cases h
   | true =>
     rw [h1] at h
     have h:allN u8K l=true:=h
     have hl:=Nat.eq_of_beq_eq_true h1
     rw [qia] at hl
     have:l=List.replicate 32 (SK.i .u8):=List.eq_replicate_iff.2 ⟨hl,fun x hb=>by
      have:=allN_iff.1 h x hb
      unfold u8K at this
      split at this
      . rfl
      . cases this⟩
     rw [this]; rfl
 . cases h
def qby (k:MSh):Bool:=match k with
 | ⟨true,[]⟩=>true
 | _=>false
theorem q4t {k:MSh} (h:qby k=true):k=uMk:=by
 unfold qby at h
 split at h
 . rfl
 . cases h
structure ChD where
 nm:Nat
 mm:Nat
 sk:SI
 lm:SI
 cl:SI
 fe:SI
 es:List MapEntry
 c:Nat
def chL (e:SO):Option (SI × SI × SI × SI × Nat):=match e with
 | .own (.lst [.int .i64 a,.int .i64 b,.int .i64 c,.int .i64 d,.map m]) true t=>boolC (Nat.beq t 68) (some (a,b,c,d,m)) none
 | _=>none
theorem joc {e:SO} {r:SI × SI × SI × SI × Nat} (h:chL e=some r):e=.own (.lst [.int .i64 r.1,.int .i64 r.2.1,.int .i64 r.2.2.1,.int .i64 r.2.2.2.1,.map r.2.2.2.2]) true 68:=by
 unfold chL at h
 split at h
 . rename_i t
   cases ht:Nat.beq t 68 with
   | false=>rw [ht] at h; cases h
   | true=>rw [ht] at h; cases h; rw [Nat.eq_of_beq_eq_true ht]
 . cases h
def chV (H:List SO) (p:SV) (f:ChD->R α):R α:=optC (q4p p) (.stuck 7970) fun m=>optC (nth H m) (.stuck 7971) fun e=>optC (chL e) (.stuck 7972) fun r=>optC (nth H r.2.2.2.2) (.stuck 7973) fun e=>optC (q1t e) (.stuck 7974) fun q =>
 boolC (qay q.1.1) (boolC (qby q.1.2) (boolC (Nat.beq m r.2.2.2.2) (.stuck 7977) (f ⟨m,r.2.2.2.2,r.1,r.2.1,r.2.2.1,r.2.2.2.1,q.2.1,q.2.2⟩)) (.stuck 7976)) (.stuck 7975)
structure ChIn (H:List SO) (p:SV) (d:ChD):Prop where
 ptr:p=.ptr ⟨d.nm,.lit 0⟩
 cell:H[d.nm]? = some (.own (.lst [.int .i64 d.sk,.int .i64 d.lm,.int .i64 d.cl,.int .i64 d.fe,.map d.mm]) true 68)
 map:H[d.mm]? = some (.obj (.amap kMk uMk d.es d.c))
 ne:d.nm≠d.mm
theorem q4l {H:List SO} {p:SV} {f:ChD->R α} {φ:α->Prop} (h:∀ d,ChIn H p d->(f d).Sat φ):(chV H p f).Sat φ:=by
 refine qda fun m hm=>qda fun e he=>qda fun r hr=>qda fun e2 he2=>qda fun q hq=>qva fun h1=>qva fun h2 => ?_
 cases hn:Nat.beq m r.2.2.2.2 with
 | true=>exact trivial
 | false =>
   rw [qfa] at he he2
   refine h _ ⟨qnj hm,by rw [he,joc hr],by rw [he2,q0q hq,q3t h1,q4t h2],fun e => ?_⟩
   have e:m=r.2.2.2.2:=e
   rw [e,Nat.beq_refl] at hn; cases hn
def chE (d:ChD):List SO:=[chO 1 d.sk.den d.lm.den d.cl.den d.fe.den,.obj (.amap kMk uMk d.es d.c)]
theorem jpc (d:ChD) {f:Nat->Nat} (h:f 1=d.mm):TakenQ f (chO 1 d.sk.den d.lm.den d.cl.den d.fe.den) (.own (.lst [.int .i64 d.sk,.int .i64 d.lm,.int .i64 d.cl,.int .i64 d.fe,.map d.mm]) true 68):=by
 refine ⟨_,rfl,fun β vs hv => ?_⟩
 have:SV.renL f (chC 1 d.sk.den d.lm.den d.cl.den d.fe.den)=chC d.mm d.sk.den d.lm.den d.cl.den d.fe.den:=by
  show [_,_,_,_,SV.map (f 1)]=_
  rw [h]; rfl
 show SV.denL β (SV.renL f _)=some vs
 rw [this]
 exact qba (qna rfl) (qba (qna rfl) (qba (qna rfl) (qba (qna rfl) (qba (.refl _) qwa)))) _ _ hv
def chI (d:ChD) (ar:List SV):Ifc:=⟨[d.nm,d.mm],chE d,.ptr ⟨0,.lit 0⟩::ar⟩
theorem qi0 {H:List SO} {p:SV} {d:ChD} (h:ChIn H p d) {ar:List SV} (hu:SV.usesL (chI d ar).known ar=true):(chI d ar).FitsQ H :=
 Ifc.fitsQ (by show [d.nm,d.mm].Nodup; simpa using h.ne) (by show (true && SV.usesL (chI d ar).known ar)=true; rw [hu]; rfl) ⟨⟨⟨_,h.cell,jpc d rfl⟩,rfl⟩,⟨⟨_,h.map,_,rfl,fun _ _ h=>h⟩,rfl⟩,trivial⟩
def q5t (nm mm:Nat) (sk lm cl fe:Int) (es:List MapEntry) (c:Nat):List (Nat × SO):=[(nm,chO mm sk lm cl fe),(mm,.obj (.amap kMk uMk es c))]
theorem q72 {d:ChD} {ar:List SV} {base:Nat} {keep:List Nat} {H2:List SO} {sk lm cl fe:Int} {es:List MapEntry} {c:Nat} (h0:H2[0]? = some (chO 1 sk lm cl fe)) (h1:H2[1]? = some (.obj (.amap kMk uMk es c))) :
  SetsQ (chI d ar).big ((chI d ar).seen keep) ((chI d ar).out base keep) H2 (qwc (chI d ar).ents 0) (q5t d.nm d.mm sk lm cl fe es c) :=
 ⟨⟨rfl,.inl ⟨_,_,_,_,h0,rfl,.refl _,rfl⟩⟩,⟨rfl,.inr ⟨_,_,h1,rfl,fun _ _ h=>h,rfl⟩⟩,trivial⟩
theorem q82 (v:Value):keyX v=keyM (mkOf v):=by
 unfold keyX keyM
 congr 2
def clk (now cl:Int):Int:=if now > cl then now else cl
def yng (sk cl:Int) (m:Mk):Bool := !decide (m.1+sk<cl)
section
variable {es:List MapEntry} {c:Nat} {l:List Mk} (sk lm cl fe now:Int)
def usK (seen:List Nat):Cut:=usC (qac (yng sk (clk now cl)) es seen) c seen sk lm (clk now cl) fe
def usD (es:List MapEntry) (c:Nat) (v:SV) (H:List SO):Prop:=v=.tuple []/\H[0]? = some (chO 1 sk lm (clk now cl) fe)/\H[1]? = some (.obj (.amap kMk uMk (es.filter fun e=>yng sk (clk now cl) (mkE e)) c))
theorem jrg (h:MarkOK es c l) (hi:∀ m∈l,qqa (m.1+sk)):Runs cfgP0 37 [.ptr ⟨0,.lit 0⟩,.int .i64 (.sym now)] [chO 1 sk lm cl fe,.obj (.amap kMk uMk es c)] (usD sk lm cl fe now es c):=by
 have hm:=h.ok
 have hG:∀ seen,nxG (qac (yng sk (clk now cl)) es seen) c seen:=fun seen=>by
  have hs:(qac (yng sk (clk now cl)) es seen).Sublist es:=List.filter_sublist
  exact ⟨qe0 (c:=c) ⟨hm.nd.sublist (hs.map _),fun e he=>hm.lt e (hs.subset he)⟩,fun e he=>hm.lt e (hs.subset he)⟩
 refine qbd cfgP0OK (usK (es:=es) (c:=c) sk lm cl fe now) (fun seen=>VisOK es seen) (fun seen=>(qua es seen).length) (fun g nm hg=>by cases hg) ?_ fun seen ha J => ?_
 . have e0:usK (es:=es) (c:=c) sk lm cl fe now []=usC es c [] sk lm (clk now cl) fe:=by unfold usK; rw [jlc]
   by_cases hc:now > cl
   . have ec:clk now cl=now:=if_pos hc
     refine qwr (N:=3) (ds:=[true]) (M:=usC es c [] sk lm now fe) (names:=n3) (some (1,0)) 20000 [] (qcv es) (fun z => ?_) ?_ (all_cons (decide_eq_true hc) qaa)
     . rw [e0,ec]; exact us_i1 es c sk lm cl fe now z
     . rw [e0,ec]; exact us_n es c [] sk lm now fe es [] now
   . have ec:clk now cl=cl:=if_neg hc
     refine qwr (N:=3) (ds:=[false]) (M:=usC es c [] sk lm cl fe) (names:=n3) (some (1,0)) 20000 [] (qcv es) (fun z => ?_) ?_ (all_cons (decide_eq_false hc) qaa)
     . rw [e0,ec]; exact us_i0 es c sk lm cl fe now z
     . rw [e0,ec]; exact us_n es c [] sk lm cl fe es [] cl
 show q6b cfgP0 _ (usK (es:=es) (c:=c) sk lm cl fe now) _ _ ((usC (qac (yng sk (clk now cl)) es seen) c seen sk lm (clk now cl) fe).fill J)
 generalize hcl:clk now cl=k at *
 have hnd:((qac (yng sk k) es seen).map fun e=>e.born).Nodup:=hm.nd.sublist (List.filter_sublist.map _)
 cases hl:(qua es seen).isEmpty with
 | true =>
   refine qec (js:=[0,1]) (M:=usC (qac (yng sk k) es seen) c [] sk lm k fe) (names:=n3) none 20000 (fun z=>jrj _ c seen sk lm k fe J z) (all_cons (hG seen) (all_cons (by rw [q7i]; exact hl) qaa)) fun H hH => ?_
   obtain ⟨h0,h1⟩:=List.cons.inj (show [H[0]?,H[1]?]=[some (chO 1 sk lm k fe),some (.obj (.amap kMk uMk (qac (yng sk k) es seen) c))] from hH)
   have h1:=(List.cons.inj h1).1
   rw [jmc hl] at h1
   subst hcl
   exact ⟨rfl,h0,h1⟩
 | false =>
   have hp:∀ z,q6d (qua es seen) z∈qua es seen:=fun z=>qd0 hl z
   have hgB:∀ {e:MapEntry},e∈qua es seen->nxK (qac (yng sk k) es seen) seen e.born=e.key:=fun {e} he=>by
    unfold nxK
    rw [q1k,q3p hnd]
    have he:e∈qua (qac (yng sk k) es seen) seen:=by rw [q7i]; exact he
    exact (left_mem.1 he).1
   have hB:∀ z,nxB (qac (yng sk k) es seen) seen z=(q6d (qua es seen) z).born:=fun z=>by unfold nxB; rw [q7i]
   have hQ:∀ {e:MapEntry},e∈qua es seen->∀ p∈usQ (qac (yng sk k) es seen) c seen sk e.born,p:=fun {e} he=>by
    refine all_cons (hG seen) (all_cons (by rw [q7i]; exact hl) (all_cons ⟨rfl,by rw [q6a]; simp,e,?_,(q1k _ _).symm⟩ (all_cons ?_ qaa)))
    . have he:e∈qua (qac (yng sk k) es seen) seen:=by rw [q7i]; exact he
      exact (left_mem.1 he).1
    . rw [hgB he]
      exact hi (mkE e) (h.perm.mem_iff.2 (List.mem_map.2 ⟨e,(left_mem.1 he).1,rfl⟩))
   refine qxr (js:=[]) (K:=fun _=>False) (some (1,0)) 20000 (M:=usC (qac (yng sk k) es seen) c [] sk lm k fe) (names:=n3) (fun z => ?_) (fun v es h=>h.elim)
   have hb:=hp (z 0 0)
   generalize he:q6d (qua es seen) (z 0 0)=e at hb
   have hbe:nxB (qac (yng sk k) es seen) seen (z 0 0)=e.born:=by rw [hB,he]
   have hlt:(qua es (app seen [e.born])).length<(qua es seen).length:=q02 hb
   have hk1:vNum (qge e.key 0)=(mkE e).1:=rfl
   by_cases hc:(mkE e).1+sk<k
   . have hr:=jqj (qac (yng sk k) es seen) c seen sk lm k fe J z
     rw [hbe,hgB hb,q82] at hr
     have hno:=jpg (p:=yng sk k) h hb (by unfold yng; rw [decide_eq_true hc]; rfl)
     have hno:delK (qac (yng sk k) es seen) (keyM (mkOf e.key))=qac (yng sk k) es (app seen [e.born]):=hno
     rw [hno] at hr
     refine ⟨_,_,_,hr,qtd (hQ hb) (all_cons (decide_eq_true hc) qaa),?_⟩
     show SeenTurn _ _ _ _ _ _
     subst hcl
     exact SeenTurn.of (C:=usK (es:=es) (c:=c) sk lm cl fe now) (app seen [e.born]) ⟨qyr ha hb,hlt⟩ (us_n _ c _ sk lm _ fe _ _ _)
   . have hr:=jqg (qac (yng sk k) es seen) c seen sk lm k fe J z
     rw [hbe,hgB hb] at hr
     have hy:=jnc (p:=yng sk k) (seen:=seen) hm.nd (left_mem.1 hb).1 (by unfold yng; rw [decide_eq_false hc]; rfl)
     refine ⟨_,_,_,hr,qtd (hQ hb) (all_cons (decide_eq_false hc) qaa),?_⟩
     rw [← hy]
     show SeenTurn _ _ _ _ _ _
     subst hcl
     exact SeenTurn.of (C:=usK (es:=es) (c:=c) sk lm cl fe now) (app seen [e.born]) ⟨qyr ha hb,hlt⟩ (us_n _ c _ sk lm _ fe _ _ _)
end
def lsM (es:List MapEntry):List Mk:=srtM (es.map mkE)
theorem qap {es:List MapEntry} {c:Nat} {l:List Mk} (h:MarkOK es c l):lsM es=l:=h.srt (.refl _)
def ChOK (es:List MapEntry) (c:Nat):Prop:=MarkOK es c (lsM es)
def esU (es:List MapEntry) (sk k:Int):List MapEntry:=es.filter fun e=>yng sk k (mkE e)
def usSm:Summ:=fun args H _=>qkd args fun p n=>chV H p fun d=>optC (i64V n) (.stuck 7978) fun now =>
 .need (ChOK d.es d.c/\∀ m∈lsM d.es,qqa (m.1+d.sk.den)) (.ok ⟨.tuple [],q5t d.nm d.mm d.sk.den d.lm.den (clk now.den d.cl.den) d.fe.den (esU d.es d.sk.den (clk now.den d.cl.den)) d.c,[]⟩)
theorem usOK:qdb Tryd.prog 37 usSm:=by
 intro glob O w0 β H w base args vs hH hG ha
 refine qrb fun p n hv=>q4l fun d hd=>qda fun now hn => ?_
 rw [hv,hd.ptr,qsc hn] at ha
 rintro ⟨h,hi⟩
 refine qid (c:=cfgP0) hH (chI d [.int .i64 (.sym now.den)]) (by intro g j hg; cases hg) ?_ (qi0 hd rfl) [] (by simp) (by simp) (qlb (jrg d.sk.den d.lm.den d.cl.den d.fe.den now.den h hi) fun v H2 ⟨h1,h2,h3⟩ => ?_)
 . exact qba (.refl _) (qba (qna rfl) qwa) _ _ ha
 . subst h1
   exact ⟨.refl _,rfl,q72 h2 h3,trivial⟩
end
noncomputable section
open Go.Sim
open Go.Proofs
variable {α:Type}
set_option maxRecDepth 1000000
def cfgU:Cfg:=q8f (qdc [(37,usSm)])
theorem jsj:CfgOK cfgU:=qgd (all1 usOK)
def dgS (d:Dg):SV:=.agg (mapN (fun j=>.int .u8 (.b8 (d.at j))) (qka 32 0))
def keyD (t:Int) (d:Dg):Value:=.agg (.int .i64 t::mapN (fun j=>.int .u8 ((d.at j).toNat:Int)) (qka 32 0)).toArray
section
variable (es:List MapEntry) (c:Nat) (sk lm cl fe:Int) (d:Dg) (t now:Int)
def prT:Tree:=qea cfgU 20000 16 [.ptr ⟨0,.lit 0⟩,dgS d,.int .i64 (.sym t),.int .i64 (.sym now)] [chO 1 sk lm cl fe,.obj (.amap kMk uMk es c)]
def ueT:Tree:=qea cfgU 20000 13 [.ptr ⟨0,.lit 0⟩,.int .i64 (.sym now)] [chO 1 sk lm cl fe,.obj (.amap kMk uMk es c)]
def feT:Tree:=qea cfgU 20000 15 [.ptr ⟨0,.lit 0⟩,.int .i64 (.sym now)] [chO 1 sk lm cl fe,.obj (.amap kMk uMk es c)]
def chR (e:Int) (sk lm cl fe:Int) (es:List MapEntry) (c:Nat):Option (SV × List (Option SO)):=some (.int .i64 (.lit e),[some (chO 1 sk lm cl fe),some (.obj (.amap kMk uMk es c))])
def lm0:Prop:=(lm == 0)=false
def tLo (t:Int):Prop:=decide (t>=0)=false
def tHi (t:Int) (q:List Prop):List Prop:=(decide (t>=0)=true)::q
def tMx (t:Int):Prop:=(!decide (t<=1099511627776))=true
def tOk (t:Int) (q:List Prop):List Prop:=(decide (t>=0)=true)::((!decide (t<=1099511627776))=false)::q
def usN:Prop:=ChOK es c/\∀ m∈lsM es,qqa (m.1+sk)
def prQ (q:List Prop):List Prop:=lm0 lm::tOk t (tOk now (usN es c sk::qqa (clk now cl - sk)::q))
def prR (q:List Prop):List Prop:=prQ es c sk lm cl t now ((decide (t<clk now cl - sk)=false)::qqa (clk now cl+sk)::q)
def esN:List MapEntry:=esU es sk (clk now cl)
theorem pr_a1:outO [0,1] (prT es c sk lm cl fe d t now) [false,false,false,false]=(lm0 lm::repN (tLo t) 3,chR 2 sk lm cl fe es c):=by kernel_rfl
theorem pr_a2:outO [0,1] (prT es c sk lm cl fe d t now) [false,true,true,true,true,true]=(lm0 lm::tHi t (repN (tMx t) 4),chR 2 sk lm cl fe es c):=by kernel_rfl
theorem pr_b1:outO [0,1] (prT es c sk lm cl fe d t now) [false,true,false,false,false,false]=(lm0 lm::tOk t (repN (tLo now) 3),chR 2 sk lm cl fe es c):=by kernel_rfl
theorem pr_b2:outO [0,1] (prT es c sk lm cl fe d t now) [false,true,false,true,true]=(lm0 lm::tOk t (tHi now [tMx now]),chR 2 sk lm cl fe es c):=by kernel_rfl
theorem pr_r1:outO [0,1] (prT es c sk lm cl fe d t now) [false,true,false,true,false,true,true,true,true,true,true,true,true,true,true,true,true]=(prQ es c sk lm cl t now (repN (decide (t<clk now cl - sk)=true) 12),chR 3 sk lm (clk now cl) fe (esN es sk cl now) c):=by kernel_rfl
theorem pr_r2:outO [0,1] (prT es c sk lm cl fe d t now) [false,true,false,true,false,false,true]=(prR es c sk lm cl t now [decide (t > clk now cl+sk)=true],chR 3 sk lm (clk now cl) fe (esN es sk cl now) c):=by kernel_rfl
theorem pr_st:outO [0,1] (prT es c sk lm cl fe d t now) [false,true,false,true,false,false,false,true]=(prR es c sk lm cl t now [decide (t > clk now cl+sk)=false,decide (t<=fe)=true],chR 8 sk lm (clk now cl) fe (esN es sk cl now) c):=by kernel_rfl
theorem pr_bu:outO [0,1] (prT es c sk lm cl fe d t now) [false,true,false,true,false,false,false,false,true]=(prR es c sk lm cl t now [decide (t > clk now cl+sk)=false,decide (t<=fe)=false,hasK (esN es sk cl now) (keyD t d)=true],chR 11 sk lm (clk now cl) fe (esN es sk cl now) c):=by kernel_rfl
theorem pr_fu:outO [0,1] (prT es c sk lm cl fe d t now) [false,true,false,true,false,false,false,false,false,true]=(prR es c sk lm cl t now [decide (t > clk now cl+sk)=false,decide (t<=fe)=false,hasK (esN es sk cl now) (keyD t d)=false,decide (((esN es sk cl now).length:Int)>=lm)=true],chR 7 sk lm (clk now cl) fe (esN es sk cl now) c):=by kernel_rfl
theorem pr_ok:outO [0,1] (prT es c sk lm cl fe d t now) [false,true,false,true,false,false,false,false,false,false,false]=(prR es c sk lm cl t now [decide (t > clk now cl+sk)=false,decide (t<=fe)=false,hasK (esN es sk cl now) (keyD t d)=false,decide (((esN es sk cl now).length:Int)>=lm)=false,hasK (esN es sk cl now) (keyD t d)=false],chR 0 sk lm (clk now cl) fe (insK (esN es sk cl now) c (keyD t d) (.agg #[])) (c+1)):=by kernel_rfl
theorem ue_ok:outO [0,1] (ueT es c sk lm cl fe now) [false,true,false]=(lm0 lm::tOk now [usN es c sk],chR 0 sk lm (clk now cl) fe (esN es sk cl now) c):=by kernel_rfl
theorem ue_a1:outO [0,1] (ueT es c sk lm cl fe now) [false,false,false,false]=(lm0 lm::repN (tLo now) 3,chR 2 sk lm cl fe es c):=by kernel_rfl
theorem ue_a2:outO [0,1] (ueT es c sk lm cl fe now) [false,true,true]=(lm0 lm::tHi now [tMx now],chR 2 sk lm cl fe es c):=by kernel_rfl
theorem fe_a1:outO [0,1] (feT es c sk lm cl fe now) [false,false,false,false]=(lm0 lm::repN (tLo now) 3,chR 2 sk lm cl fe es c):=by kernel_rfl
theorem fe_a2:outO [0,1] (feT es c sk lm cl fe now) [false,true,true]=(lm0 lm::tHi now [tMx now],chR 2 sk lm cl fe es c):=by kernel_rfl
theorem fe_ok:outO [0,1] (feT es c sk lm cl fe now) [false,true,false]=(lm0 lm::tOk now [usN es c sk,qqa (clk now cl+sk)],chR 0 sk lm (clk now cl) (clk now cl+sk) (esN es sk cl now) c):=by kernel_rfl
end
end
noncomputable section
open Go.Sim
open Go.Proofs
variable {α:Type}
set_option maxRecDepth 1000000
def vTm (t:Int):Prop:=0<=t/\t<=1099511627776
structure ChW (es:List MapEntry) (c:Nat) (sk lm cl fe:Int):Prop where
 ok:ChOK es c
 hsk:0<=sk/\sk<=1048576
 hlm:1<=lm/\lm<=65536
 hcl:vTm cl
 hfe : -1<=fe/\fe<=1099511627776+1048576
 tm:∀ m∈lsM es,vTm m.1
 nr:∀ m∈lsM es,cl - sk<=m.1/\m.1<=cl+sk
 sz:((lsM es).length:Int)<=lm
section
variable {es:List MapEntry} {c:Nat} {sk lm cl fe:Int}
theorem ChW.len (h:ChW es c sk lm cl fe):es.length=(lsM es).length:=h.ok.len.symm
theorem q5l {now cl:Int} (h:vTm now) (h':vTm cl):vTm (clk now cl):=by unfold clk; split <;> assumption
theorem qp9 (now cl:Int):cl<=clk now cl:=by unfold clk; split <;> omega
theorem q92 (h:ChOK es c) (now:Int):lsM (esN es sk cl now)=(lsM es).filter (yng sk (clk now cl)):=qap (h.filter _)
theorem ChW.use (h:ChW es c sk lm cl fe) {now:Int} (hn:vTm now):ChW (esN es sk cl now) c sk lm (clk now cl) fe:=by
 have hl:=q92 (sk:=sk) (cl:=cl) h.ok now
 have hs:∀ m∈lsM (esN es sk cl now),m∈lsM es/\clk now cl - sk<=m.1:=fun m hm=>by
  rw [hl,List.mem_filter] at hm
  refine ⟨hm.1,?_⟩
  have:=hm.2
  unfold yng at this
  simp at this
  omega
 have h1:=qp9 now cl
 refine ⟨?_,h.hsk,h.hlm,q5l hn h.hcl,h.hfe,fun m hm=>h.tm m (hs m hm).1,fun m hm=>⟨(hs m hm).2,?_⟩,?_⟩
 . show MarkOK _ c (lsM _)
   rw [hl]; exact h.ok.filter _
 . have:=(h.nr m (hs m hm).1).2; omega
 . have:=List.length_filter_le (yng sk (clk now cl)) (lsM es)
   have:=h.sz
   rw [hl]; omega
theorem ChW.fence (h:ChW es c sk lm cl fe):ChW es c sk lm cl (cl+sk):=⟨h.ok,h.hsk,h.hlm,h.hcl,by have:=h.hcl; have:=h.hsk; unfold vTm at *; omega,h.tm,h.nr,h.sz⟩
theorem qa3 (h:ChOK es c) {m:Mk} (hn:hasK es (keyM m)=false):lsM (insK es c (keyM m) (.agg #[]))=insM m (lsM es):=qap (h.ins fun hm=>by rw [h.has.2 hm] at hn; cases hn)
theorem ChW.pres (h:ChW es c sk lm cl fe) {m:Mk} (hn:hasK es (keyM m)=false) (hm:vTm m.1) (h1:cl - sk<=m.1) (h2:m.1<=cl+sk) (hz:(es.length:Int)<lm):ChW (insK es c (keyM m) (.agg #[])) (c+1) sk lm cl fe:=by
 have hl:=qa3 h.ok hn
 have hs:∀ x∈lsM (insK es c (keyM m) (.agg #[])),x=m\/x∈lsM es:=fun x hx=>by
  rw [hl] at hx
  exact List.mem_cons.1 ((qch m _).mem_iff.1 hx)
 refine ⟨?_,h.hsk,h.hlm,h.hcl,h.hfe,fun x hx => ?_,fun x hx => ?_,?_⟩
 . show MarkOK _ (c+1) (lsM _)
   rw [hl]; exact h.ok.ins fun hm=>by rw [h.ok.has.2 hm] at hn; cases hn
 . rcases hs x hx with rfl | hx
   . exact hm
   . exact h.tm x hx
 . rcases hs x hx with rfl | hx
   . exact ⟨h1,h2⟩
   . exact h.nr x hx
 . rw [hl,(qch m _).length_eq,List.length_cons]
   have:=h.len
   omega
theorem ChW.usN (h:ChW es c sk lm cl fe):usN es c sk:=⟨h.ok,fun m hm=>by
 have:=h.tm m hm
 have:=h.hsk
 unfold vTm at *
 exact ⟨by omega,by omega⟩⟩
theorem ChW.lm0 (h:ChW es c sk lm cl fe):lm0 lm:=by
 have:=h.hlm
 show (lm == 0)=false
 simp; omega
end
theorem qgv (t:Int) (d:Dg):keyD t d=keyM (t,d):=by
 unfold keyD keyM
 congr 2
def dgV (v:SV):Option Dg:=match v with
 | .agg l=>optC (unb l) none fun xs=>boolC (Nat.beq (lenN xs) 32) (some (dgOf (q3a xs))) none
 | _=>none
theorem jsg (d:Dg) (β:Val):SV.denL β (mapN (fun j=>.int .u8 (.b8 (d.at j))) (qka 32 0))=some ((List.range 32).map fun j=>Value.int .u8 ((d.at j).toNat:Int)):=by
 obtain ⟨_,_,_,h4,h5⟩:=denL_cons.1 (qtg (0,d) β)
 cases h5
 exact h4
theorem qj0 {v:SV} {d:Dg} (h:dgV v=some d):v.Imp (dgS d):=by
 unfold dgV at h
 split at h
 . rename_i l
   cases hu:unb l with
   | none=>rw [hu] at h; cases h
   | some xs =>
     rw [hu] at h
     have h:boolC (Nat.beq (lenN xs) 32) (some (dgOf (q3a xs))) none=some d:=h
     cases hl:Nat.beq (lenN xs) 32 with
     | false=>rw [hl] at h; cases h
     | true =>
       rw [hl] at h
       cases h
       have hl:=Nat.eq_of_beq_eq_true hl
       rw [qia] at hl
       refine qah fun γ vs hv => ?_
       obtain ⟨h1,h2⟩:=qef hu hv
       refine (jsg (dgOf (q3a xs)) γ).trans (congrArg some ?_)
       refine List.ext_getElem (by simp; omega) fun i g1 g2 => ?_
       have hi:i<32:=by simpa using g1
       have:=h2 i (by omega)
       rw [List.getElem?_eq_getElem g2] at this
       rw [Option.some.inj this]
       simp [qxc _ hi]
 . cases h
def chOk (d:ChD) (e:Int) (cl fe:Int) (es:List MapEntry) (c:Nat):R SumRes:=.ok ⟨.int .i64 (.lit e),q5t d.nm d.mm d.sk.den d.lm.den cl fe es c,[]⟩
def ChD.w (d:ChD):Prop:=ChW d.es d.c d.sk.den d.lm.den d.cl.den d.fe.den
def ChD.esN (d:ChD) (now:Int):List MapEntry:=Go.Proofs.YthkgcljngalafaaDoor.Aes.esN d.es d.sk.den d.cl.den now
def ChD.k (d:ChD) (now:Int):Int:=clk now d.cl.den
def ueSm:Summ:=fun args H _=>qkd args fun p n=>chV H p fun d=>optC (i64V n) (.stuck 7978) fun now =>
 .need d.w (.fork (cB (vTm now.den)) (chOk d 0 (d.k now.den) d.fe.den (d.esN now.den) d.c) (chOk d 2 d.cl.den d.fe.den d.es d.c))
def feSm:Summ:=fun args H _=>qkd args fun p n=>chV H p fun d=>optC (i64V n) (.stuck 7978) fun now =>
 .need d.w (.fork (cB (vTm now.den)) (chOk d 0 (d.k now.den) (d.k now.den+d.sk.den) (d.esN now.den) d.c) (chOk d 2 d.cl.den d.fe.den d.es d.c))
def farP (d:ChD) (t now:Int):Prop:=t<d.k now - d.sk.den\/d.k now+d.sk.den<t
def prOut (d:ChD) (g:Dg) (t now:Int):R SumRes :=
 .fork (cB (vTm t/\vTm now)) (.fork (cB (farP d t now)) (chOk d 3 (d.k now) d.fe.den (d.esN now) d.c) (.fork (cB (t<=d.fe.den)) (chOk d 8 (d.k now) d.fe.den (d.esN now) d.c) (.fork (hasK (d.esN now) (keyM (t,g))) (chOk d 11 (d.k now) d.fe.den (d.esN now) d.c)
  (.fork (cB (d.lm.den<=((d.esN now).length:Int))) (chOk d 7 (d.k now) d.fe.den (d.esN now) d.c) (chOk d 0 (d.k now) d.fe.den (insK (d.esN now) d.c (keyM (t,g)) (.agg #[])) (d.c+1)))))) (chOk d 2 d.cl.den d.fe.den d.es d.c)
theorem q5c {H:List SO} {O:Nat->Prop} {w0 w:World} {β:Val} {base:Nat} {f:FuncId} {vs:List Value} (hH:HeapRel0 Tryd.prog O w0 β H w) {p:SV} {d:ChD} (hd:ChIn H p d) {ar:List SV} (hu:SV.usesL (chI d ar).known ar=true) (ha:SV.denL β (SV.renL (chI d ar).big (chI d ar).args)=some vs)
  {ds:List Bool} {ps:List Prop} {e cl fe:Int} {es:List MapEntry} {c:Nat} (hr:outO [0,1] (qea cfgU 20000 f (.ptr ⟨0,.lit 0⟩::ar) (chE d)) ds=(ps,chR e d.sk.den d.lm.den cl fe es c)) (hp:∀ p∈ps,p):(chOk d e cl fe es c).Sat (SumSem Tryd.prog H β w base f vs) :=
 qyb jsj 20000 hH (chI d ar) (by intro g j hg; cases hg) ha (qi0 hd hu) [] (by simp) (by simp) (qya hr hp fun H2 hH2=>by
  obtain ⟨h0,h1⟩:=List.cons.inj (show [H2[0]?,H2[1]?]=[some (chO 1 d.sk.den d.lm.den cl fe),some (.obj (.amap kMk uMk es c))] from hH2)
  exact ⟨.refl _,rfl,q72 h0 (List.cons.inj h1).1,trivial⟩)
theorem qje {t:Int} (h:vTm t) {q:List Prop} (hq:∀ p∈q,p):∀ p∈tOk t q,p :=
 all_cons (decide_eq_true h.1) (all_cons (by rw [decide_eq_true h.2]; rfl) hq)
theorem qpi {t:Int} (h:¬ vTm t):tLo t\/(decide (t>=0)=true/\tMx t):=by
 unfold vTm at h
 by_cases c:0<=t
 . refine .inr ⟨decide_eq_true c,?_⟩
   show (!decide (t<=1099511627776))=true
   rw [decide_eq_false (by omega)]; rfl
 . exact .inl (decide_eq_false c)
theorem ueOK:qdb Tryd.prog 13 ueSm:=by
 intro glob O w0 β H w base args vs hH hG ha
 refine qrb fun p n hv=>q4l fun d hd=>qda fun now hn => ?_
 rw [hv,hd.ptr,qsc hn] at ha
 intro hw
 have ha:SV.denL β (SV.renL (chI d [.int .i64 (.sym now.den)]).big (chI d [.int .i64 (.sym now.den)]).args)=some vs:=qba (.refl _) (qba (qna rfl) qwa) _ _ ha
 refine ⟨fun hc => ?_,fun hc => ?_⟩
 . have hc:=cBi.1 hc
   exact q5c hH hd rfl ha (ue_ok d.es d.c d.sk.den d.lm.den d.cl.den d.fe.den now.den) (all_cons hw.lm0 (qje hc (all_cons hw.usN qaa)))
 . have hc:¬ vTm now.den:=fun h=>by rw [qta h] at hc; cases hc
   rcases qpi hc with h | ⟨h,h'⟩
   . exact q5c hH hd rfl ha (ue_a1 d.es d.c d.sk.den d.lm.den d.cl.den d.fe.den now.den) (all_cons hw.lm0 (qgb h 3))
   . exact q5c hH hd rfl ha (ue_a2 d.es d.c d.sk.den d.lm.den d.cl.den d.fe.den now.den) (all_cons hw.lm0 (all_cons h (all_cons h' qaa)))
theorem feOK:qdb Tryd.prog 15 feSm:=by
 intro glob O w0 β H w base args vs hH hG ha
 refine qrb fun p n hv=>q4l fun d hd=>qda fun now hn => ?_
 rw [hv,hd.ptr,qsc hn] at ha
 intro hw
 have ha:SV.denL β (SV.renL (chI d [.int .i64 (.sym now.den)]).big (chI d [.int .i64 (.sym now.den)]).args)=some vs:=qba (.refl _) (qba (qna rfl) qwa) _ _ ha
 refine ⟨fun hc => ?_,fun hc => ?_⟩
 . have hc:=cBi.1 hc
   refine q5c hH hd rfl ha (fe_ok d.es d.c d.sk.den d.lm.den d.cl.den d.fe.den now.den) (all_cons hw.lm0 (qje hc (all_cons hw.usN (all_cons ?_ qaa))))
   have:=(hw.use hc).fence.hfe
   exact ⟨by omega,by omega⟩
 . have hc:¬ vTm now.den:=fun h=>by rw [qta h] at hc; cases hc
   rcases qpi hc with h | ⟨h,h'⟩
   . exact q5c hH hd rfl ha (fe_a1 d.es d.c d.sk.den d.lm.den d.cl.den d.fe.den now.den) (all_cons hw.lm0 (qgb h 3))
   . exact q5c hH hd rfl ha (fe_a2 d.es d.c d.sk.den d.lm.den d.cl.den d.fe.den now.den) (all_cons hw.lm0 (all_cons h (all_cons h' qaa)))
theorem cB_f {p:Prop} (h:cB p=false):¬ p:=fun c=>by rw [qta c] at h; cases h
theorem jtg {H:List SO} {O:Nat->Prop} {w0 w:World} {β:Val} {base:Nat} {vs:List Value} (hH:HeapRel0 Tryd.prog O w0 β H w) {d:ChD} {g':SV} {g:Dg} {t now:SI} {p:SV} (hd:ChIn H p d) (hg:dgV g'=some g)
  (ha:SV.denL β [.ptr ⟨d.nm,.lit 0⟩,g',.int .i64 t,.int .i64 now]=some vs) (hw:d.w):(prOut d g t.den now.den).Sat (SumSem Tryd.prog H β w base 16 vs):=by
 have ha:SV.denL β (SV.renL (chI d [dgS g,.int .i64 (.sym t.den),.int .i64 (.sym now.den)]).big (chI d [dgS g,.int .i64 (.sym t.den),.int .i64 (.sym now.den)]).args)=some vs:=qba (.refl _) (qba (qj0 hg) (qba (qna rfl) (qba (qna rfl) qwa))) _ _ ha
 have hu:SV.usesL (chI d [dgS g,.int .i64 (.sym t.den),.int .i64 (.sym now.den)]).known [dgS g,.int .i64 (.sym t.den),.int .i64 (.sym now.den)]=true:=by kernel_rfl
 refine ⟨fun hc => ?_,fun hc => ?_⟩
 . obtain ⟨h1,h2⟩:=cBi.1 hc
   have hu2:=hw.use h2
   have hk:=hu2.hcl
   have hsk:=hw.hsk
   have i1:qqa (clk now.den d.cl.den - d.sk.den):=by unfold vTm at hk; exact ⟨by omega,by omega⟩
   have i2:qqa (clk now.den d.cl.den+d.sk.den):=by unfold vTm at hk; exact ⟨by omega,by omega⟩
   have q0:∀ {q:List Prop},(∀ p∈q,p)->∀ p∈prQ d.es d.c d.sk.den d.lm.den d.cl.den t.den now.den q,p:=fun {q} hq=>all_cons hw.lm0 (qje h1 (qje h2 (all_cons hw.usN (all_cons i1 hq))))
   refine ⟨fun hf => ?_,fun hf => ?_⟩
   . by_cases h3:t.den<clk now.den d.cl.den - d.sk.den
     . exact q5c hH hd hu ha (pr_r1 d.es d.c d.sk.den d.lm.den d.cl.den d.fe.den g t.den now.den) (q0 (qgb (decide_eq_true h3) 12))
     . rcases cBi.1 hf with hf | hf
       . exact absurd hf h3
       . exact q5c hH hd hu ha (pr_r2 d.es d.c d.sk.den d.lm.den d.cl.den d.fe.den g t.den now.den) (q0 (all_cons (decide_eq_false h3) (all_cons i2 (all_cons (decide_eq_true hf) qaa))))
   . have hf:=cB_f hf
     have h3:¬ t.den<clk now.den d.cl.den - d.sk.den:=fun h=>hf (.inl h)
     have h4:¬ clk now.den d.cl.den+d.sk.den<t.den:=fun h=>hf (.inr h)
     have q1:∀ {q:List Prop},(∀ p∈q,p)->∀ p∈prR d.es d.c d.sk.den d.lm.den d.cl.den t.den now.den ((decide (t.den > clk now.den d.cl.den+d.sk.den)=false)::q),p:=fun {q} hq=>q0 (all_cons (decide_eq_false h3) (all_cons i2 (all_cons (decide_eq_false h4) hq)))
     refine ⟨fun h5 => ?_,fun h5 => ?_⟩
     . exact q5c hH hd hu ha (pr_st d.es d.c d.sk.den d.lm.den d.cl.den d.fe.den g t.den now.den) (q1 (all_cons (decide_eq_true (cBi.1 h5)) qaa))
     . have h5:decide (t.den<=d.fe.den)=false:=decide_eq_false (cB_f h5)
       refine ⟨fun h6 => ?_,fun h6 => ?_⟩
       . rw [← qgv] at h6
         exact q5c hH hd hu ha (pr_bu d.es d.c d.sk.den d.lm.den d.cl.den d.fe.den g t.den now.den) (q1 (all_cons h5 (all_cons h6 qaa)))
       . rw [← qgv] at h6
         refine ⟨fun h7 => ?_,fun h7 => ?_⟩
         . exact q5c hH hd hu ha (pr_fu d.es d.c d.sk.den d.lm.den d.cl.den d.fe.den g t.den now.den) (q1 (all_cons h5 (all_cons h6 (all_cons (decide_eq_true (cBi.1 h7)) qaa))))
         . rw [← qgv]
           exact q5c hH hd hu ha (pr_ok d.es d.c d.sk.den d.lm.den d.cl.den d.fe.den g t.den now.den) (q1 (all_cons h5 (all_cons h6 (all_cons (decide_eq_false (cB_f h7)) (all_cons h6 qaa)))))
 . have hc:=cB_f hc
   by_cases h1:vTm t.den
   . have h2:¬ vTm now.den:=fun h=>hc ⟨h1,h⟩
     rcases qpi h2 with h | ⟨h,h'⟩
     . exact q5c hH hd hu ha (pr_b1 d.es d.c d.sk.den d.lm.den d.cl.den d.fe.den g t.den now.den) (all_cons hw.lm0 (qje h1 (qgb h 3)))
     . exact q5c hH hd hu ha (pr_b2 d.es d.c d.sk.den d.lm.den d.cl.den d.fe.den g t.den now.den) (all_cons hw.lm0 (qje h1 (all_cons h (all_cons h' qaa))))
   . rcases qpi h1 with h | ⟨h,h'⟩
     . exact q5c hH hd hu ha (pr_a1 d.es d.c d.sk.den d.lm.den d.cl.den d.fe.den g t.den now.den) (all_cons hw.lm0 (qgb h 3))
     . exact q5c hH hd hu ha (pr_a2 d.es d.c d.sk.den d.lm.den d.cl.den d.fe.den g t.den now.den) (all_cons hw.lm0 (all_cons h (qgb h' 4)))
end
noncomputable section
open Go.Sim
open Go.Proofs
variable {α:Type}
set_option maxRecDepth 1000000
section
variable (sk lm:Int)
def nwT:Tree:=qea cfgP0 20000 12 [.int .i64 (.sym sk),.int .i64 (.sym lm)] []
def nwX:Option (SV × List (Option SO)):=some (.tuple [.nilPtr,.int .i64 (.lit 2)],[])
def nwC:SO:=.own (.lst [.int .i64 (.sym sk),.int .i64 (.sym lm),.int .i64 (.lit 0),.int .i64 (.lit (-1)),.map 0]) true 68
theorem nw_1:outO [] (nwT sk lm) [true,true,true]=(repN (decide (sk<0)=true) 3,nwX):=by kernel_rfl
theorem nw_2:outO [] (nwT sk lm) [false,true,true,true]=((decide (sk<0)=false)::repN (decide (sk > 1048576)=true) 3,nwX):=by kernel_rfl
theorem nw_3:outO [] (nwT sk lm) [false,false,true,true,true]=((decide (sk<0)=false)::(decide (sk > 1048576)=false)::repN (decide (lm<1)=true) 3,nwX):=by kernel_rfl
theorem nw_4:outO [] (nwT sk lm) [false,false,false,true]=([decide (sk<0)=false,decide (sk > 1048576)=false,decide (lm<1)=false,decide (lm > 65536)=true],nwX):=by kernel_rfl
theorem nw_ok:outO [0,1] (nwT sk lm) [false,false,false,false]=([decide (sk<0)=false,decide (sk > 1048576)=false,decide (lm<1)=false,decide (lm > 65536)=false],some (.tuple [.ptr ⟨1,.lit 0⟩,.int .i64 (.lit 0)],[some (.obj (.map [] 0)),some (nwC sk lm)])):=by kernel_rfl
end
def nwP (sk lm:Int):Prop:=(0<=sk/\sk<=1048576)/\1<=lm/\lm<=65536
def nwSm:Summ:=fun args _ base=>qkd args fun a b=>optC (i64V a) (.stuck 7930) fun a=>optC (i64V b) (.stuck 7930) fun b =>
 .fork (cB (nwP a.den b.den)) (.ok ⟨.tuple [.ptr ⟨base,.lit 0⟩,.int .i64 (.lit 0)],[],[chO (base+1) a.den b.den 0 (-1),.obj (.amap kMk uMk [] 0)]⟩) (.ok ⟨.tuple [.nilPtr,.int .i64 (.lit 2)],[],[]⟩)
theorem nwOK:qdb Tryd.prog 12 nwSm:=by
 intro glob O w0 β H w base args vs hH hG ha
 refine qrb fun p q hv=>qda fun a hp=>qda fun b hq => ?_
 rw [hv,qsc hp,qsc hq] at ha
 have hA:SV.denL β (SV.renL (Ifc.mk [] [] [.int .i64 (.sym a.den),.int .i64 (.sym b.den)]).big [.int .i64 (.sym a.den),.int .i64 (.sym b.den)])=some vs:=qba (qna rfl) (qba (qna rfl) qwa) _ _ ha
 have hF:(Ifc.mk [] [] [.int .i64 (.sym a.den),.int .i64 (.sym b.den)]).FitsQ H:=Ifc.fitsQ (by simp) rfl trivial
 refine ⟨fun hc => ?_,fun hc => ?_⟩
 . obtain ⟨⟨h1,h2⟩,h3,h4⟩:=cBi.1 hc
   refine qyb cfgP0OK 20000 hH ⟨[],[],[.int .i64 (.sym a.den),.int .i64 (.sym b.den)]⟩ (by intro g j hg; cases hg) hA hF [1,0] (by simp) (by simp) (qya (nw_ok a.den b.den) (all_cons (decide_eq_false (by omega)) (all_cons (decide_eq_false (by omega)) (all_cons (decide_eq_false (by omega)) (all_cons (decide_eq_false (by omega)) qaa)))) fun H2 hH2 => ?_)
   obtain ⟨h0,h1⟩:=List.cons.inj (show [H2[0]?,H2[1]?]=[some (.obj (.map [] 0)),some (nwC a.den b.den)] from hH2)
   refine ⟨.refl _,rfl,trivial,⟨.inl ⟨_,_,_,_,(List.cons.inj h1).1,rfl,?_,rfl⟩,.inr ⟨_,_,h0,rfl,fun β x h=>SObj.amap_den.2 ⟨fun e he=>(by cases he),by cases h; rfl⟩,rfl⟩,trivial⟩⟩
   exact fun γ us h=>h
 . have hc:¬ nwP a.den b.den:=fun h=>by rw [qta h] at hc; cases hc
   have go:∀ {ds ps},outO [] (nwT a.den b.den) ds=(ps,nwX)->(∀ p∈ps,p)->(R.ok ⟨.tuple [.nilPtr,.int .i64 (.lit 2)],[],[]⟩:R SumRes).Sat (SumSem Tryd.prog H β w base 12 vs):=fun {ds ps} hr hp =>
    qyb cfgP0OK 20000 hH ⟨[],[],[.int .i64 (.sym a.den),.int .i64 (.sym b.den)]⟩ (by intro g j hg; cases hg) hA hF [] (by simp) (by simp) (qya hr hp fun _ _=>⟨.refl _,rfl,trivial,trivial⟩)
   by_cases h1:a.den<0
   . exact go (nw_1 a.den b.den) (qgb (decide_eq_true h1) 3)
   by_cases h2:a.den > 1048576
   . exact go (nw_2 a.den b.den) (all_cons (decide_eq_false h1) (qgb (decide_eq_true h2) 3))
   by_cases h3:b.den<1
   . exact go (nw_3 a.den b.den) (all_cons (decide_eq_false h1) (all_cons (decide_eq_false h2) (qgb (decide_eq_true h3) 3)))
   by_cases h4:b.den > 65536
   . exact go (nw_4 a.den b.den) (all_cons (decide_eq_false h1) (all_cons (decide_eq_false h2) (all_cons (decide_eq_false h3) (all_cons (decide_eq_true h4) qaa))))
   . exact absurd ⟨⟨by omega,by omega⟩,by omega,by omega⟩ hc
theorem nw_w {sk lm:Int} (h:nwP sk lm):ChW [] 0 sk lm 0 (-1)/\lsM ([]:List MapEntry)=[]:=by
 have hl:lsM ([]:List MapEntry)=[]:=qap (MarkOK.nil 0)
 obtain ⟨⟨h1,h2⟩,h3,h4⟩:=h
 refine ⟨⟨by show MarkOK _ _ (lsM _); rw [hl]; exact MarkOK.nil 0,⟨h1,h2⟩,⟨h3,h4⟩,⟨Int.le_refl _,by omega⟩,⟨by omega,by omega⟩,fun m hm => ?_,fun m hm => ?_,?_⟩,hl⟩
 . rw [hl] at hm; cases hm
 . rw [hl] at hm; cases hm
 . rw [hl]; show ((0:Nat):Int)<=lm; omega
end
noncomputable section
open Go.Sim
open Go.Proofs
variable {α:Type}
set_option maxRecDepth 1000000
def chRw (m:Nat) (sk lm cl fe:Int):SO:=.row (.lst (chC m sk lm cl fe))
def chLr (e:SO):Option (SI × SI × SI × SI × Nat):=match e with
 | .own (.lst [.int .i64 a,.int .i64 b,.int .i64 c,.int .i64 d,.map m]) _ _=>some (a,b,c,d,m)
 | .row (.lst [.int .i64 a,.int .i64 b,.int .i64 c,.int .i64 d,.map m])=>some (a,b,c,d,m)
 | _=>none
def chLs (r:SI × SI × SI × SI × Nat):Cells:=.lst [.int .i64 r.1,.int .i64 r.2.1,.int .i64 r.2.2.1,.int .i64 r.2.2.2.1,.map r.2.2.2.2]
theorem qq9 {e:SO} {r:SI × SI × SI × SI × Nat} (h:chLr e=some r):e=.row (chLs r)\/∃ w el,e=.own (chLs r) w el:=by
 unfold chLr at h
 split at h
 . cases h; exact .inr ⟨_,_,rfl⟩
 . cases h; exact .inl rfl
 . cases h
def chRd (H:List SO) (p:SV) (f:ChD->R α):R α:=optC (q4p p) (.stuck 7970) fun m=>optC (nth H m) (.stuck 7971) fun e=>optC (chLr e) (.stuck 7972) fun r=>optC (nth H r.2.2.2.2) (.stuck 7973) fun e=>optC (q1t e) (.stuck 7974) fun q =>
 boolC (qay q.1.1) (boolC (qby q.1.2) (boolC (Nat.beq m r.2.2.2.2) (.stuck 7977) (f ⟨m,r.2.2.2.2,r.1,r.2.1,r.2.2.1,r.2.2.2.1,q.2.1,q.2.2⟩)) (.stuck 7976)) (.stuck 7975)
def ChD.cs (d:ChD):Cells:=.lst [.int .i64 d.sk,.int .i64 d.lm,.int .i64 d.cl,.int .i64 d.fe,.map d.mm]
structure ChRd (H:List SO) (p:SV) (d:ChD):Prop where
 ptr:p=.ptr ⟨d.nm,.lit 0⟩
 cell:∃ e,H[d.nm]? = some e/\(e=.row d.cs\/∃ w el,e=.own d.cs w el)
 map:H[d.mm]? = some (.obj (.amap kMk uMk d.es d.c))
 ne:d.nm≠d.mm
theorem qci {H:List SO} {p:SV} {f:ChD->R α} {φ:α->Prop} (h:∀ d,ChRd H p d->(f d).Sat φ):(chRd H p f).Sat φ:=by
 refine qda fun m hm=>qda fun e he=>qda fun r hr=>qda fun e2 he2=>qda fun q hq=>qva fun h1=>qva fun h2 => ?_
 cases hn:Nat.beq m r.2.2.2.2 with
 | true=>exact trivial
 | false =>
   rw [qfa] at he he2
   refine h _ ⟨qnj hm,⟨e,he,qq9 hr⟩,by rw [he2,q0q hq,q3t h1,q4t h2],fun e => ?_⟩
   have e:m=r.2.2.2.2:=e
   rw [e,Nat.beq_refl] at hn; cases hn
def chQ (d:ChD):List SO:=[chRw 1 d.sk.den d.lm.den d.cl.den d.fe.den,.obj (.amap kMk uMk d.es d.c)]
def chJ (d:ChD) (ar:List SV):Ifc:=⟨[d.nm,d.mm],chQ d,.ptr ⟨0,.lit 0⟩::ar⟩
theorem qug {H:List SO} {p:SV} {d:ChD} (h:ChRd H p d) {ar:List SV} (hu:SV.usesL (chJ d ar).known ar=true):(chJ d ar).FitsQ H:=by
 obtain ⟨e,he,ho⟩:=h.cell
 refine Ifc.fitsQ (by show [d.nm,d.mm].Nodup; simpa using h.ne) (by show (true && SV.usesL (chJ d ar).known ar)=true; rw [hu]; rfl) ⟨⟨⟨_,he,_,ho,fun β vs hv=>⟨vs.length,?_⟩⟩,rfl⟩,⟨⟨_,h.map,_,rfl,fun _ _ h=>h⟩,rfl⟩,trivial⟩
 rw [List.take_length]
 have:SV.renL (chJ d ar).big (chC 1 d.sk.den d.lm.den d.cl.den d.fe.den)=chC d.mm d.sk.den d.lm.den d.cl.den d.fe.den:=rfl
 show SV.denL β (SV.renL _ _)=some vs
 rw [this]
 exact qba (qna rfl) (qba (qna rfl) (qba (qna rfl) (qba (qna rfl) (qba (.refl _) qwa)))) _ _ hv
theorem qvg {d:ChD} {ar:List SV} {base:Nat} {keep:List Nat} {H2:List SO} {es:List MapEntry} {c:Nat} (h1:H2[1]? = some (.obj (.amap kMk uMk es c))) :
  SetsQ (chJ d ar).big ((chJ d ar).seen keep) ((chJ d ar).out base keep) H2 (qwc (chJ d ar).ents 0) [(d.mm,.obj (.amap kMk uMk es c))] :=
 ⟨⟨rfl,.inr ⟨_,_,h1,rfl,fun _ _ h=>h,rfl⟩⟩,trivial⟩
end
noncomputable section
open Go.Sim
open Go.Proofs
variable {α:Type}
set_option maxRecDepth 1000000
def cfgS:Cfg:=q8f (qdc [(48,smS)])
theorem jtj:CfgOK cfgS:=qgd (all1 smOK)
def keyL (v:Value):List Value:=.int .i64 (vNum (qge v 0))::mapN (fun j=>.int .u8 (((BitVec.ofInt 8 (vNum (qge v (j+1)))).toNat:Nat):Int)) (qka 32 0)
def addY (v:Value):Nat->Value:=fun i=>atV (keyL v) (0+i)
def addM (V:Nat->Value) (k:Nat) (v:Value):Nat->Value:=qzc V (0+k * 33) 33 (addY v)
section
variable (es:List MapEntry) (c:Nat) (seen:List Nat) (sk lm cl fe:Int) (V:Nat->Value) (k n:Nat) (J:Junk) (z:Nat->Nat->Nat)
def soT (st:Option (Nat × Nat)):Tree:=qea (cfgS.at st) 20000 35 [.ptr ⟨0,.lit 0⟩] [chRw 1 sk lm cl fe,.obj (.amap kMk uMk es c)]
def soF:List SP:=qod (q8c (soT es c sk lm cl fe (some (1,0))) []).frames [[(2,.nilSlice),(3,.slice ⟨2,.lit 0⟩ (.sym k) (.sym n)),(15,.ptr ⟨3,.lit 0⟩)]]
def soR:SO:=.own (.raw V (n * 33)) true 65
def soC:Cut:=⟨soF es c sk lm cl fe k n,[.ent (chRw 1 sk lm cl fe),.ent (.obj (.amap kMk uMk es c)),.ent (soR V n),.ent (.obj (.iter (some 1) c seen c))]⟩
def so1 (st:Option (Nat × Nat)):Tree:=sim1 (cfgS.at st) 20000 ((soC es c seen sk lm cl fe V k n).fill J)
def n4:List Nat:=[0,1,2,3]
def juj (n:Nat):Prop:=(0:Int)<=(0:Int)/\(0:Int)<=(n:Int)/\((n * 40:Nat):Int)<=281474976710656/\(n:Int)<=9223372036854775807/\33=33/\0<33
def msS:List (Nat × Nat × SV):=[(0,3,.slice ⟨2,.lit 0⟩ (.lit 0) (.sym es.length))]
def soZ:SO:=(nth (q8c (soT es c sk lm cl fe (some (1,0))) []).heap 2).getD .gone
def soV0:Nat->Value:=optC (q9x (soZ es c sk lm cl fe)) (fun _=>undef) fun r=>r.1.1
theorem jug:outL [] (soC es c [] sk lm cl fe (soV0 es c sk lm cl fe) 0 es.length) n4 (soT es c sk lm cl fe (some (1,0))) [] z=([juj es.length],some (.inr (qib (msS es) [] (qra n4 4 (soC es c [] sk lm cl fe (soV0 es c sk lm cl fe) 0 es.length))))):=by kernel_rfl
theorem jvj:(((soC es c seen sk lm cl fe V k n).frames[0]?).bind fun p=>p.tmps[3]?)=some (some (.slice ⟨2,.lit 0⟩ (.sym k) (.sym n))):=by kernel_rfl
def soQ (b:Nat) (q:List Prop):List Prop:=nxG es c seen::((qua es seen).isEmpty=false)::nxE es c seen b::q
theorem jvg:outL [] (soC es c [] sk lm cl fe V 0 es.length) n4 (so1 es c seen sk lm cl fe V k n J (some (1,0))) [false,true] z=(soQ es c seen (nxB es seen (z 0 0)) [33<=33,decide (k+1<=n)=true,0+k * 33+33<=n * 33,∀ i,i<33->(addY (nxK es seen (nxB es seen (z 0 0))) i).oneCell'=true],
 some (.inr (qra n4 6 (soC es c (app seen [nxB es seen (z 0 0)]) sk lm cl fe (addM V k (nxK es seen (nxB es seen (z 0 0)))) (k+1) n)))):=by kernel_rfl
theorem jwj:outL [0,1,2] (soC es c [] sk lm cl fe V 0 es.length) n4 (so1 es c seen sk lm cl fe V k n J none) [true] z=([nxG es c seen,(qua es seen).isEmpty=true,n * 33=k * 33/\MkV V k/\k<4611686018427387904],some (.inl (.slice ⟨2,.lit 0⟩ (.sym k) (.sym n),[some (chRw 1 sk lm cl fe),some (.obj (.amap kMk uMk es c)),some (.own (.raw (qag mkC 33 (srtM (mkL V k))) (k * 33)) true 65)]))):=by kernel_rfl
theorem so_n (X:Nat->Value) (s:List Nat) (j:Nat):boolC (qza 2 n4 (soC es c [] sk lm cl fe X j n) (soC es c s sk lm cl fe V k n)) (allN qxa (soC es c s sk lm cl fe V k n).heap) false=true:=by kernel_rfl
end
end
noncomputable section
open Go.Sim
open Go.Proofs
variable {α:Type}
set_option maxRecDepth 1000000
theorem qhv (v:Value):keyL v=mkC (mkOf v):=by
 have:=q82 v
 have h:(keyL v).toArray=(mkC (mkOf v)).toArray:=Value.agg.inj this
 exact List.toArray_inj h
theorem qkn {V:Nat->Value} {k j:Nat} {v:Value} (h:j<k * 33):addM V k v j=V j:=by
 unfold addM qzc
 rw [if_neg (by omega)]
theorem qln {V:Nat->Value} {k j:Nat} {v:Value} (h:j<33):addM V k v (k * 33+j)=(mkC (mkOf v)).getD j undef:=by
 unfold addM qzc
 rw [if_pos (by omega)]
 unfold addY atV
 rw [qhv,List.getD_eq_getElem?_getD]
 congr 2
 omega
theorem q1q {V:Nat->Value} {k i:Nat} {v:Value} (h:i<k):mkAt (addM V k v) i=mkAt V i:=by
 unfold mkAt
 rw [qkn (by omega)]
 refine Prod.ext rfl (q8e fun j hj => ?_)
 rw [qxc _ hj,qxc _ hj,qkn (by omega)]
theorem q2q {V:Nat->Value} {k:Nat} {v:Value}:mkAt (addM V k v) k=mkOf v:=by
 unfold mkAt
 have h0:=qln (V:=V) (k:=k) (v:=v) (j:=0) (by omega)
 rw [Nat.add_zero] at h0
 rw [h0]
 refine Prod.ext ?_ (q8e fun j hj => ?_)
 . rw [List.getD_eq_getElem?_getD,q1e]; rfl
 . rw [qxc _ hj,qln (by omega),List.getD_eq_getElem?_getD,qee _ hj]
   exact qwe _
theorem jwg {V:Nat->Value} {k:Nat} {v:Value} (h:MkV V k):MkV (addM V k v) (k+1)/\mkL (addM V k v) (k+1)=mkL V k++[mkOf v]:=by
 refine ⟨fun i hi => ?_,?_⟩
 . by_cases c:i<k
   . rw [q1q c,qkn (by omega)]
     obtain ⟨h1,h2⟩:=h i c
     exact ⟨h1,fun j hj=>by rw [qkn (by omega)]; exact h2 j hj⟩
   . obtain rfl:i=k:=by omega
     rw [q2q]
     have h0:=qln (V:=V) (k:=i) (v:=v) (j:=0) (by omega)
     rw [Nat.add_zero] at h0
     refine ⟨by rw [h0,List.getD_eq_getElem?_getD,q1e]; rfl,fun j hj => ?_⟩
     rw [qln (by omega),List.getD_eq_getElem?_getD,qee _ hj]; rfl
 . unfold mkL
   rw [List.range_succ,List.map_append,List.map_singleton,q2q]
   congr 1
   exact List.map_congr_left fun i hi=>q1q (List.mem_range.1 hi)
section
variable {es:List MapEntry} {c:Nat} {l:List Mk} (sk lm cl fe:Int)
def soK (es:List MapEntry) (c:Nat) (a:List Nat × (Nat->Value)):Cut:=soC es c a.1 sk lm cl fe a.2 a.1.length es.length
def soOK (es:List MapEntry) (a:List Nat × (Nat->Value)):Prop:=VisOK es a.1/\MkV a.2 a.1.length/\mkL a.2 a.1.length=a.1.map fun b=>mkE (getB es b)
def soD (es:List MapEntry) (c:Nat) (v:SV) (H:List SO):Prop:=v=.slice ⟨2,.lit 0⟩ (.sym es.length) (.sym es.length)/\H[0]? = some (chRw 1 sk lm cl fe)/\H[1]? = some (.obj (.amap kMk uMk es c))/\H[2]? = some (soR (qag mkC 33 (lsM es)) es.length)
theorem jxg (h:MarkOK es c l) (hz:es.length<=65536):Runs cfgS 35 [.ptr ⟨0,.lit 0⟩] [chRw 1 sk lm cl fe,.obj (.amap kMk uMk es c)] (soD sk lm cl fe es c):=by
 have hm:=h.ok
 have hG:∀ seen,nxG es c seen:=fun seen=>⟨qe0 hm,hm.lt⟩
 have hE:∀ (seen:List Nat) {e:MapEntry},e∈qua es seen->nxE es c seen e.born:=fun seen e he=>⟨rfl,by rw [q6a]; simp,e,(left_mem.1 he).1,(q1k _ _).symm⟩
 have hnd:∀ seen,VisOK es seen->seen.length<=es.length:=fun seen hv=>by
  have:=List.Nodup.length_le_of_subset (l₁:=seen) (l₂:=es.map fun e=>e.born) hv.nd fun b hb=>by
   obtain ⟨e,he,rfl⟩:=hv.mem b hb
   exact List.mem_map.2 ⟨e,he,rfl⟩
  simpa using this
 refine qbd jtj (soK sk lm cl fe es c) (soOK es) (fun a=>(qua es a.1).length) (fun g nm hg=>by cases hg) ?_ fun a ha J => ?_
 . refine qhd (ds:=[]) (es:=[]) (some (1,0)) 20000 ([],soV0 es c sk lm cl fe) ⟨qcv es,fun i hi=>absurd hi (Nat.not_lt_zero i),rfl⟩ (fun z=>jug es c sk lm cl fe z) (so_n es c sk lm cl fe _ 0 es.length _ [] 0) (fun q hq p u hp hu => ?_) (fun e he=>by cases he) (all_cons ⟨by omega,by omega,by omega,by omega,rfl,by omega⟩ qaa)
   obtain rfl:=List.mem_singleton.1 hq
   exact q4c (jvj es c [] sk lm cl fe (soV0 es c sk lm cl fe) 0 es.length) hp hu fun _ _ h=>h
 obtain ⟨seen,V⟩:=a
 obtain ⟨hv,hV,hL⟩:VisOK es seen/\MkV V seen.length/\mkL V seen.length=seen.map fun b=>mkE (getB es b):=ha
 show q6b cfgS _ (soK sk lm cl fe es c) _ _ ((soC es c seen sk lm cl fe V seen.length es.length).fill J)
 cases hl:(qua es seen).isEmpty with
 | true =>
   have hp:=jlg hm hv hl
   have hlen:seen.length=es.length:=by have:=hp.length_eq; simpa using this
   refine qec (js:=[0,1,2]) (M:=soC es c [] sk lm cl fe V 0 es.length) (names:=n4) none 20000 (fun z=>jwj es c seen sk lm cl fe V seen.length es.length J z) (all_cons (hG seen) (all_cons hl (all_cons ⟨by omega,hV,by omega⟩ qaa))) fun H hH => ?_
   have hs:srtM (mkL V seen.length)=lsM es:=by
    rw [hL,qap h]
    refine h.srt ?_
    have:=hp.map mkE
    rwa [List.map_map] at this
   rw [hs,hlen] at hH
   obtain ⟨h0,h1⟩:=List.cons.inj (show [H[0]?,H[1]?,H[2]?]=[some (chRw 1 sk lm cl fe),some (.obj (.amap kMk uMk es c)),some (soR (qag mkC 33 (lsM es)) es.length)] from hH)
   obtain ⟨h1,h2⟩:=List.cons.inj h1
   rw [hlen]
   exact ⟨rfl,h0,h1,(List.cons.inj h2).1⟩
 | false =>
   have hp:∀ z,q6d (qua es seen) z∈qua es seen:=fun z=>qd0 hl z
   refine qxr (js:=[]) (K:=fun _=>False) (some (1,0)) 20000 (M:=soC es c [] sk lm cl fe V 0 es.length) (names:=n4) (fun z => ?_) (fun v es h=>h.elim)
   have hb:=hp (z 0 0)
   generalize he:q6d (qua es seen) (z 0 0)=e at hb
   have hbe:nxB es seen (z 0 0)=e.born:=by unfold nxB; rw [he]
   have hgB:nxK es seen e.born=e.key:=by unfold nxK; rw [q1k,q3p hm.nd (left_mem.1 hb).1]
   have hr:=jvg es c seen sk lm cl fe V seen.length es.length J z
   rw [hbe,hgB] at hr
   have hv':=qyr hv hb
   have hl1:(app seen [e.born]).length=seen.length+1:=by rw [q6a]; simp
   have hlt:=hnd _ hv'
   obtain ⟨hV',hL'⟩:=jwg (v:=e.key) hV
   refine ⟨_,_,_,hr,all_cons (hG seen) (all_cons hl (all_cons (hE seen hb) (all_cons (Nat.le_refl 33) (all_cons (decide_eq_true (by omega)) (all_cons (by omega) (all_cons (fun i hi => ?_) qaa)))))),?_⟩
   . unfold addY atV
     rw [qhv,Nat.zero_add]
     rcases (show i=0\/∃ j,i=j+1/\j<32 by
      cases i with
      | zero=>exact .inl rfl
      | succ i=>exact .inr ⟨i,rfl,by omega⟩) with rfl | ⟨j,rfl,hj⟩
     . rw [q1e]; rfl
     . rw [qee _ hj]; rfl
   show SeenTurn _ _ _ _ _ _
   rw [← hl1]
   refine SeenTurn.of (C:=soK sk lm cl fe es c) (app seen [e.born],addM V seen.length e.key) ⟨⟨hv',?_,?_⟩,q02 hb⟩ (so_n es c sk lm cl fe _ _ es.length _ _ _)
   . show MkV _ (app seen [e.born]).length
     rw [hl1]; exact hV'
   . show mkL _ (app seen [e.born]).length=_
     rw [hl1,hL',hL,q6a,List.map_append,List.map_singleton,q3p hm.nd (left_mem.1 hb).1]
     rfl
end
theorem qzr {V V':Nat->Value} {N:Nat} (h:∀ j,j<N->V j=V' j):(Cells.raw V N).Imp (.raw V' N):=fun _ vs ⟨h1,h2⟩=>⟨h1,fun i x hx=>by
 have hi:i<N:=by
  have:=(List.getElem?_eq_some_iff.1 hx).1
  omega
 rw [← h i hi]; exact h2 i x hx⟩
def soSm:Summ:=fun args H base=>q1d args fun p=>chRd H p fun d=>.need (ChOK d.es d.c/\d.es.length<=65536) (.ok ⟨.slice ⟨base,.lit 0⟩ (.sym d.es.length) (.sym d.es.length),[],[soR (rowM (lsM d.es)) d.es.length]⟩)
theorem j7e:qdb Tryd.prog 35 soSm:=by
 intro glob O w0 β H w base args vs hH hG ha
 refine q5b fun p hv=>qci fun d hd => ?_
 rw [hv,hd.ptr] at ha
 rintro ⟨h,hz⟩
 refine qrg (k':=kMk) (v':=uMk) hH hd.map ?_
 refine qid (c:=cfgS) hH (chJ d []) (by intro g j hg; cases hg) ha (qug hd rfl) [2] (by simp [chJ]) (by simp) (qlb (jxg d.sk.den d.lm.den d.cl.den d.fe.den h hz) fun v H2 ⟨h1,h2,h3,h4⟩ => ?_)
 subst h1
 refine ⟨?_,rfl,qvg h3,⟨.inl ⟨_,_,_,_,h4,trivial,?_,rfl⟩,trivial⟩⟩
 . show SV.Imp (.slice ⟨(chJ d []).out base [2] 2,.lit 0⟩ (.sym d.es.length) (.sym d.es.length)) _
   rw [out1 (by show 2<=2; omega)]
   exact .refl _
 . refine qzr fun j hj=>jkc _ j ?_
   rw [MarkOK.len h]; exact hj
end
noncomputable section
open Go.Sim
open Go.Proofs
variable {α:Type}
set_option maxRecDepth 1000000
def be8 (x:BitVec 64) (i:Nat):BitVec 8:=BitVec.setWidth 8 (x >>> (56 - 8 * i))
def beV (x:BitVec 64) (i:Nat):Value:=.int .u8 ((be8 x i).toNat:Int)
def qqi (V:Nat->Value) (N:Nat):SO:=.own (.raw V N) true 5
section
variable (V:Nat->Value) (k n N:Nat) (x:BitVec 64)
def anT:Tree:=qea cfgP0 20000 34 [.slice ⟨0,.lit 0⟩ (.sym k) (.sym n),.int .u64 (.b64 x)] [qqi V N]
def anY (i:Nat):Nat->Value:=fun j=>atV [beV x i] (0+j)
def anQ (k i:Nat) (q:List Prop):List Prop:=(1<=1)::(decide (k+1<=n)=true)::(0+k * 1+1<=N)::(∀ j,j<1->(anY x i j).oneCell'=true)::q
def anV (m:Nat):Nat->Value:=Nat.rec (motive:=fun _=>Nat->Value) V (fun i W=>qzc W (0+(k+i) * 1) 1 (anY x i)) m
def anR:Option (SV × List (Option SO)):=some (.slice ⟨0,.lit 0⟩ (.sym (k+8)) (.sym n),[some (qqi (anV V k x 8) N)])
theorem jxj:outO [0] (anT V k n N x) (repN true 8)=(anQ n N x k 0 (anQ n N x (k+1) 1 (anQ n N x (k+2) 2 (anQ n N x (k+3) 3 (anQ n N x (k+4) 4 (anQ n N x (k+5) 5 (anQ n N x (k+6) 6 (anQ n N x (k+7) 7 []))))))),anR V k n N x):=by kernel_rfl
end
theorem qr9 (V:Nat->Value) (k:Nat) (x:BitVec 64):∀ (m j:Nat),anV V k x m j=qzc V k m (beV x) j
 | 0,j=>by
   show V j=_
   unfold qzc
   rw [if_neg (by omega)]
 | m+1,j=>by
   show qzc (anV V k x m) (0+(k+m) * 1) 1 (anY x m) j=_
   unfold qzc
   by_cases c:k+m=j
   . rw [if_pos (by omega),if_pos (by omega)]
     unfold anY atV
     rw [show 0+(j - (0+(k+m) * 1))=0 by omega,show j - k=m by omega]; rfl
   . rw [if_neg (by omega),qr9 V k x m j]
     unfold qzc
     by_cases c2:k<=j/\j<k+m
     . rw [if_pos c2,if_pos (by omega)]
     . rw [if_neg c2,if_neg (by omega)]
def slN (v:SV):Option (Nat × SN × Nat):=match v with
 | .slice a l (.sym c)=>boolC (is0 a.off) (some (a.nm,l,c)) none
 | _=>none
theorem jqc {v:SV} {r:Nat × SN × Nat} (h:slN v=some r):v=.slice ⟨r.1,.lit 0⟩ r.2.1 (.sym r.2.2):=by
 unfold slN at h
 split at h
 . rename_i a l c
   cases h0:is0 a.off with
   | false=>rw [h0] at h; cases h
   | true =>
     rw [h0] at h
     cases h
     obtain ⟨nm,off⟩:=a
     obtain rfl:=qhn h0
     rfl
 . cases h
def u64V (v:SV):Option (BitVec 64):=match v with
 | .int .u64 (.b64 x)=>some x
 | _=>none
theorem qs9 {v:SV} {x:BitVec 64} (h:u64V v=some x):v=.int .u64 (.b64 x):=by
 unfold u64V at h
 split at h
 . cases h; rfl
 . cases h
def rawB (e:SO):Option ((Nat->Value) × Nat):=match e with
 | .own (.raw V n) true el=>boolC (Nat.beq el 5) (some (V,n)) none
 | _=>none
theorem qt9 {e:SO} {r:(Nat->Value) × Nat} (h:rawB e=some r):e=qqi r.1 r.2:=by
 unfold rawB at h
 split at h
 . rename_i V n el
   cases ht:Nat.beq el 5 with
   | false=>rw [ht] at h; cases h
   | true =>
     rw [ht] at h; cases h
     rw [Nat.eq_of_beq_eq_true ht]; rfl
 . cases h
theorem q7c {a:SA} {l l':SN} {c:SC} (h:l.den=l'.den):(SV.slice a l c).Imp (.slice a l' c):=fun β x hx=>by
 rw [den_slice] at hx ⊢
 rw [← h]; exact hx
def anSm:Summ:=fun args H _=>qkd args fun b v=>optC (slN b) (.stuck 7980) fun r=>optC (nth H r.1) (.stuck 7981) fun e=>optC (rawB e) (.stuck 7982) fun w=>optC (u64V v) (.stuck 7983) fun x =>
 .need (r.2.1.den+8<=r.2.2/\r.2.2=w.2) (.ok ⟨.slice ⟨r.1,.lit 0⟩ (.sym (r.2.1.den+8)) (.sym r.2.2),[(r.1,qqi (qzc w.1 r.2.1.den 8 (beV x)) w.2)],[]⟩)
theorem anOK:qdb Tryd.prog 34 anSm:=by
 intro glob O w0 β H w base args vs hH hG ha
 refine qrb fun b v hv=>qda fun r hr=>qda fun e he=>qda fun q hq=>qda fun x hx => ?_
 rw [hv,jqc hr,qs9 hx] at ha
 rw [qfa,qt9 hq] at he
 obtain ⟨nm,l,c⟩:=r
 obtain ⟨V,N⟩:=q
 rintro ⟨h1,h2⟩
 have h1:l.den+8<=c:=h1
 have h2:c=N:=h2
 let I:Ifc:=⟨[nm],[qqi V N],[.slice ⟨0,.lit 0⟩ (.sym l.den) (.sym c),.int .u64 (.b64 x)]⟩
 have hF:I.FitsQ H:=Ifc.fitsQ (by simp [I]) rfl ⟨⟨⟨_,he,_,rfl,.refl _⟩,trivial⟩,trivial⟩
 have hy:∀ i j,j<1->(anY x i j).oneCell'=true:=fun i j hj=>by
  obtain rfl:j=0:=by omega
  rfl
 have hq:∀ {k i:Nat} {q:List Prop},k+1<=c->(∀ p∈q,p)->∀ p∈anQ c N x k i q,p:=fun {k i q} hk hp=>all_cons (Nat.le_refl 1) (all_cons (decide_eq_true hk) (all_cons (by omega) (all_cons (hy i) hp)))
 refine qyb cfgP0OK 20000 hH I (by intro g j hg; cases hg) ?_ hF [] (by simp) (by simp) (qya (jxj V l.den c N x) (hq (by omega) (hq (by omega) (hq (by omega) (hq (by omega) (hq (by omega) (hq (by omega) (hq (by omega) (hq (by omega) qaa)))))))) fun H2 hH2=>⟨.refl _,rfl,⟨⟨rfl,.inl ⟨_,_,_,_,(List.cons.inj hH2).1,trivial,qzr fun j _=>qr9 V l.den x 8 j,rfl⟩⟩,trivial⟩,trivial⟩)
 exact qba (q7c rfl) (qba (.refl _) qwa) _ _ ha
end
noncomputable section
open Go.Sim
open Go.Proofs
variable {α:Type}
set_option maxRecDepth 1000000
def rlI:List (FuncId × Summ):=[(34,anSm),(35,soSm)]
def cfgI:Cfg:=q8f (qdc rlI)
theorem jyj:CfgOK cfgI:=qgd (by
 intro y hy
 rcases List.mem_cons.1 hy with rfl | hy
 . exact anOK
 . obtain rfl:=List.mem_singleton.1 hy
   exact j7e)
def keyW (W:Nat->Value) (o:Nat):List Value:=.int .i64 (vNum (W (o+0)))::mapN (fun j=>.int .u8 (((BitVec.ofInt 8 (vNum (W (o+(j+1))))).toNat:Nat):Int)) (qka 32 0)
def dgY (W:Nat->Value) (o:Nat):Nat->Value:=fun i=>atV (keyW W o) (1+i)
def fitM (W:Nat->Value) (o:Nat):Prop:=qhp (mapN (fun j=>SV.val (W (o+j))) (qka 33 0)) (.i .i64::repN (.i .u8) 32)
def imN (m:Nat):Int:=40+@Bool.rec (fun _=>Int) (IntKind.i64.wrap ((40:Int) * (m:Int))) ((40 * m:Nat):Int) ((40 * m).ble (maxN .i64))
section
variable (es:List MapEntry) (c:Nat) (sk lm cl fe:Int) (V W:Nat->Value) (k n m j:Nat) (J:Junk) (z:Nat->Nat->Nat)
def imT (st:Option (Nat × Nat)):Tree:=qea (cfgI.at st) 20000 11 [.ptr ⟨0,.lit 0⟩] [chRw 1 sk lm cl fe,.obj (.amap kMk uMk es c)]
def imF (i:Int):List SP:=qod (q8c (imT es c sk lm cl fe (some (1,0))) [false]).frames [[(0,.ptr ⟨0,.lit 0⟩),(2,.nilSlice),(3,.slice ⟨2,.lit 0⟩ (.sym k) (.sym n)),(40,.agg [.int .i64 (.sym sk),.int .i64 (.sym lm),.int .i64 (.sym cl),.int .i64 (.sym (fe+1)),.int .i64 (.sym (es.length:Int))]),(41,.int .i64 (.lit i))]]
def imC (i:Int):Cut:=⟨imF es c sk lm cl fe k n i,[.ent (chRw 1 sk lm cl fe),.ent (.obj (.amap kMk uMk es c)),.ent (qqi V n)]⟩
def im1 (i:Int) (st:Option (Nat × Nat)):Tree:=sim1 (cfgI.at st) 20000 ((imC es c sk lm cl fe V k n i).fill J)
def ibF:List SP:=qod (q8c (im1 es c sk lm cl fe (fun _=>undef) 0 0 j0 5 (some (1,3))) []).frames [[(2,.nilSlice),(3,.slice ⟨2,.lit 0⟩ (.sym k) (.sym n)),(50,.slice ⟨3,.lit 0⟩ (.sym m) (.sym m)),(51,.int .i64 (.sym m)),(52,.int .i64 (.sym j))]]
def ibC:Cut:=⟨ibF es c sk lm cl fe k n m j,[.ent (chRw 1 sk lm cl fe),.ent (.obj (.amap kMk uMk es c)),.ent (qqi V n),.ent (soR W m)]⟩
def ib1 (st:Option (Nat × Nat)):Tree:=sim1 (cfgI.at st) 20000 ((ibC es c sk lm cl fe V W k n m j).fill J)
def q6t:Prop:=(0:Int)<=0/\(0:Int)<=imN es.length/\imN es.length * ((1:Nat):Int)<=281474976710656/\imN es.length<=9223372036854775807/\1=1
def imZ:SO:=.own (.fn (qgs (.int .u8 (.lit 0))) (imN es.length).toNat) true 5
def qmn:Nat->Value:=fun _=>.int .u8 0
theorem jyg:outL [] (imC es c sk lm cl fe qmn 0 (imN es.length).toNat 0) n3 (imT es c sk lm cl fe (some (1,0))) [false] z=([lm0 lm,qqa (imN es.length),q6t es,qqa (fe+1)],
 some (.inr (qib [(0,3,.slice ⟨2,.lit 0⟩ (.lit 0) (.sym (imN es.length).toNat))] [(2,.ent (imZ es))] (qra n3 3 (imC es c sk lm cl fe qmn 0 (imN es.length).toNat 0))))):=by kernel_rfl
theorem jzj (i:Int):(((imC es c sk lm cl fe V k n i).frames[0]?).bind fun p=>p.tmps[3]?)=some (some (.slice ⟨2,.lit 0⟩ (.sym k) (.sym n))):=by kernel_rfl
def imV (x:Int):Nat->Value:=qzc V k 8 (beV (BitVec.ofInt 64 x))
def anN:Prop:=k+8<=n/\n=n
theorem im_t0:outL [] (imC es c sk lm cl fe V 0 n 0) n3 (im1 es c sk lm cl fe V k n J 0 (some (1,0))) [] z=([anN k n],some (.inr (qra n3 3 (imC es c sk lm cl fe (imV V k sk) (k+8) n 1)))):=by kernel_rfl
theorem im_t1:outL [] (imC es c sk lm cl fe V 0 n 0) n3 (im1 es c sk lm cl fe V k n J 1 (some (1,0))) [] z=([anN k n],some (.inr (qra n3 3 (imC es c sk lm cl fe (imV V k lm) (k+8) n 2)))):=by kernel_rfl
theorem im_t2:outL [] (imC es c sk lm cl fe V 0 n 0) n3 (im1 es c sk lm cl fe V k n J 2 (some (1,0))) [] z=([anN k n],some (.inr (qra n3 3 (imC es c sk lm cl fe (imV V k cl) (k+8) n 3)))):=by kernel_rfl
theorem im_t3:outL [] (imC es c sk lm cl fe V 0 n 0) n3 (im1 es c sk lm cl fe V k n J 3 (some (1,0))) [] z=([anN k n],some (.inr (qra n3 3 (imC es c sk lm cl fe (imV V k (fe+1)) (k+8) n 4)))):=by kernel_rfl
theorem im_t4:outL [] (imC es c sk lm cl fe V 0 n 0) n3 (im1 es c sk lm cl fe V k n J 4 (some (1,0))) [] z=([anN k n],some (.inr (qra n3 3 (imC es c sk lm cl fe (imV V k (es.length:Int)) (k+8) n 5)))):=by kernel_rfl
theorem j0j:outL [] (ibC es c sk lm cl fe V W k n es.length 0) n4 (im1 es c sk lm cl fe V k n J 5 (some (1,3))) [] z=([ChOK es c/\es.length<=65536],some (.inr (qib [(0,52,.int .i64 (.lit 0))] [] (qra n4 4 (ibC es c sk lm cl fe V (rowM (lsM es)) k n es.length 0))))):=by kernel_rfl
theorem j1j:(((ibC es c sk lm cl fe V W k n m j).frames[0]?).bind fun p=>p.tmps[52]?)=some (some (.int .i64 (.sym (j:Int)))):=by kernel_rfl
def ibV:Nat->Value:=qzc (imV V k (vNum (W (0+j * 33+0)))) (0+(k+8) * 1) 32 (dgY W (0+j * 33))
theorem jzg:outL [] (ibC es c sk lm cl fe V W k n m j) n4 (ib1 es c sk lm cl fe V W k n m j J (some (1,3))) [true,true] z=([decide ((j:Int)<(m:Int))=true,(0:Int)<=(j:Int)/\(j:Int)<(m:Int),0+j * 33+33<=m * 33,fitM W (0+j * 33),anN k n,33<=33,decide (k+8+32<=n)=true,0+(k+8) * 1+32<=n,∀ i,i<32->(dgY W (0+j * 33) i).oneCell'=true,qqa ((j+1:Nat):Int)],
 some (.inr (qra n4 5 (ibC es c sk lm cl fe (ibV V W k j) W (k+8+32) n m (j+1))))):=by kernel_rfl
theorem j2j:outL [0,1,2] (ibC es c sk lm cl fe V W k n m j) n4 (ib1 es c sk lm cl fe V W k n m j J none) [false] z=([decide ((j:Int)<(m:Int))=false],some (.inl (.slice ⟨2,.lit 0⟩ (.sym k) (.sym n),[some (chRw 1 sk lm cl fe),some (.obj (.amap kMk uMk es c)),some (qqi V n)]))):=by kernel_rfl
theorem im_n (X:Nat->Value) (q:Nat) (i:Int):boolC (qza 2 n3 (imC es c sk lm cl fe X q n 0) (imC es c sk lm cl fe V k n i)) (allN qxa (imC es c sk lm cl fe V k n i).heap) false=true:=by kernel_rfl
theorem ib_n (X Y:Nat->Value) (q r:Nat):boolC (qza 2 n4 (ibC es c sk lm cl fe X Y q n m r) (ibC es c sk lm cl fe V W k n m j)) (allN qxa (ibC es c sk lm cl fe V W k n m j).heap) false=true:=by kernel_rfl
end
end
noncomputable section
open Go.Sim
open Go.Proofs
variable {α:Type}
set_option maxRecDepth 1000000
def imgB (ns:List Int) (l:List Mk) (i:Nat):BitVec 8 :=
 if i<40 then be8 (BitVec.ofInt 64 (ns.getD (i / 8) 0)) (i % 8)
 else if (i - 40) % 40<8 then be8 (BitVec.ofInt 64 ((l[(i - 40) / 40]?).getD default).1) ((i - 40) % 40) else ((l[(i - 40) / 40]?).getD default).2.at ((i - 40) % 40 - 8)
def vB (x:BitVec 8):Value:=.int .u8 (x.toNat:Int)
theorem qk0 (ns:List Int) (l:List Mk) {i r:Nat} (hi:i<5) (hr:r<8):imgB ns l (8 * i+r)=be8 (BitVec.ofInt 64 (ns.getD i 0)) r:=by
 unfold imgB
 rw [if_pos (by omega),show (8 * i+r) / 8=i by omega,show (8 * i+r) % 8=r by omega]
theorem qiv (ns:List Int) {l:List Mk} {j r:Nat} (hj:j<l.length) (hr:r<8):imgB ns l (40+40 * j+r)=be8 (BitVec.ofInt 64 l[j].1) r:=by
 unfold imgB
 rw [if_neg (by omega),show (40+40 * j+r - 40) % 40=r by omega,show (40+40 * j+r - 40) / 40=j by omega,if_pos hr,List.getElem?_eq_getElem hj]; rfl
theorem qjv (ns:List Int) {l:List Mk} {j r:Nat} (hj:j<l.length) (hr:r<32):imgB ns l (40+40 * j+(8+r))=l[j].2.at r:=by
 unfold imgB
 rw [if_neg (by omega),show (40+40 * j+(8+r) - 40) % 40=8+r by omega,show (40+40 * j+(8+r) - 40) / 40=j by omega,if_neg (by omega),List.getElem?_eq_getElem hj,show 8+r - 8=r by omega]; rfl
theorem qu9 {V:Nat->Value} {B:Nat->BitVec 8} {k:Nat} {x:Int} (h:∀ t,t<k->V t=vB (B t)) (hx:∀ r,r<8->B (k+r)=be8 (BitVec.ofInt 64 x) r):∀ t,t<k+8->imV V k x t=vB (B t):=by
 intro t ht
 unfold imV qzc
 by_cases c:k<=t
 . rw [if_pos ⟨c,ht⟩]
   have:=hx (t - k) (by omega)
   rw [show k+(t - k)=t by omega] at this
   rw [this]; rfl
 . rw [if_neg (by omega)]; exact h t (by omega)
theorem qwg {l:List Mk} {j:Nat} (hj:j<l.length):keyW (rowM l) (0+j * 33)=mkC l[j]:=by
 obtain ⟨h1,h2⟩:=qud hj
 have e:mkOf (keyM l[j])=l[j]:=qmk _
 rw [show mkC l[j]=mkC (mkOf (keyM l[j])) by rw [e],← qhv]
 unfold keyW keyL
 congr 1
 . rw [Nat.zero_add,Nat.add_zero,h1,q2k,List.getD_eq_getElem?_getD,q1e]; rfl
 . rw [qma,qma]
   refine List.map_congr_left fun i hi => ?_
   rw [q5a,← List.range_eq_range',List.mem_range] at hi
   rw [Nat.zero_add,h2 i hi,q2k,List.getD_eq_getElem?_getD,qee _ hi]; rfl
theorem qb3 {l:List Mk} {j i:Nat} (hj:j<l.length) (hi:i<32):dgY (rowM l) (0+j * 33) i=vB (l[j].2.at i):=by
 unfold dgY atV
 rw [qwg hj,Nat.add_comm,qee _ hi]; rfl
theorem qbp:∀ {l:List Value} {ks:List SK},(∀ (i:Nat) (x:Value) (k:SK),l[i]? = some x->ks[i]? = some k->fitK k x)->qhp (l.map SV.val) ks
 | [],_,_=>trivial
 | _::_,[],_=>trivial
 | _::_,_::_,h=>⟨h 0 _ _ rfl rfl,qbp fun i x k h1 h2=>h (i+1) x k h1 h2⟩
theorem qcy (x:BitVec 8):fitK (.i .u8) (vB x):=fun β=>by
 show some (Value.int .u8 ((BitVec.ofInt 8 (x.toNat:Int)).toNat:Int))=_
 rw [qwe]; rfl
theorem qdi {l:List Mk} {j:Nat} (hj:j<l.length):fitM (rowM l) (0+j * 33):=by
 obtain ⟨h1,h2⟩:=qud hj
 unfold fitM
 have e:mapN (fun i=>SV.val (rowM l (0+j * 33+i))) (qka 33 0)=((List.range 33).map fun i=>rowM l (0+j * 33+i)).map SV.val:=by
  rw [qma,q5a,← List.range_eq_range',List.map_map]; rfl
 rw [e]
 refine qbp fun i x k hx hk => ?_
 rw [List.getElem?_map,Option.map_eq_some_iff] at hx
 obtain ⟨i',hi',rfl⟩:=hx
 obtain ⟨hi,rfl⟩:i<33/\i=i':=by
  obtain ⟨h,he⟩:=List.getElem?_eq_some_iff.1 hi'
  simp at h he
  exact ⟨h,he⟩
 rw [Nat.zero_add]
 cases i with
 | zero =>
   cases hk
   rw [Nat.add_zero,h1]
   exact fun _=>rfl
 | succ i =>
   have hk:(repN (SK.i .u8) 32)[i]? = some k:=hk
   rw [q9c] at hk
   have hk:k=.i .u8:=(List.eq_of_mem_replicate (List.mem_of_getElem? hk))
   rw [hk,h2 i (by omega)]
   exact qcy _
theorem j3j {m:Nat} (h:m<=65536):imN m=((40+40 * m:Nat):Int):=by
 unfold imN
 have:(40 * m).ble (maxN .i64)=true:=Nat.ble_eq_true_of_le (show 40 * m<=9223372036854775807 by omega)
 rw [this]
 show (40:Int)+((40 * m:Nat):Int)=_
 omega
inductive ImS
 | a (i:Nat) (V:Nat->Value)
 | b (j:Nat) (V:Nat->Value)
section
variable (es:List MapEntry) (c:Nat) (sk lm cl fe:Int)
def imL:List Int:=[sk,lm,cl,fe+1,(es.length:Int)]
def imX:Nat->BitVec 8:=imgB (imL es sk lm cl fe) (lsM es)
def imK:ImS->Cut
 | .a i V=>imC es c sk lm cl fe V (8 * i) (40+40 * es.length) (i:Int)
 | .b j V=>ibC es c sk lm cl fe V (rowM (lsM es)) (40+40 * j) (40+40 * es.length) es.length j
def imOK:ImS->Prop
 | .a i V=>i<=5/\∀ t,t<8 * i->V t=vB (imX es sk lm cl fe t)
 | .b j V=>j<=es.length/\∀ t,t<40+40 * j->V t=vB (imX es sk lm cl fe t)
def imMu:ImS->Nat
 | .a i _=>es.length+10 - i
 | .b j _=>es.length - j
def imD (v:SV) (H:List SO):Prop:=v=.slice ⟨2,.lit 0⟩ (.sym (40+40 * es.length)) (.sym (40+40 * es.length))/\H[0]? = some (chRw 1 sk lm cl fe)/\H[1]? = some (.obj (.amap kMk uMk es c))/\∃ V,H[2]? = some (qqi V (40+40 * es.length))/\∀ t,t<40+40 * es.length->V t=vB (imX es sk lm cl fe t)
variable {es c sk lm cl fe}
theorem j0g (h:ChW es c sk lm cl fe):Runs cfgI 11 [.ptr ⟨0,.lit 0⟩] [chRw 1 sk lm cl fe,.obj (.amap kMk uMk es c)] (imD es c sk lm cl fe):=by
 have hz:es.length<=65536:=by have:=h.sz; have:=h.hlm; have:=h.len; omega
 have hN:=j3j hz
 have hNt:(imN es.length).toNat=40+40 * es.length:=by rw [hN]; omega
 have hl:(lsM es).length=es.length:=h.len.symm
 refine qbd jyj (imK es c sk lm cl fe) (imOK es sk lm cl fe) (imMu es) (fun g nm hg=>by cases hg) ?_ fun a ha J => ?_
 . have hr:=fun z=>jyg es c sk lm cl fe z
   rw [hNt] at hr
   refine qhd (M:=imC es c sk lm cl fe qmn 0 (40+40 * es.length) 0) (names:=n3) (N:=3) (ds:=[false]) (some (1,0)) 20000 (.a 0 qmn) ⟨Nat.zero_le 5,fun t ht=>by omega⟩ hr (im_n es c sk lm cl fe qmn 0 _ qmn 0 0) (fun q hq p u hp hu => ?_) (fun e he E0 hE0 => ?_) (all_cons h.lm0 (all_cons ?_ (all_cons ?_ (all_cons ?_ qaa))))
   . obtain rfl:=List.mem_singleton.1 hq
     exact q4c (jzj es c sk lm cl fe qmn 0 _ 0) hp hu fun _ _ h=>h
   . obtain rfl:=List.mem_singleton.1 he
     cases hE0
     refine ⟨_,rfl,fun γ vs hv => ?_⟩
     obtain ⟨h1,h2⟩:vs.length=(imN es.length).toNat/\∀ (i:Nat) (x:Value),vs[i]? = some x->(qgs (.int .u8 (.lit 0)) i).den γ=some x:=hv
     refine ⟨by rw [h1,hNt],fun i x hx => ?_⟩
     have:=h2 i x hx
     exact (Option.some.inj this).symm
   . rw [hN]; exact ⟨by omega,by omega⟩
   . rw [show q6t es=q6t es from rfl]
     unfold q6t
     rw [hN]
     exact ⟨by omega,by omega,by omega,by omega,rfl⟩
   . have:=h.hfe
     exact ⟨by omega,by omega⟩
 cases a with
 | a i V =>
   obtain ⟨hi,hV⟩:i<=5/\∀ t,t<8 * i->V t=vB (imX es sk lm cl fe t):=ha
   show q6b cfgI _ (imK es c sk lm cl fe) _ _ ((imC es c sk lm cl fe V (8 * i) (40+40 * es.length) (i:Int)).fill J)
   have hn:∀ (V:Nat->Value) (k:Nat) (i:Int) (W:Nat->Value),boolC (qza 2 n3 (imC es c sk lm cl fe W 0 (40+40 * es.length) 0) (imC es c sk lm cl fe V k (40+40 * es.length) i)) (allN qxa (imC es c sk lm cl fe V k (40+40 * es.length) i).heap) false=true:=fun V k i W=>im_n es c sk lm cl fe V k _ W 0 i
   have hok:∀ (x:Int),i<5->(imL es sk lm cl fe).getD i 0=x->imOK es sk lm cl fe (.a (i+1) (imV V (8 * i) x)):=fun x hi' hx=>by
    refine ⟨by omega,fun t ht=>qu9 hV (fun r hr => ?_) t (by omega)⟩
    unfold imX
    rw [qk0 _ _ hi' hr,hx]
   have hmu:∀ V',i<5->imMu es (.a (i+1) V')<imMu es (.a i V):=fun V' hi'=>by show es.length+10 - (i+1)<es.length+10 - i; omega
   have hp:i<5->∀ p∈[anN (8 * i) (40+40 * es.length)],p:=fun hi'=>all_cons ⟨by omega,rfl⟩ qaa
   rcases (show i=0\/i=1\/i=2\/i=3\/i=4\/i=5 by omega) with rfl | rfl | rfl | rfl | rfl | rfl
   . exact q7b (ds:=[]) (names:=n3) (N:=3) (M:=imC es c sk lm cl fe V 0 _ 0) (some (1,0)) 20000 (.a 1 (imV V (8 * 0) sk)) ⟨hok sk (by omega) rfl,hmu _ (by omega)⟩ (fun z=>im_t0 es c sk lm cl fe V (8 * 0) _ J z) (hn _ _ _ _) (hp (by omega))
   . exact q7b (ds:=[]) (names:=n3) (N:=3) (M:=imC es c sk lm cl fe V 0 _ 0) (some (1,0)) 20000 (.a 2 (imV V (8 * 1) lm)) ⟨hok lm (by omega) rfl,hmu _ (by omega)⟩ (fun z=>im_t1 es c sk lm cl fe V (8 * 1) _ J z) (hn _ _ _ _) (hp (by omega))
   . exact q7b (ds:=[]) (names:=n3) (N:=3) (M:=imC es c sk lm cl fe V 0 _ 0) (some (1,0)) 20000 (.a 3 (imV V (8 * 2) cl)) ⟨hok cl (by omega) rfl,hmu _ (by omega)⟩ (fun z=>im_t2 es c sk lm cl fe V (8 * 2) _ J z) (hn _ _ _ _) (hp (by omega))
   . exact q7b (ds:=[]) (names:=n3) (N:=3) (M:=imC es c sk lm cl fe V 0 _ 0) (some (1,0)) 20000 (.a 4 (imV V (8 * 3) (fe+1))) ⟨hok (fe+1) (by omega) rfl,hmu _ (by omega)⟩ (fun z=>im_t3 es c sk lm cl fe V (8 * 3) _ J z) (hn _ _ _ _) (hp (by omega))
   . exact q7b (ds:=[]) (names:=n3) (N:=3) (M:=imC es c sk lm cl fe V 0 _ 0) (some (1,0)) 20000 (.a 5 (imV V (8 * 4) (es.length:Int))) ⟨hok (es.length:Int) (by omega) rfl,hmu _ (by omega)⟩ (fun z=>im_t4 es c sk lm cl fe V (8 * 4) _ J z) (hn _ _ _ _) (hp (by omega))
   . refine q0e (ds:=[]) (names:=n4) (N:=4) (es:=[]) (M:=ibC es c sk lm cl fe V (fun _=>undef) 40 (40+40 * es.length) es.length 0) (some (1,3)) 20000 (.b 0 V) ⟨⟨Nat.zero_le _,fun t ht=>hV t (by omega)⟩,?_⟩ (fun z=>j0j es c sk lm cl fe V (fun _=>undef) 40 _ J z) (ib_n es c sk lm cl fe V _ 40 _ es.length 0 V _ 40 0) (fun q hq p u hp hu => ?_) (fun e he=>by cases he) (all_cons ⟨h.ok,hz⟩ qaa)
     . show es.length - 0<es.length+10 - 5; omega
     . obtain rfl:=List.mem_singleton.1 hq
       exact q4c (j1j es c sk lm cl fe V (rowM (lsM es)) 40 _ es.length 0) hp hu (qna rfl)
 | b j V =>
   obtain ⟨hj,hV⟩:j<=es.length/\∀ t,t<40+40 * j->V t=vB (imX es sk lm cl fe t):=ha
   show q6b cfgI _ (imK es c sk lm cl fe) _ _ ((ibC es c sk lm cl fe V (rowM (lsM es)) (40+40 * j) (40+40 * es.length) es.length j).fill J)
   by_cases hc:j<es.length
   . have hjl:j<(lsM es).length:=by omega
     have e0:vNum (rowM (lsM es) (0+j * 33+0))=(lsM es)[j].1:=by
      rw [Nat.zero_add,Nat.add_zero,(qud hjl).1]; rfl
     refine q7b (ds:=[true,true]) (names:=n4) (N:=5) (M:=ibC es c sk lm cl fe V (rowM (lsM es)) (40+40 * j) (40+40 * es.length) es.length j) (some (1,3)) 20000 (.b (j+1) (ibV V (rowM (lsM es)) (40+40 * j) j)) ⟨⟨hc,?_⟩,?_⟩ (fun z=>jzg es c sk lm cl fe V (rowM (lsM es)) (40+40 * j) _ es.length j J z) (ib_n es c sk lm cl fe _ _ _ _ es.length _ _ _ _ _)
      (all_cons (decide_eq_true (by omega)) (all_cons ⟨by omega,by omega⟩ (all_cons (by omega) (all_cons (qdi hjl) (all_cons ⟨by omega,rfl⟩ (all_cons (Nat.le_refl 33) (all_cons (decide_eq_true (by omega)) (all_cons (by omega) (all_cons (fun i hi => ?_) (all_cons ⟨by omega,by omega⟩ qaa))))))))))
     . intro t ht
       have h1:=qu9 (B:=imX es sk lm cl fe) (k:=40+40 * j) (x:=(lsM es)[j].1) hV fun r hr=>by unfold imX; exact qiv _ hjl hr
       unfold ibV qzc
       rw [e0]
       by_cases c2:40+40 * j+8<=t
       . rw [if_pos (by omega),qb3 hjl (by omega)]
         have:=qjv (imL es sk lm cl fe) hjl (show t - (0+(40+40 * j+8) * 1)<32 by omega)
         rw [show 40+40 * j+(8+(t - (0+(40+40 * j+8) * 1)))=t by omega] at this
         rw [← this]; rfl
       . rw [if_neg (by omega)]
         exact h1 t (by omega)
     . show es.length - (j+1)<es.length - j; omega
     . rw [qb3 hjl hi]; rfl
   . have hje:j=es.length:=by omega
     subst hje
     refine qec (js:=[0,1,2]) (names:=n4) (M:=ibC es c sk lm cl fe V (rowM (lsM es)) (40+40 * es.length) (40+40 * es.length) es.length es.length) none 20000 (fun z=>j2j es c sk lm cl fe V (rowM (lsM es)) (40+40 * es.length) _ es.length es.length J z) (all_cons (decide_eq_false (by omega)) qaa) fun H hH => ?_
     obtain ⟨h0,h1⟩:=List.cons.inj (show [H[0]?,H[1]?,H[2]?]=[some (chRw 1 sk lm cl fe),some (.obj (.amap kMk uMk es c)),some (qqi V (40+40 * es.length))] from hH)
     obtain ⟨h1,h2⟩:=List.cons.inj h1
     exact ⟨rfl,h0,h1,V,(List.cons.inj h2).1,hV⟩
end
def ChD.n (d:ChD):Nat:=40+40 * d.es.length
def ChD.x (d:ChD):Nat->BitVec 8:=imX d.es d.sk.den d.lm.den d.cl.den d.fe.den
def imSm:Summ:=fun args H base=>q1d args fun p=>chRd H p fun d=>.need d.w (.ok ⟨.slice ⟨base,.lit 0⟩ (.sym d.n) (.sym d.n),[],[.own (.fn (q1a d.x) d.n) true 5]⟩)
theorem j8e:qdb Tryd.prog 11 imSm:=by
 intro glob O w0 β H w base args vs hH hG ha
 refine q5b fun p hv=>qci fun d hd => ?_
 rw [hv,hd.ptr] at ha
 intro hw
 refine qrg (k':=kMk) (v':=uMk) hH hd.map ?_
 refine qid (c:=cfgI) hH (chJ d []) (by intro g j hg; cases hg) ha (qug hd rfl) [2] (by simp [chJ]) (by simp) (qlb (j0g hw) fun v H2 ⟨h1,h2,h3,V,h4,h5⟩ => ?_)
 subst h1
 refine ⟨?_,rfl,qvg h3,⟨.inl ⟨_,_,_,_,h4,trivial,?_,rfl⟩,trivial⟩⟩
 . show SV.Imp (.slice ⟨(chJ d []).out base [2] 2,.lit 0⟩ (.sym (40+40 * d.es.length)) (.sym (40+40 * d.es.length))) _
   rw [out1 (by show 2<=2; omega)]
   exact .refl _
 . intro γ vs ⟨g1,g2⟩
   refine ⟨g1,fun i x hx => ?_⟩
   have hi:i<40+40 * d.es.length:=by
    have:=(List.getElem?_eq_some_iff.1 hx).1
    omega
   rw [g2 i x hx,h5 i hi]; rfl
end
end Go.Proofs.YthkgcljngalafaaDoor.Aes
namespace Go.Sim
noncomputable section
open Go.Proofs Go.Shelf
def ql0 (e:SO):Bool:=match e with
 | .obj (.map _ _)=>true
 | .obj (.amap _ _ _ _)=>true
 | _=>false
theorem q71 {e:SO} (h:ql0 e=true):∃ o,e=.obj o/\∀ β x,o.den β=some x->∃ es c,x=.map es c:=by
 unfold ql0 at h
 split at h
 . refine ⟨_,rfl,fun β x hx => ?_⟩
   simp only [SObj.den,Option.map_eq_some_iff] at hx
   obtain ⟨es,_,rfl⟩:=hx
   exact ⟨_,_,rfl⟩
 . refine ⟨_,rfl,fun β x hx => ?_⟩
   exact ⟨_,_,(SObj.amap_den.1 hx).2⟩
 . cases h
def clnM:Summ:=fun args H base=>q1d args fun v=>match v with
 | .nilMap=>.ok ⟨.nilMap,[],[]⟩
 | .map nm=>optC (nth H nm) (.stuck 7850) fun e=>boolC (ql0 e) (.ok ⟨.map base,[],[e]⟩) (.stuck 7851)
 | _=>.stuck 7852
section
variable {P:Program} {ρ:Ren}
theorem qv9 (L:SlLaysW.n5 P ρ) (hs:∃ fn,P.funcs[ρ.f 5]? = some fn/\fn.body.isSome=true):qdb P (ρ.f 5) clnM:=by
 intro glob O w0 β H w base args vs hH hG ha
 refine q5b fun v hv => ?_
 rw [hv] at ha
 cases v <;> first | exact trivial | skip
 . rename_i nm
   refine qda fun e he=>qva fun hm => ?_
   obtain ⟨o,rfl,ho⟩:=q71 hm
   rw [qfa] at he
   obtain ⟨x,ys,hx,hys,rfl⟩:=denL_cons.1 ha
   cases hys
   obtain ⟨l,x',hβ,h0,hd,hh⟩:OwnRel P β w nm (.obj o):=(hH.entries nm _ he).toOwn rfl
   obtain ⟨es,c,rfl⟩:=ho _ _ hd
   have hx:(β nm).map (fun l=>Value.map (some l.blk))=some x:=hx
   rw [hβ] at hx
   cases hx
   intro hnew
   have hb:β base=none:=hnew 0 (by show (0:Nat)<1; omega)
   refine ⟨fun n e hm=>(by cases hm),.inl ⟨hs,?_⟩⟩
   refine (AnyW.maps_Clone L l.blk es c w hh).mono fun e w' ⟨he,hw⟩=>⟨_,β.upd base ⟨w.heap.size,0,0⟩,he,?_,?_⟩
   . show ((β.upd base ⟨w.heap.size,0,0⟩) base).map (fun l=>Value.map (some l.blk))=_
     rw [Val.upd_same]; rfl
   . subst hw
     exact Eff.allocO hb rfl rfl rfl rfl hd
 . obtain ⟨x,ys,hx,hys,rfl⟩:=denL_cons.1 ha
   cases hys; cases hx
   intro hnew
   refine ⟨fun n e hm=>(by cases hm),.inl ⟨hs,?_⟩⟩
   refine (AnyW.maps_Clone_nil L w).mono fun e w' ⟨he,hw⟩=>⟨_,β,he,rfl,?_⟩
   subst hw
   exact ⟨fun n l h=>h,rfl,rfl,rfl,Nat.le_refl _,Nat.le_refl _,fun _ _=>rfl,fun _ _ _=>rfl,fun _ _ _ h=>(by cases h),fun _ _ h=>(by cases h),fun _ _ h=>(by simp at h),fun _ _ _ _ _ h=>(by simp at h)⟩
end
end
end Go.Sim
namespace Go.Proofs
noncomputable section
open Go.Shelf
def Tryd.clnMk_ren:Go.Shelf.Ren:=⟨fun | 5=>52 | 7=>63 | n=>n,fun | 23=>66 | 25=>65 | 3=>70 | 4=>4 | 20=>20 | n=>n,fun | n=>n⟩
theorem Tryd.clnMk:Go.Proofs.SlLaysW.n5 Tryd.prog Tryd.clnMk_ren:={
 mixed:=by kernel_rfl
 f5:=⟨Tryd.f52.name,by decide,Tryd.func52.trans (congrArg some (by kernel_rfl))⟩
 f7:=Tryd.func63.trans (congrArg some (by kernel_rfl))
 t4:=Tryd.underlying4
 a4:=Tryd.isAgg4
 z4:=Tryd.sizeOf4
 v4:=Tryd.zeroValue4
 t20:=Tryd.underlying20
 a20:=Tryd.isAgg20
 z20:=Tryd.sizeOf20
 v20:=Tryd.zeroValue20
 t23:=Tryd.underlying66
 a23:=Tryd.isAgg66
 z23:=Tryd.sizeOf66
 v23:=Tryd.zeroValue66 }
end
end Go.Proofs
namespace Go.Proofs.YthkgcljngalafaaDoor.Aes
noncomputable section
open Go.Sim
open Go.Proofs
variable {α:Type}
set_option maxRecDepth 1000000
theorem j1g:qdb Tryd.prog 52 clnM:=qv9 Tryd.clnMk ⟨_,Tryd.func52,by kernel_rfl⟩
def rlE:List (FuncId × Summ):=[(52,clnM),(35,soSm)]
def cfgE:Cfg:=q8f (qdc rlE)
theorem qw9:CfgOK cfgE:=qgd (by
 intro y hy
 rcases List.mem_cons.1 hy with rfl | hy
 . exact j1g
 . obtain rfl:=List.mem_singleton.1 hy
   exact j7e)
section
variable (es:List MapEntry) (c:Nat) (sk lm cl fe:Int)
def coT:Tree:=qea cfgE 20000 43 [.ptr ⟨0,.lit 0⟩] [chRw 1 sk lm cl fe,.obj (.amap kMk uMk es c)]
def enT:Tree:=qea cfgE 20000 18 [.ptr ⟨0,.lit 0⟩] [chRw 1 sk lm cl fe,.obj (.amap kMk uMk es c)]
def enV (b:Nat):SV:=.func (.fn (.func 39)) [] [.ptr ⟨b,.lit 0⟩]
def enO (b n:Nat):SO:=.own (.lst [.slice ⟨b,.lit 0⟩ (.sym n) (.sym n)]) true 77
theorem j4j:outO [0,1,2,3] (coT es c sk lm cl fe) [false]=([lm0 lm],some (.ptr ⟨2,.lit 0⟩,[some (chRw 1 sk lm cl fe),some (.obj (.amap kMk uMk es c)),some (chO 3 sk lm cl fe),some (.obj (.amap kMk uMk es c))])):=by kernel_rfl
theorem j5j:outO [0,1,2,3] (enT es c sk lm cl fe) [true]=([(!(lm == 0))=true,ChOK es c/\es.length<=65536],some (enV 2,[some (chRw 1 sk lm cl fe),some (.obj (.amap kMk uMk es c)),some (enO 3 es.length),some (soR (rowM (lsM es)) es.length)])):=by kernel_rfl
end
def cpSm:Summ:=fun args H base=>q1d args fun p=>chRd H p fun d=>.need d.w (.ok ⟨.ptr ⟨base,.lit 0⟩,[],[chO (base+1) d.sk.den d.lm.den d.cl.den d.fe.den,.obj (.amap kMk uMk d.es d.c)]⟩)
def enSm:Summ:=fun args H base=>q1d args fun p=>chRd H p fun d=>.need d.w (.ok ⟨enV base,[],[enO (base+1) d.es.length,soR (rowM (lsM d.es)) d.es.length]⟩)
theorem cpOK:qdb Tryd.prog 43 cpSm:=by
 intro glob O w0 β H w base args vs hH hG ha
 refine q5b fun p hv=>qci fun d hd => ?_
 rw [hv,hd.ptr] at ha
 intro hw
 refine qrg (k':=kMk) (v':=uMk) hH hd.map ?_
 refine qyb qw9 20000 hH (chJ d []) (by intro g j hg; cases hg) ha (qug hd rfl) [2,3] (by simp [chJ]) (by simp) (qya (j4j d.es d.c d.sk.den d.lm.den d.cl.den d.fe.den) (all_cons hw.lm0 qaa) fun H2 hH2 => ?_)
 obtain ⟨h0,h1⟩:=List.cons.inj (show [H2[0]?,H2[1]?,H2[2]?,H2[3]?]=[some (chRw 1 d.sk.den d.lm.den d.cl.den d.fe.den),some (.obj (.amap kMk uMk d.es d.c)),some (chO 3 d.sk.den d.lm.den d.cl.den d.fe.den),some (.obj (.amap kMk uMk d.es d.c))] from hH2)
 obtain ⟨h1,h2⟩:=List.cons.inj h1
 obtain ⟨h2,h3⟩:=List.cons.inj h2
 have h3:=(List.cons.inj h3).1
 exact ⟨.refl _,rfl,qvg h1,⟨.inl ⟨_,_,_,_,h2,rfl,.refl _,rfl⟩,.inr ⟨_,_,h3,rfl,fun _ _ h=>h,rfl⟩,trivial⟩⟩
theorem enOK:qdb Tryd.prog 18 enSm:=by
 intro glob O w0 β H w base args vs hH hG ha
 refine q5b fun p hv=>qci fun d hd => ?_
 rw [hv,hd.ptr] at ha
 intro hw
 have hz:d.es.length<=65536:=by have:=hw.sz; have:=hw.hlm; have:=hw.len; omega
 refine qrg (k':=kMk) (v':=uMk) hH hd.map ?_
 refine qyb qw9 20000 hH (chJ d []) (by intro g j hg; cases hg) ha (qug hd rfl) [2,3] (by simp [chJ]) (by simp) (qya (j5j d.es d.c d.sk.den d.lm.den d.cl.den d.fe.den) (all_cons (by rw [show (d.lm.den == 0)=false from hw.lm0]; rfl) (all_cons ⟨hw.ok,hz⟩ qaa)) fun H2 hH2 => ?_)
 obtain ⟨h0,h1⟩:=List.cons.inj (show [H2[0]?,H2[1]?,H2[2]?,H2[3]?]=[some (chRw 1 d.sk.den d.lm.den d.cl.den d.fe.den),some (.obj (.amap kMk uMk d.es d.c)),some (enO 3 d.es.length),some (soR (rowM (lsM d.es)) d.es.length)] from hH2)
 obtain ⟨h1,h2⟩:=List.cons.inj h1
 obtain ⟨h2,h3⟩:=List.cons.inj h2
 have h3:=(List.cons.inj h3).1
 exact ⟨.refl _,rfl,qvg h1,⟨.inl ⟨_,_,_,_,h2,rfl,.refl _,rfl⟩,.inl ⟨_,_,_,_,h3,trivial,.refl _,rfl⟩,trivial⟩⟩
end
noncomputable section
open Go.Sim
open Go.Proofs
variable {α:Type}
set_option maxRecDepth 1000000
def rfA (sk lm cl fe:Int) (L:SV):SV:=.agg [.int .i64 (.sym sk),.int .i64 (.sym lm),.int .i64 (.sym cl),.int .i64 (.sym fe),L]
def rfL (b n:Nat):SV:=.slice ⟨b,.lit 0⟩ (.sym n) (.rest b 0)
def rfB (sk lm k fe:Int) (L:SV):SO:=.own (.lst [.int .i64 (.sym sk),.int .i64 (.sym lm),.int .i64 (.sym k),.int .i64 (.sym fe),L]) true 30
def rfR (V:Nat->Value) (m:Nat):SO:=.own (.raw V (m * 33)) false 54
def rfW (W:Nat->Value) (n:Nat):SO:=.row (.raw W (n * 33))
def tup2 (v:SV) (e:Int):SV:=.tuple [v,.int .i64 (.lit e)]
def catM (V:Nat->Value) (m:Nat) (W:Nat->Value) (o:Nat):Nat->Value:=catV (fun j=>V (0+j)) (m * 33) fun j=>atV (keyW W o) (0+j)
section
variable (W:Nat->Value) (n:Nat) (sk lm cl k fe now:Int) (i:Nat) (V:Nat->Value) (m:Nat) (J:Junk) (z:Nat->Nat->Nat)
def xuT (st:Option (Nat × Nat)):Tree:=qea (cfgP0.at st) 20000 41 [rfA sk lm cl fe (rfL 0 n),.int .i64 (.sym now)] [rfW W n]
def xuN:Tree:=qea cfgP0 20000 41 [rfA sk lm cl fe .nilSlice,.int .i64 (.sym now)] []
def xuS:SS:=q8c (xuT W n sk lm k fe 0 (some (1,0))) [true,false,false]
def xuF (l:SV):List SP:=qod (xuS W n sk lm k fe).frames [[(2,.ptr ⟨1,.lit 0⟩),(4,.ptr ⟨2,.lit 0⟩),(5,.int .i64 (.lit 0)),(6,l),(7,.int .i64 (.sym i))]]
def xuZ:SO:=(nth (xuS W n sk lm k fe).heap 2).getD .gone
def xuE:List HP:=[.ent (rfW W n),.ent (rfB sk lm k fe (rfL 0 n)),.ent (xuZ W n sk lm k fe)]
def xuC0:Cut:=⟨xuF W n sk lm k fe i .nilSlice,xuE W n sk lm k fe⟩
def xuC1:Cut:=⟨xuF W n sk lm k fe i (rfL 3 m),app (xuE W n sk lm k fe) [.ent (rfR V m)]⟩
def xu0 (st:Option (Nat × Nat)):Tree:=sim1 (cfgP0.at st) 20000 ((xuC0 W n sk lm k fe i).fill J)
def xu1 (st:Option (Nat × Nat)):Tree:=sim1 (cfgP0.at st) 20000 ((xuC1 W n sk lm k fe i V m).fill J)
theorem xu_a1:outO [] (xuT W n sk lm cl fe now none) [false,false,false]=(repN (tLo now) 3,some (tup2 (rfA sk lm cl fe (rfL 0 n)) 2,[])):=by kernel_rfl
theorem xu_a2:outO [] (xuT W n sk lm cl fe now none) [true,true]=(tHi now [tMx now],some (tup2 (rfA sk lm cl fe (rfL 0 n)) 2,[])):=by kernel_rfl
theorem xn_a1:outO [] (xuN sk lm cl fe now) [false,false,false]=(repN (tLo now) 3,some (tup2 (rfA sk lm cl fe .nilSlice) 2,[])):=by kernel_rfl
theorem xn_a2:outO [] (xuN sk lm cl fe now) [true,true]=(tHi now [tMx now],some (tup2 (rfA sk lm cl fe .nilSlice) 2,[])):=by kernel_rfl
theorem xn_1:outO [] (xuN sk lm cl fe now) [true,false,true]=(tOk now [decide (now > cl)=true],some (tup2 (rfA sk lm now fe .nilSlice) 0,[])):=by kernel_rfl
theorem xn_0:outO [] (xuN sk lm cl fe now) [true,false,false]=(tOk now [decide (now > cl)=false],some (tup2 (rfA sk lm cl fe .nilSlice) 0,[])):=by kernel_rfl
def ms7:List (Nat × Nat × SV):=[(0,7,.int .i64 (.lit 0))]
theorem xu_i1:outL [] (xuC0 W n sk lm now fe 0) n3 (xuT W n sk lm cl fe now (some (1,0))) [true,false,true] z=(tOk now [decide (now > cl)=true],some (.inr (qib ms7 [] (qra n3 3 (xuC0 W n sk lm now fe 0))))):=by kernel_rfl
theorem xu_i0:outL [] (xuC0 W n sk lm cl fe 0) n3 (xuT W n sk lm cl fe now (some (1,0))) [true,false,false] z=(tOk now [decide (now > cl)=false],some (.inr (qib ms7 [] (qra n3 3 (xuC0 W n sk lm cl fe 0))))):=by kernel_rfl
theorem qc3:(((xuC0 W n sk lm k fe i).frames[0]?).bind fun p=>p.tmps[7]?)=some (some (.int .i64 (.sym (i:Int)))):=by kernel_rfl
def ixP (i n:Nat):Prop:=(0:Int)<=(i:Int)/\(i:Int)<(n:Int)
def xuQ (b:Bool) (q:List Prop):List Prop:=(decide ((i:Int)<(n:Int))=true)::ixP i n::(0+i * 33+0<n * 33)::fitK (.i .i64) (W (0+i * 33+0))::qqa (vNum (W (0+i * 33+0))+sk)::(decide (vNum (W (0+i * 33+0))+sk>=k)=b)::q
def xuA (q:List Prop):List Prop:=ixP i n::(0+i * 33+33<=n * 33)::fitM W (0+i * 33)::q
def nxI (i:Nat):Prop:=qqa ((i+1:Nat):Int)
theorem xu_s0:outL [] (xuC0 W n sk lm k fe i) n3 (xu0 W n sk lm k fe i J (some (1,0))) [true,false] z=(xuQ W n sk k i false [nxI i],some (.inr (qra n3 3 (xuC0 W n sk lm k fe (i+1))))):=by kernel_rfl
def n34:List Nat:=[0,1,2,4]
def n35:List Nat:=[0,1,2,5]
def fsX (o:Nat):List (Nat × HP):=[(3,.ent (.own (.lst (.int .i64 (.sym (vNum (W (o+0))))::mapN (fun j=>.int .u8 (.b8 (BitVec.ofInt 8 (vNum (W (o+(j+1))))))) (qka 32 0))) false 54))]
theorem xu_f:outL [] (xuC1 W n sk lm k fe i V 1) n34 (xu0 W n sk lm k fe i J (some (1,0))) [true,true] z=(xuQ W n sk k i true (xuA W n i [nxI i]),some (.inr (qib [(0,6,.slice ⟨4,.lit 0⟩ (.lit 1) (.rest 4 0))] (fsX W (0+i * 33)) (qra n34 5 (xuC1 W n sk lm k fe (i+1) V 1))))):=by kernel_rfl
theorem j2g:(((xuC1 W n sk lm k fe i V m).frames[0]?).bind fun p=>p.tmps[6]?)=some (some (rfL 3 m)):=by kernel_rfl
theorem xu_s1:outL [] (xuC1 W n sk lm k fe i V m) n4 (xu1 W n sk lm k fe i V m J (some (1,0))) [true,false] z=(xuQ W n sk k i false [nxI i],some (.inr (qra n4 4 (xuC1 W n sk lm k fe (i+1) V m)))):=by kernel_rfl
def apP (Y:Nat->Value) (m:Nat) (q:List Prop):List Prop:=(33<=33)::(0+m * 33<=m * 33)::(((m+1) * 40<140737488355328/\m+1<140737488355328)/\∀ j,j<33->(Y j).oneCell'=true)::q
theorem xu_t1:outL [] (xuC1 W n sk lm k fe i V m) n35 (xu1 W n sk lm k fe i V m J (some (1,0))) [true,true] z=(xuQ W n sk k i true (xuA W n i (apP (fun j=>atV (keyW W (0+i * 33)) (0+j)) m [nxI i])),some (.inr (qra n35 6 (xuC1 W n sk lm k fe (i+1) (catM V m W (0+i * 33)) (m+1))))):=by kernel_rfl
theorem xu_e0:outL [] (xuC0 W n sk lm k fe i) n3 (xu0 W n sk lm k fe i J none) [false] z=([decide ((i:Int)<(n:Int))=false],some (.inl (tup2 (rfA sk lm k fe .nilSlice) 0,[]))):=by kernel_rfl
theorem xu_e1:outL [3] (xuC0 W n sk lm k fe i) n3 (xu1 W n sk lm k fe i V m J none) [false] z=([decide ((i:Int)<(n:Int))=false],some (.inl (tup2 (rfA sk lm k fe (rfL 3 m)) 0,[some (rfR V m)]))):=by kernel_rfl
theorem ql6 (r:Nat) (K:Int):boolC (qza 1 n3 (xuC0 W n sk lm K fe r) (xuC0 W n sk lm k fe i)) (allN qxa (xuC0 W n sk lm k fe i).heap) false=true:=by kernel_rfl
theorem xu_n1 (X:Nat->Value) (r q:Nat):boolC (qza 1 n4 (xuC1 W n sk lm k fe r X q) (xuC1 W n sk lm k fe i V m)) (allN qxa (xuC1 W n sk lm k fe i V m).heap) false=true:=by kernel_rfl
theorem xu_n4 (X:Nat->Value) (r q:Nat):boolC (qza 1 n34 (xuC1 W n sk lm k fe r X q) (xuC1 W n sk lm k fe i V m)) (allN qxa (xuC1 W n sk lm k fe i V m).heap) false=true:=by kernel_rfl
theorem xu_n5 (X:Nat->Value) (r q:Nat):boolC (qza 1 n35 (xuC1 W n sk lm k fe r X q) (xuC1 W n sk lm k fe i V m)) (allN qxa (xuC1 W n sk lm k fe i V m).heap) false=true:=by kernel_rfl
end
end
noncomputable section
open Go.Sim
open Go.Proofs
variable {α:Type}
set_option maxRecDepth 1000000
structure LsW (l:List Mk) (sk lm cl fe:Int):Prop where
 so:l.Pairwise mkLt
 hsk:0<=sk/\sk<=1048576
 hlm:1<=lm/\lm<=65536
 hcl:vTm cl
 hfe : -1<=fe/\fe<=1099511627776+1048576
 tm:∀ m∈l,vTm m.1
 nr:∀ m∈l,cl - sk<=m.1/\m.1<=cl+sk
 sz:(l.length:Int)<=lm
theorem ChW.ls {es:List MapEntry} {c:Nat} {sk lm cl fe:Int} (h:ChW es c sk lm cl fe):LsW (lsM es) sk lm cl fe:=⟨h.ok.so,h.hsk,h.hlm,h.hcl,h.hfe,h.tm,h.nr,h.sz⟩
theorem LsW.use {l:List Mk} {sk lm cl fe:Int} (h:LsW l sk lm cl fe) {now:Int} (hn:vTm now):LsW (l.filter (yng sk (clk now cl))) sk lm (clk now cl) fe:=by
 have h1:=qp9 now cl
 refine ⟨h.so.sublist List.filter_sublist,h.hsk,h.hlm,q5l hn h.hcl,h.hfe,fun m hm=>h.tm m (List.mem_filter.1 hm).1,fun m hm => ?_,?_⟩
 . obtain ⟨h2,h3⟩:=List.mem_filter.1 hm
   unfold yng at h3
   simp at h3
   have:=(h.nr m h2).2
   exact ⟨by omega,by omega⟩
 . have:=List.length_filter_le (yng sk (clk now cl)) l
   have:=h.sz
   omega
theorem q6p {V:Nat->Value} {m:Nat} {W:Nat->Value} {o:Nat} {x:Mk} (hx:keyW W o=mkC x):(∀ j,j<m * 33->catM V m W o j=V j)/\∀ j,j<33->catM V m W o (m * 33+j)=(mkC x).getD j undef:=by
 unfold catM catV
 refine ⟨fun j hj => ?_,fun j hj => ?_⟩
 . rw [if_pos hj]; show V (0+j)=_; rw [Nat.zero_add]
 . rw [if_neg (by omega)]
   show ((keyW W o)[0+(m * 33+j - m * 33)]?).getD undef=_
   rw [hx,List.getD_eq_getElem?_getD,show 0+(m * 33+j - m * 33)=j by omega]
theorem q2j {V X:Nat->Value} {m:Nat} {x:Mk} (h1:∀ j,j<m * 33->X j=V j) (h2:∀ j,j<33->X (m * 33+j)=(mkC x).getD j undef) (h:MkV V m):MkV X (m+1)/\mkL X (m+1)=mkL V m++[x]:=by
 have e0:X (m * 33)=.int .i64 x.1:=by
  have:=h2 0 (by omega)
  rw [Nat.add_zero] at this
  rw [this,List.getD_eq_getElem?_getD,q1e]; rfl
 have ej:∀ j,j<32->X (m * 33+(j+1))=.int .u8 ((x.2.at j).toNat:Int):=fun j hj=>by
  rw [h2 (j+1) (by omega),List.getD_eq_getElem?_getD,qee _ hj]; rfl
 have old:∀ i,i<m->mkAt X i=mkAt V i:=fun i hi=>by
  unfold mkAt
  rw [h1 _ (by omega)]
  refine Prod.ext rfl (q8e fun j hj => ?_)
  rw [qxc _ hj,qxc _ hj,h1 _ (by omega)]
 have new:mkAt X m=x:=by
  unfold mkAt
  refine Prod.ext ?_ (q8e fun j hj => ?_)
  . show vNum (X (m * 33))=_
    rw [e0]; rfl
  . rw [qxc _ hj,ej j hj]; exact qwe _
 refine ⟨fun i hi => ?_,?_⟩
 . by_cases c:i<m
   . rw [old i c,h1 _ (by omega)]
     obtain ⟨g1,g2⟩:=h i c
     exact ⟨g1,fun j hj=>by rw [h1 _ (by omega)]; exact g2 j hj⟩
   . obtain rfl:i=m:=by omega
     rw [new]
     exact ⟨e0,ej⟩
 . unfold mkL
   rw [List.range_succ,List.map_append,List.map_singleton,new]
   congr 1
   exact List.map_congr_left fun i hi=>old i (List.mem_range.1 hi)
def oneX (x:Mk):Nat->Value:=rowM [x]
theorem q6l (x:Mk):MkV (oneX x) 1/\mkL (oneX x) 1=[x]:=que [x]
theorem qd3 {f:Nat->Nat} {l:List Mk} {j:Nat} (hj:j<l.length):(Cells.lst (.int .i64 (.sym (vNum (rowM l (0+j * 33+0))))::mapN (fun i=>.int .u8 (.b8 (BitVec.ofInt 8 (vNum (rowM l (0+j * 33+(i+1))))))) (qka 32 0))).Imp ((Cells.raw (oneX l[j]) (1 * 33)).ren f):=by
 intro γ vs hv
 obtain ⟨h1,h2⟩:=qud hj
 have e:(Cells.lst (.int .i64 (.sym (vNum (rowM l (0+j * 33+0))))::mapN (fun i=>.int .u8 (.b8 (BitVec.ofInt 8 (vNum (rowM l (0+j * 33+(i+1))))))) (qka 32 0)))=.lst (mkCs l[j]):=by
  unfold mkCs
  congr 2
  . rw [Nat.zero_add,Nat.add_zero,h1]; rfl
  . rw [qma,qma]
    refine List.map_congr_left fun i hi => ?_
    rw [q5a,← List.range_eq_range',List.mem_range] at hi
    rw [Nat.zero_add,h2 i hi]
    show SV.int .u8 (.b8 (BitVec.ofInt 8 (((l[j].2.at i).toNat:Nat):Int)))=_
    rw [qwe]
 rw [e] at hv
 have hv:SV.denL γ (mkCs l[j])=some vs:=hv
 rw [qtg] at hv
 cases hv
 refine ⟨q4d _,fun i x hx => ?_⟩
 have hi:i<33:=by
  have:=(List.getElem?_eq_some_iff.1 hx).1
  rw [q4d] at this; exact this
 have e2:=q1j (q6l l[j]).1 i (by omega)
 rw [(q6l l[j]).2] at e2
 rw [e2]
 show x=(mkC (([l[j]][i / 33]?).getD default)).getD (i % 33) undef
 rw [show i / 33=0 by omega,show i % 33=i by omega,List.getD_eq_getElem?_getD]
 show x=((mkC l[j])[i]?).getD undef
 rw [hx]; rfl
inductive XuS
 | a (i:Nat)
 | b (i m:Nat) (V:Nat->Value)
section
variable (l:List Mk) (sk lm cl fe now k:Int)
def xuK:XuS->Cut
 | .a i=>xuC0 (rowM l) l.length sk lm k fe i
 | .b i m V=>xuC1 (rowM l) l.length sk lm k fe i V m
def xuOK:XuS->Prop
 | .a i=>i<=l.length/\(l.take i).filter (yng sk k)=[]
 | .b i m V=>i<=l.length/\0<m/\MkV V m/\mkL V m=(l.take i).filter (yng sk k)
def xuMu:XuS->Nat
 | .a i=>l.length - i
 | .b i _ _=>l.length - i
def qof (f:List Mk) (e:Int) (b:Nat) (v:SV) (H:List SO):Prop :=
 (f=[]/\v=tup2 (rfA sk lm k fe .nilSlice) e)\/(f≠[]/\∃ nl:SN,nl.den=f.length/\v=tup2 (rfA sk lm k fe (.slice ⟨b,.lit 0⟩ nl (.rest b 0))) e/\∃ cl,H[b]? = some (.own cl false 54)/\(∀ p,cl.Uses p)/\∀ g,(cl.ren g).Imp (.raw (rowM f) (f.length * 33)))
theorem qm0 {V:Nat->Value} {f:List Mk} {m:Nat} (hm:m=f.length) (h:MkV V m) (hl:mkL V m=f) (g:Nat->Nat):((Cells.raw V (m * 33)).ren g).Imp (.raw (rowM f) (f.length * 33)):=by
 subst hm
 refine qzr fun j hj => ?_
 rw [q1j h j hj,hl]
variable {l sk lm cl fe now}
theorem j3g (h:LsW l sk lm cl fe) (hn:vTm now):Runs cfgP0 41 [rfA sk lm cl fe (rfL 0 l.length),.int .i64 (.sym now)] [rfW (rowM l) l.length] (qof sk lm fe (clk now cl) (l.filter (yng sk (clk now cl))) 0 3):=by
 have hz:l.length<=65536:=by have:=h.sz; have:=h.hlm; omega
 refine qbd cfgP0OK (xuK l sk lm fe (clk now cl)) (xuOK l sk (clk now cl)) (xuMu l) (fun g nm hg=>by cases hg) ?_ fun a ha J => ?_
 . by_cases hc:now > cl
   . have ec:clk now cl=now:=if_pos hc
     refine qhd (N:=3) (es:=[]) (ms:=ms7) (ds:=[true,false,true]) (M:=xuC0 (rowM l) l.length sk lm now fe 0) (names:=n3) (some (1,0)) 20000 (.a 0) ⟨Nat.zero_le _,rfl⟩ (fun z => ?_) ?_ (fun q hq p u hp hu => ?_) (fun e he=>by cases he) (qje hn (all_cons (decide_eq_true hc) qaa))
     . show _=(_,some (Sum.inr (qib ms7 [] (qra n3 3 (xuC0 (rowM l) l.length sk lm (clk now cl) fe 0)))))
       rw [ec]; exact xu_i1 (rowM l) l.length sk lm cl fe now z
     . show boolC (qza 1 n3 _ (xuC0 (rowM l) l.length sk lm (clk now cl) fe 0)) _ _=true
       exact ql6 (rowM l) l.length sk lm (clk now cl) fe 0 0 now
     . obtain rfl:=List.mem_singleton.1 hq
       exact q4c (qc3 (rowM l) l.length sk lm (clk now cl) fe 0) hp hu (qna rfl)
   . have ec:clk now cl=cl:=if_neg hc
     refine qhd (N:=3) (es:=[]) (ms:=ms7) (ds:=[true,false,false]) (M:=xuC0 (rowM l) l.length sk lm cl fe 0) (names:=n3) (some (1,0)) 20000 (.a 0) ⟨Nat.zero_le _,rfl⟩ (fun z => ?_) ?_ (fun q hq p u hp hu => ?_) (fun e he=>by cases he) (qje hn (all_cons (decide_eq_false hc) qaa))
     . show _=(_,some (Sum.inr (qib ms7 [] (qra n3 3 (xuC0 (rowM l) l.length sk lm (clk now cl) fe 0)))))
       rw [ec]; exact xu_i0 (rowM l) l.length sk lm cl fe now z
     . show boolC (qza 1 n3 _ (xuC0 (rowM l) l.length sk lm (clk now cl) fe 0)) _ _=true
       exact ql6 (rowM l) l.length sk lm (clk now cl) fe 0 0 cl
     . obtain rfl:=List.mem_singleton.1 hq
       exact q4c (qc3 (rowM l) l.length sk lm (clk now cl) fe 0) hp hu (qna rfl)
 have hk:=q5l hn h.hcl
 generalize clk now cl=k at *
 have hQ:∀ {i:Nat} (hi:i<l.length) {b:Bool},yng sk k l[i]=b->∀ {q:List Prop},(∀ p∈q,p)->∀ p∈xuQ (rowM l) l.length sk k i b q,p:=fun {i} hi {b} hb {q} hq=>by
  have e0:rowM l (0+i * 33+0)=.int .i64 l[i].1:=by rw [Nat.zero_add,Nat.add_zero]; exact (qud hi).1
  have ht:=h.tm l[i] (List.getElem_mem hi)
  have hs:=h.hsk
  unfold vTm at ht
  refine all_cons (decide_eq_true (by omega)) (all_cons ⟨by omega,by omega⟩ (all_cons (by omega) (all_cons (by rw [e0]; exact fun _=>rfl) (all_cons (by rw [e0]; exact ⟨by show _<=l[i].1+sk; omega,by show l[i].1+sk<=_; omega⟩) (all_cons ?_ hq)))))
  rw [e0]
  show decide (l[i].1+sk>=k)=b
  rw [← hb]
  unfold yng
  by_cases c:l[i].1+sk<k
  . rw [decide_eq_true c,decide_eq_false (by omega)]; rfl
  . rw [decide_eq_false c,decide_eq_true (by omega)]; rfl
 have hA:∀ {i:Nat} (hi:i<l.length) {q:List Prop},(∀ p∈q,p)->∀ p∈xuA (rowM l) l.length i q,p:=fun {i} hi {q} hq=>all_cons ⟨by omega,by omega⟩ (all_cons (by omega) (all_cons (qdi hi) hq))
 have hI:∀ {i:Nat},i<l.length->∀ p∈[nxI i],p:=fun {i} hi=>all_cons ⟨by omega,by omega⟩ qaa
 have htk:∀ {i:Nat} (hi:i<l.length),(l.take (i+1)).filter (yng sk k)=(l.take i).filter (yng sk k)++if yng sk k l[i]=true then [l[i]] else []:=fun {i} hi=>by
  rw [← List.take_append_getElem hi,List.filter_append]
  congr 1
  by_cases c:yng sk k l[i]=true
  . rw [List.filter_cons_of_pos c,if_pos c]; rfl
  . rw [List.filter_cons_of_neg c,if_neg c]; rfl
 cases a with
 | a i =>
   obtain ⟨hi,hf⟩:i<=l.length/\(l.take i).filter (yng sk k)=[]:=ha
   show q6b cfgP0 _ _ _ _ ((xuC0 (rowM l) l.length sk lm k fe i).fill J)
   by_cases c:i<l.length
   . cases hy:yng sk k l[i] with
     | false =>
       refine q7b (ds:=[true,false]) (names:=n3) (N:=3) (M:=xuC0 (rowM l) l.length sk lm k fe i) (some (1,0)) 20000 (.a (i+1)) ⟨⟨c,?_⟩,by show l.length - (i+1)<l.length - i; omega⟩ (fun z=>xu_s0 (rowM l) l.length sk lm k fe i J z) (ql6 (rowM l) l.length sk lm k fe (i+1) i k) (hQ c hy (hI c))
       rw [htk c,hf,hy]; rfl
     | true =>
       refine q0e (ds:=[true,true]) (names:=n34) (N:=5) (M:=xuC1 (rowM l) l.length sk lm k fe i (oneX l[i]) 1) (some (1,0)) 20000 (.b (i+1) 1 (oneX l[i])) ⟨⟨c,Nat.one_pos,(q6l _).1,?_⟩,by show l.length - (i+1)<l.length - i; omega⟩ (fun z=>xu_f (rowM l) l.length sk lm k fe i (oneX l[i]) J z) (xu_n4 (rowM l) l.length sk lm k fe (i+1) (oneX l[i]) 1 (oneX l[i]) i 1) (fun q hq p u hp hu => ?_) (fun e he E0 hE0 => ?_) (hQ c hy (hA c (hI c)))
       . rw [(q6l _).2,htk c,hf,hy]; rfl
       . obtain rfl:=List.mem_singleton.1 hq
         exact q4c (j2g (rowM l) l.length sk lm k fe (i+1) (oneX l[i]) 1) hp hu fun _ _ h=>h
       . obtain rfl:=List.mem_singleton.1 he
         cases hE0
         exact ⟨_,rfl,qd3 c⟩
   . have hie:i=l.length:=by omega
     subst hie
     rw [List.take_length] at hf
     exact qec (js:=[]) (names:=n3) (M:=xuC0 (rowM l) l.length sk lm k fe l.length) none 20000 (fun z=>xu_e0 (rowM l) l.length sk lm k fe l.length J z) (all_cons (decide_eq_false (by omega)) qaa) fun H hH=>.inl ⟨hf,rfl⟩
 | b i m V =>
   obtain ⟨hi,hm,hV,hL⟩:i<=l.length/\0<m/\MkV V m/\mkL V m=(l.take i).filter (yng sk k):=ha
   show q6b cfgP0 _ _ _ _ ((xuC1 (rowM l) l.length sk lm k fe i V m).fill J)
   have hml:m<=l.length:=by
    have h1:=congrArg List.length hL
    rw [qtc] at h1
    have:=List.length_filter_le (yng sk k) (l.take i)
    rw [List.length_take] at this
    omega
   by_cases c:i<l.length
   . cases hy:yng sk k l[i] with
     | false =>
       refine q7b (ds:=[true,false]) (names:=n4) (N:=4) (M:=xuC1 (rowM l) l.length sk lm k fe i V m) (some (1,0)) 20000 (.b (i+1) m V) ⟨⟨c,hm,hV,?_⟩,by show l.length - (i+1)<l.length - i; omega⟩ (fun z=>xu_s1 (rowM l) l.length sk lm k fe i V m J z) (xu_n1 (rowM l) l.length sk lm k fe (i+1) V m V i m) (hQ c hy (hI c))
       rw [hL,htk c,hy]; simp
     | true =>
       obtain ⟨g1,g2⟩:=q6p (V:=V) (m:=m) (qwg c)
       obtain ⟨g3,g4⟩:=q2j g1 g2 hV
       refine q7b (ds:=[true,true]) (names:=n35) (N:=6) (M:=xuC1 (rowM l) l.length sk lm k fe i V m) (some (1,0)) 20000 (.b (i+1) (m+1) (catM V m (rowM l) (0+i * 33))) ⟨⟨c,by omega,g3,?_⟩,by show l.length - (i+1)<l.length - i; omega⟩ (fun z=>xu_t1 (rowM l) l.length sk lm k fe i V m J z) (xu_n5 (rowM l) l.length sk lm k fe (i+1) _ (m+1) V i m) (hQ c hy (hA c (all_cons (Nat.le_refl 33) (all_cons (by omega) (all_cons ⟨⟨by omega,by omega⟩,fun j hj => ?_⟩ (hI c))))))
       . rw [g4,hL,htk c,hy]; rfl
       . show (((keyW (rowM l) (0+i * 33))[0+j]?).getD undef).oneCell'=true
         rw [qwg c,Nat.zero_add]
         rcases (show j=0\/∃ t,j=t+1/\t<32 by
          cases j with
          | zero=>exact .inl rfl
          | succ t=>exact .inr ⟨t,rfl,by omega⟩) with rfl | ⟨t,rfl,ht⟩
         . rw [q1e]; rfl
         . rw [qee _ ht]; rfl
   . have hie:i=l.length:=by omega
     subst hie
     rw [List.take_length] at hL
     have hmf:m=(l.filter (yng sk k)).length:=by rw [← hL,qtc]
     refine qec (js:=[3]) (names:=n3) (M:=xuC0 (rowM l) l.length sk lm k fe l.length) none 20000 (fun z=>xu_e1 (rowM l) l.length sk lm k fe l.length V m J z) (all_cons (decide_eq_false (by omega)) qaa) fun H hH=>.inr ⟨fun e => ?_,.sym m,hmf,rfl,.raw V (m * 33),(List.cons.inj (show [H[3]?]=[some (rfR V m)] from hH)).1,fun _=>trivial,qm0 hmf hV hL⟩
     rw [e] at hmf; simp at hmf; omega
end
end
noncomputable section
open Go.Sim
open Go.Proofs
variable {α:Type}
set_option maxRecDepth 1000000
structure RfD where
 sk:SI
 lm:SI
 cl:SI
 fe:SI
 nm:Nat
 V:Nat->Value
 N:Nat
 n:SN
 nil:Bool
def RfD.l (d:RfD):List Mk:=mkL d.V d.n.den
def rfC (v:SV):Option ((SI × SI × SI × SI) × SV):=match v with
 | .agg [.int .i64 a,.int .i64 b,.int .i64 c,.int .i64 d,L]=>some ((a,b,c,d),L)
 | _=>none
theorem qn0 {v:SV} {r:(SI × SI × SI × SI) × SV} (h:rfC v=some r):v=.agg [.int .i64 r.1.1,.int .i64 r.1.2.1,.int .i64 r.1.2.2.1,.int .i64 r.1.2.2.2,r.2]:=by
 unfold rfC at h
 split at h
 . cases h; rfl
 . cases h
def nilB (v:SV):Bool:=match v with
 | .nilSlice=>true
 | _=>false
theorem qx9 {v:SV} (h:nilB v=true):v=.nilSlice:=by
 unfold nilB at h
 split at h
 . rfl
 . cases h
def slR (v:SV):Option (Nat × SN):=match v with
 | .slice a l (.rest b k)=>boolC (is0 a.off) (boolC (Nat.beq a.nm b) (boolC (Nat.beq k 0) (some (b,l)) none) none) none
 | _=>none
theorem jrc {v:SV} {r:Nat × SN} (h:slR v=some r):v=.slice ⟨r.1,.lit 0⟩ r.2 (.rest r.1 0):=by
 unfold slR at h
 split at h
 . rename_i a l b k
   cases h0:is0 a.off with
   | false=>rw [h0] at h; cases h
   | true =>
     cases h1:Nat.beq a.nm b with
     | false=>rw [h0,h1] at h; cases h
     | true =>
       cases h2:Nat.beq k 0 with
       | false=>rw [h0,h1,h2] at h; cases h
       | true =>
         rw [h0,h1,h2] at h
         cases h
         obtain ⟨nm,off⟩:=a
         obtain rfl:=qhn h0
         obtain rfl:nm=b:=Nat.eq_of_beq_eq_true h1
         obtain rfl:k=0:=Nat.eq_of_beq_eq_true h2
         rfl
 . cases h
def rawR (e:SO):Option ((Nat->Value) × Nat):=match e with
 | .own (.raw V n) _ _=>some (V,n)
 | .row (.raw V n)=>some (V,n)
 | _=>none
theorem qy9 {e:SO} {r:(Nat->Value) × Nat} (h:rawR e=some r):e=.row (.raw r.1 r.2)\/∃ w el,e=.own (.raw r.1 r.2) w el:=by
 unfold rawR at h
 split at h
 . cases h; exact .inr ⟨_,_,rfl⟩
 . cases h; exact .inl rfl
 . cases h
def rfV (H:List SO) (v:SV) (f:RfD->R α):R α:=optC (rfC v) (.stuck 7985) fun r =>
 boolC (nilB r.2) (f ⟨r.1.1,r.1.2.1,r.1.2.2.1,r.1.2.2.2,0,fun _=>undef,0,.lit 0,true⟩)
  (optC (slR r.2) (.stuck 7986) fun s=>optC (nth H s.1) (.stuck 7987) fun e=>optC (rawR e) (.stuck 7988) fun q=>f ⟨r.1.1,r.1.2.1,r.1.2.2.1,r.1.2.2.2,s.1,q.1,q.2,s.2,false⟩)
def RfD.L (d:RfD):SV:=boolC d.nil .nilSlice (.slice ⟨d.nm,.lit 0⟩ d.n (.rest d.nm 0))
structure RfIn (H:List SO) (v:SV) (d:RfD):Prop where
 val:v=.agg [.int .i64 d.sk,.int .i64 d.lm,.int .i64 d.cl,.int .i64 d.fe,d.L]
 row:d.nil=false->∃ e,H[d.nm]? = some e/\(e=.row (.raw d.V d.N)\/∃ w el,e=.own (.raw d.V d.N) w el)
 nl:d.nil=true->d.n=.lit 0
theorem q3j {H:List SO} {v:SV} {f:RfD->R α} {φ:α->Prop} (h:∀ d,RfIn H v d->(f d).Sat φ):(rfV H v f).Sat φ:=by
 refine qda fun r hr=>R.Sat.boolC (fun hn => ?_) fun hn=>qda fun s hs=>qda fun e he=>qda fun q hq => ?_
 . refine h _ ⟨by rw [qn0 hr,qx9 hn]; rfl,fun h=>(by cases h),fun _=>rfl⟩
 . rw [qfa] at he
   refine h _ ⟨?_,fun _=>⟨_,he,qy9 hq⟩,fun h=>(by cases h)⟩
   have h1:=qn0 hr
   rw [jrc hs] at h1
   exact h1
structure RfD.w (d:RfD):Prop where
 row:d.nil=false->d.n.den * 33<=d.N/\MkV d.V d.n.den
 ls:LsW d.l d.sk.den d.lm.den d.cl.den d.fe.den
theorem RfD.len {d:RfD}:d.l.length=d.n.den:=qtc _ _
def RfD.a (d:RfD) (L:SV):SV:=rfA d.sk.den d.lm.den d.cl.den d.fe.den L
theorem q7t {d:RfD} {L L':SV} (h:L.Imp L'):(SV.agg [.int .i64 d.sk,.int .i64 d.lm,.int .i64 d.cl,.int .i64 d.fe,L]).Imp (d.a L') :=
 qah (qba (qna rfl) (qba (qna rfl) (qba (qna rfl) (qba (qna rfl) (qba h qwa)))))
def rfI (d:RfD) (ar:List SV):Ifc:=⟨[d.nm],[rfW (rowM d.l) d.l.length],d.a (rfL 0 d.l.length)::ar⟩
theorem q0r {H:List SO} {v:SV} {d:RfD} (h:RfIn H v d) (hw:d.w) (hn:d.nil=false) {ar:List SV} (hu:SV.usesL (rfI d ar).known ar=true):(rfI d ar).FitsQ H:=by
 obtain ⟨e,he,ho⟩:=h.row hn
 obtain ⟨h1,h2⟩:=hw.row hn
 refine Ifc.fitsQ (by show [d.nm].Nodup; simp) (by show (true && SV.usesL (rfI d ar).known ar)=true; rw [hu]; rfl) ⟨⟨⟨_,he,_,ho,fun γ vs ⟨g1,g2⟩=>⟨d.l.length * 33,?_,fun i x hx => ?_⟩⟩,trivial⟩,trivial⟩
 . have:=RfD.len (d:=d)
   rw [List.length_take]; omega
 . have hi:i<d.l.length * 33:=by
    have:=(List.getElem?_eq_some_iff.1 hx).1
    rw [List.length_take] at this; omega
   rw [List.getElem?_take,if_pos hi] at hx
   rw [g2 i x hx]
   exact q1j h2 i (by rw [← RfD.len (d:=d)]; exact hi)
theorem qo0 {H:List SO} {v:SV} {d:RfD} (_h:RfIn H v d) (hn:d.nil=false) {ar:List SV}:(SV.agg [.int .i64 d.sk,.int .i64 d.lm,.int .i64 d.cl,.int .i64 d.fe,d.L]).Imp ((d.a (rfL 0 d.l.length)).ren (rfI d ar).big):=by
 have e:(d.a (rfL 0 d.l.length)).ren (rfI d ar).big=d.a (.slice ⟨d.nm,.lit 0⟩ (.sym d.l.length) (.rest d.nm 0)):=rfl
 rw [e]
 refine q7t ?_
 unfold RfD.L
 rw [hn]
 exact q7c (RfD.len (d:=d)).symm
theorem q7l {H:List SO} {v:SV} {d:RfD} (h:RfIn H v d) (hn:d.nil=true):v.Imp (d.a .nilSlice)/\d.l=[]:=by
 refine ⟨?_,?_⟩
 . rw [h.val]
   refine q7t ?_
   unfold RfD.L
   rw [hn]
   exact .refl _
 . unfold RfD.l
   rw [h.nl hn]; rfl
def rfOk (d:RfD) (base:Nat) (k fe:Int) (f:List Mk) (e:Int):R SumRes :=
 .fork f.isEmpty (.ok ⟨tup2 (rfA d.sk.den d.lm.den k fe .nilSlice) e,[],[]⟩) (.ok ⟨tup2 (rfA d.sk.den d.lm.den k fe (rfL base f.length)) e,[],[rfR (rowM f) f.length]⟩)
def rfAs (d:RfD) (e:Int):R SumRes:=.ok ⟨tup2 (d.a d.L) e,[],[]⟩
theorem q8l {l m:List SV} (h:SV.ImpL l m):(SV.tuple l).Imp (.tuple m):=fun β x hx=>by
 simp only [SV.den] at hx ⊢
 cases hl:SV.denL β l with
 | none=>rw [hl] at hx; cases hx
 | some vs=>rw [h β _ hl]; rw [hl] at hx; exact hx
theorem qe3 {P:Program} {H:List SO} {O:Nat->Prop} {w0 w:World} {β:Val} {base:Nat} {f:FuncId} {vs:List Value} {c:Cfg} (hc:c.P=P) (hH:HeapRel0 c.P O w0 β H w) {I:Ifc} (hgl:∀ g j,c.glob g=some j->I.known j=true/\∃ l,β (I.big j)=some l/\l.blk=g/\l.off=0) (ha:SV.denL β (SV.renL I.big I.args)=some vs) (hI:I.FitsQ H) (ho:qwc I.ents 0=[]) {d:RfD} {k fe e:Int} {l:List Mk}
  (hr:Runs c f I.args I.ents fun v H=>∃ b,I.names.length<=b/\qof d.sk.den d.lm.den fe k l e b v H):(rfOk d base k fe l e).Sat (SumSem P H β w base f vs):=by
 subst hc
 refine ⟨fun hn => ?_,fun hn => ?_⟩
 . refine qid hH I hgl ha hI [] (by simp) (by simp) (qlb hr fun v H2 ⟨b,_,h⟩ => ?_)
   rcases h with ⟨_,rfl⟩ | ⟨h,_⟩
   . exact ⟨.refl _,rfl,by rw [ho]; trivial,trivial⟩
   . exact absurd (by simpa using hn) h
 . refine ql9 hH I hgl ha hI (qlb hr fun v H2 ⟨b,hb,h⟩=>⟨[b],by simpa using hb,by simp,?_⟩)
   rcases h with ⟨h,_⟩ | ⟨h,nl,hnl,rfl,cl,h1,h2,h3⟩
   . rw [h] at hn; cases hn
   . refine ⟨?_,?_,by rw [ho]; trivial,⟨.inl ⟨_,_,_,_,h1,h2 _,h3 _,rfl⟩,trivial⟩⟩
     . have e1:(tup2 (rfA d.sk.den d.lm.den k fe (.slice ⟨b,.lit 0⟩ nl (.rest b 0))) e).ren (I.out base [b])=tup2 (rfA d.sk.den d.lm.den k fe (.slice ⟨I.out base [b] b,.lit 0⟩ nl (.rest (I.out base [b] b) 0))) e:=rfl
       rw [e1,out1 hb]
       exact q8l (qba (qah (qba (.refl _) (qba (.refl _) (qba (.refl _) (qba (.refl _) (qba (q7c hnl) qwa)))))) (qba (.refl _) qwa))
     . show ((true && (true && (true && (true && ((I.seen [b] b && (true && I.seen [b] b)) && true))))) && (true && true))=true
       rw [q2t]; rfl
end
noncomputable section
open Go.Sim
open Go.Proofs
variable {α:Type}
set_option maxRecDepth 1000000
def RfD.k (d:RfD) (now:Int):Int:=clk now d.cl.den
def RfD.u (d:RfD) (now:Int):List Mk:=d.l.filter (yng d.sk.den (d.k now))
def qm6:Summ:=fun args H base=>qkd args fun v n=>rfV H v fun d=>optC (i64V n) (.stuck 7989) fun now=>.need d.w (.fork (cB (vTm now.den)) (rfOk d base (d.k now.den) d.fe.den (d.u now.den) 0) (rfAs d 2))
theorem qkv {H:List SO} {O:Nat->Prop} {w0 w:World} {β:Val} {base:Nat} {f:FuncId} {vs:List Value} {c:Cfg} (hc:CfgOK c) (hgl:∀ g,c.glob g=none) (hH:HeapRel0 c.P O w0 β H w) {v:SV} {d:RfD} (hd:RfIn H v d) (hw:d.w) {ar az':List SV} (hu:∀ p,SV.usesL p ar=true) (har:SV.ImpL az' ar) (hren:∀ g,SV.renL g ar=ar) (ha:SV.denL β (v::az')=some vs)
  {e:Int} (h1:∃ ds ps,outO [] (qea c 20000 f (d.a .nilSlice::ar) []) ds=(ps,some (tup2 (d.a .nilSlice) e,[]))/\∀ p∈ps,p)
  (h2:∃ ds ps,outO [] (qea c 20000 f (d.a (rfL 0 d.l.length)::ar) [rfW (rowM d.l) d.l.length]) ds=(ps,some (tup2 (d.a (rfL 0 d.l.length)) e,[]))/\∀ p∈ps,p):(rfAs d e).Sat (SumSem c.P H β w base f vs):=by
 cases hn:d.nil with
 | true =>
   obtain ⟨ds,ps,hr,hp⟩:=h1
   have hL:d.L=.nilSlice:=by unfold RfD.L; rw [hn]; rfl
   have hi:=(q7l hd hn).1
   refine qyb hc 20000 hH ⟨[],[],d.a .nilSlice::ar⟩ (by intro g j hg; rw [hgl] at hg; cases hg) ?_ (Ifc.fitsQ (by simp) (by show (true && SV.usesL _ ar)=true; rw [hu]; rfl) trivial) [] (by simp) (by simp) (qya hr hp fun H2 _=>⟨?_,rfl,trivial,trivial⟩)
   . show SV.denL β (d.a .nilSlice::SV.renL _ ar)=some vs
     rw [hren]
     exact qba hi har _ _ ha
   . rw [hL]; exact .refl _
 | false =>
   obtain ⟨ds,ps,hr,hp⟩:=h2
   have hL:d.L=.slice ⟨d.nm,.lit 0⟩ d.n (.rest d.nm 0):=by unfold RfD.L; rw [hn]; rfl
   rw [hd.val] at ha
   refine qyb hc 20000 hH (rfI d ar) (by intro g j hg; rw [hgl] at hg; cases hg) ?_ (q0r hd hw hn (hu _)) [] (by simp [rfI]) (by simp) (qya hr hp fun H2 _=>⟨?_,rfl,trivial,trivial⟩)
   . show SV.denL β (_::SV.renL _ ar)=some vs
     rw [hren]
     exact qba (qo0 hd hn) har _ _ ha
   . rw [hL]
     refine fun γ x hx => ?_
     have e1:(tup2 (d.a (rfL 0 d.l.length)) e).ren ((rfI d ar).out base [])=tup2 (d.a (.slice ⟨d.nm,.lit 0⟩ (.sym d.l.length) (.rest d.nm 0))) e:=rfl
     rw [e1] at hx
     have:(SV.slice ⟨d.nm,.lit 0⟩ (.sym d.l.length) (.rest d.nm 0)).Imp (.slice ⟨d.nm,.lit 0⟩ d.n (.rest d.nm 0)):=q7c (RfD.len (d:=d))
     exact q8l (qba (qah (qba (.refl _) (qba (.refl _) (qba (.refl _) (qba (.refl _) (qba this qwa)))))) (qba (.refl _) qwa)) γ x hx
theorem qxg {H:List SO} {O:Nat->Prop} {w0 w:World} {β:Val} {base:Nat} {f:FuncId} {vs:List Value} {c:Cfg} (hgl:∀ g,c.glob g=none) (hH:HeapRel0 c.P O w0 β H w) {v:SV} {d:RfD} (hd:RfIn H v d) (hw:d.w) {ar az':List SV} (hu:∀ p,SV.usesL p ar=true) (har:SV.ImpL az' ar) (hren:∀ g,SV.renL g ar=ar) (ha:SV.denL β (v::az')=some vs)
  {k fe e:Int} {l:List Mk} (h1:d.l=[]->Runs c f (d.a .nilSlice::ar) [] fun v H=>∃ b,0<=b/\qof d.sk.den d.lm.den fe k l e b v H) (h2:Runs c f (d.a (rfL 0 d.l.length)::ar) [rfW (rowM d.l) d.l.length] fun v H=>∃ b,1<=b/\qof d.sk.den d.lm.den fe k l e b v H):(rfOk d base k fe l e).Sat (SumSem c.P H β w base f vs):=by
 cases hn:d.nil with
 | true =>
   obtain ⟨hi,hl⟩:=q7l hd hn
   refine qe3 (I:=⟨[],[],d.a .nilSlice::ar⟩) rfl hH (by intro g j hg; rw [hgl] at hg; cases hg) ?_ (Ifc.fitsQ (by simp) (by show (true && SV.usesL _ ar)=true; rw [hu]; rfl) trivial) rfl (h1 hl)
   show SV.denL β (d.a .nilSlice::SV.renL _ ar)=some vs
   rw [hren]
   exact qba hi har _ _ ha
 | false =>
   rw [hd.val] at ha
   refine qe3 (I:=rfI d ar) rfl hH (by intro g j hg; rw [hgl] at hg; cases hg) ?_ (q0r hd hw hn (hu _)) rfl h2
   show SV.denL β (_::SV.renL _ ar)=some vs
   rw [hren]
   exact qba (qo0 hd hn) har _ _ ha
theorem j9e:qdb Tryd.prog 41 qm6:=by
 intro glob O w0 β H w base args vs hH hG ha
 refine qrb fun v n hv=>q3j fun d hd=>qda fun now hn => ?_
 rw [hv,qsc hn] at ha
 intro hw
 have hgl:∀ g,cfgP0.glob g=none:=fun g=>rfl
 refine ⟨fun hc => ?_,fun hc => ?_⟩
 . have hc:=cBi.1 hc
   refine qxg (c:=cfgP0) (ar:=[.int .i64 (.sym now.den)]) hgl hH hd hw (fun _=>rfl) (qba (qna rfl) qwa) (fun _=>rfl) ha (fun hl => ?_) (qlb (j3g hw.ls hc) fun v H h=>⟨3,by omega,h⟩)
   have hu:d.u now.den=[]:=by unfold RfD.u; rw [hl]; rfl
   by_cases h:now.den > d.cl.den
   . refine qgc cfgP0OK (qya (xn_1 d.sk.den d.lm.den d.cl.den d.fe.den now.den) (qje hc (all_cons (decide_eq_true h) qaa)) fun H2 _=>⟨0,Nat.le_refl 0,.inl ⟨hu,?_⟩⟩)
     have:d.k now.den=now.den:=if_pos h
     rw [this]
   . refine qgc cfgP0OK (qya (xn_0 d.sk.den d.lm.den d.cl.den d.fe.den now.den) (qje hc (all_cons (decide_eq_false h) qaa)) fun H2 _=>⟨0,Nat.le_refl 0,.inl ⟨hu,?_⟩⟩)
     have:d.k now.den=d.cl.den:=if_neg h
     rw [this]
 . refine qkv (c:=cfgP0) (ar:=[.int .i64 (.sym now.den)]) cfgP0OK hgl hH hd hw (fun _=>rfl) (qba (qna rfl) qwa) (fun _=>rfl) ha ?_ ?_
   . rcases qpi (cB_f hc) with h | ⟨h,h'⟩
     . exact ⟨_,_,xn_a1 _ _ _ _ _,qgb h 3⟩
     . exact ⟨_,_,xn_a2 _ _ _ _ _,all_cons h (all_cons h' qaa)⟩
   . rcases qpi (cB_f hc) with h | ⟨h,h'⟩
     . exact ⟨_,_,xu_a1 _ _ _ _ _ _ _,qgb h 3⟩
     . exact ⟨_,_,xu_a2 _ _ _ _ _ _ _,all_cons h (all_cons h' qaa)⟩
end
noncomputable section
open Go.Sim
open Go.Proofs
variable {α:Type}
set_option maxRecDepth 1000000
section
variable (sk lm:Int)
def rnT:Tree:=qea cfgP0 20000 19 [.int .i64 (.sym sk),.int .i64 (.sym lm)] []
def rnZ:SV:=.agg [.int .i64 (.lit 0),.int .i64 (.lit 0),.int .i64 (.lit 0),.int .i64 (.lit 0),.nilSlice]
def rnX:Option (SV × List (Option SO)):=some (.tuple [rnZ,.int .i64 (.lit 2)],[])
def rnV:SV:=.agg [.int .i64 (.sym sk),.int .i64 (.sym lm),.int .i64 (.lit 0),.int .i64 (.lit (-1)),.nilSlice]
theorem rn_1:outO [] (rnT sk lm) [true,true,true]=(repN (decide (sk<0)=true) 3,rnX):=by kernel_rfl
theorem rn_2:outO [] (rnT sk lm) [false,true,true,true]=((decide (sk<0)=false)::repN (decide (sk > 1048576)=true) 3,rnX):=by kernel_rfl
theorem rn_3:outO [] (rnT sk lm) [false,false,true,true,true]=((decide (sk<0)=false)::(decide (sk > 1048576)=false)::repN (decide (lm<1)=true) 3,rnX):=by kernel_rfl
theorem rn_4:outO [] (rnT sk lm) [false,false,false,true]=([decide (sk<0)=false,decide (sk > 1048576)=false,decide (lm<1)=false,decide (lm > 65536)=true],rnX):=by kernel_rfl
theorem rn_ok:outO [] (rnT sk lm) [false,false,false,false]=([decide (sk<0)=false,decide (sk > 1048576)=false,decide (lm<1)=false,decide (lm > 65536)=false],some (.tuple [rnV sk lm,.int .i64 (.lit 0)],[])):=by kernel_rfl
end
def jaf:Summ:=fun args _ _=>qkd args fun a b=>optC (i64V a) (.stuck 7931) fun a=>optC (i64V b) (.stuck 7931) fun b =>
 .fork (cB (nwP a.den b.den)) (.ok ⟨.tuple [rfA a.den b.den 0 (-1) .nilSlice,.int .i64 (.lit 0)],[],[]⟩) (.ok ⟨.tuple [rnZ,.int .i64 (.lit 2)],[],[]⟩)
theorem rnwOK:qdb Tryd.prog 19 jaf:=by
 intro glob O w0 β H w base args vs hH hG ha
 refine qrb fun p q hv=>qda fun a hp=>qda fun b hq => ?_
 rw [hv,qsc hp,qsc hq] at ha
 have hA:SV.denL β (SV.renL (Ifc.mk [] [] [.int .i64 (.sym a.den),.int .i64 (.sym b.den)]).big [.int .i64 (.sym a.den),.int .i64 (.sym b.den)])=some vs:=qba (qna rfl) (qba (qna rfl) qwa) _ _ ha
 have hF:(Ifc.mk [] [] [.int .i64 (.sym a.den),.int .i64 (.sym b.den)]).FitsQ H:=Ifc.fitsQ (by simp) rfl trivial
 have go:∀ {ds ps v v'},outO [] (rnT a.den b.den) ds=(ps,some (v,[]))->(∀ p∈ps,p)->(∀ g,(v.ren g).Imp v')->(∀ p,v.uses p=true)->SumSem Tryd.prog H β w base 19 vs ⟨v',[],[]⟩:=fun {ds ps v v'} hr hp hi hu =>
  qyb cfgP0OK 20000 hH ⟨[],[],[.int .i64 (.sym a.den),.int .i64 (.sym b.den)]⟩ (by intro g j hg; cases hg) hA hF [] (by simp) (by simp) (qya hr hp fun _ _=>⟨hi _,hu _,trivial,trivial⟩)
 refine ⟨fun hc => ?_,fun hc => ?_⟩
 . obtain ⟨⟨h1,h2⟩,h3,h4⟩:=cBi.1 hc
   exact go (rn_ok a.den b.den) (all_cons (decide_eq_false (by omega)) (all_cons (decide_eq_false (by omega)) (all_cons (decide_eq_false (by omega)) (all_cons (decide_eq_false (by omega)) qaa)))) (fun _=>q8l (qba (qah (qba (.refl _) (qba (.refl _) (qba (qna rfl) (qba (qna rfl) (qba (.refl _) qwa)))))) (qba (.refl _) qwa))) (fun _=>rfl)
 . have hc:¬ nwP a.den b.den:=fun h=>by rw [qta h] at hc; cases hc
   have gx:∀ {ds ps},outO [] (rnT a.den b.den) ds=(ps,rnX)->(∀ p∈ps,p)->SumSem Tryd.prog H β w base 19 vs ⟨.tuple [rnZ,.int .i64 (.lit 2)],[],[]⟩:=fun {ds ps} hr hp=>go hr hp (fun _=>.refl _) (fun _=>rfl)
   by_cases h1:a.den<0
   . exact gx (rn_1 a.den b.den) (qgb (decide_eq_true h1) 3)
   by_cases h2:a.den > 1048576
   . exact gx (rn_2 a.den b.den) (all_cons (decide_eq_false h1) (qgb (decide_eq_true h2) 3))
   by_cases h3:b.den<1
   . exact gx (rn_3 a.den b.den) (all_cons (decide_eq_false h1) (all_cons (decide_eq_false h2) (qgb (decide_eq_true h3) 3)))
   by_cases h4:b.den > 65536
   . exact gx (rn_4 a.den b.den) (all_cons (decide_eq_false h1) (all_cons (decide_eq_false h2) (all_cons (decide_eq_false h3) (all_cons (decide_eq_true h4) qaa))))
   . exact absurd ⟨⟨by omega,by omega⟩,by omega,by omega⟩ hc
end
noncomputable section
open Go.Sim
open Go.Proofs
open Go.Shelf Go.Sort
variable {α:Type}
set_option maxRecDepth 1000000
section
variable (m n:Mk)
def leT:Tree:=qea cfgP0 20000 31 [mkS m,mkS n] []
def dgBs:List UInt8:=(bytesOf (mapN (fun j=>SI.b8 (m.2.at j)) (qka 32 0))).data.toList
theorem le_ne:outO [] (leT m n) [true]=([(m.1 != n.1)=true],some (.bool (.sym (decide (m.1<n.1))),[])):=by kernel_rfl
theorem le_eq:outO [] (leT m n) [false]=([(m.1 != n.1)=false],some (.bool (.sym (Op.bytesLess (dgBs m) (dgBs n))),[])):=by kernel_rfl
end
theorem qf3 (m:Mk):dgBs m=m.2.1.data.toList:=by
 have h:=qyw m.2
 have e:(dgOf m.2.at).1.data.toList=(List.range 32).map fun j=>UInt8.ofBitVec (m.2.at j):=by
  unfold dgOf
  simp
 rw [← h,e]
 unfold dgBs bytesOf
 rw [qma,q5a,← List.range_eq_range',List.map_map]
 show ((List.range 32).map _).toArray.toList=_
 rw [List.toList_toArray]
 refine List.map_congr_left fun j _ => ?_
 show UInt8.ofNat ((((m.2.at j).toNat:Nat):Int).toNat)=_
 exact qg0 _
def leSm:Summ:=fun args _ _=>qkd args fun a b=>optC (mkV a) (.stuck 7991) fun m=>optC (mkV b) (.stuck 7991) fun n=>.ok ⟨.bool (.sym (cB (mkLt m n))),[],[]⟩
theorem j4g (m n:Mk):Op.bytesLess (dgBs m) (dgBs n)=decide (m.2.1.data.toList<n.2.1.data.toList):=by
 rw [qf3,qf3]; exact bytesLess_eq _ _
theorem leOK:qdb Tryd.prog 31 leSm:=by
 intro glob O w0 β H w base args vs hH hG ha
 refine qrb fun a b hv=>qda fun m hm=>qda fun n hn => ?_
 rw [hv] at ha
 have ha:=qba (qbi hm) (qba (qbi hn) qwa) _ _ ha
 have hr:∀ (f:Nat->Nat) (m:Mk),(mkS m).ren f=mkS m:=fun f m=>by kernel_rfl
 have hu:∀ (p:Nat->Bool) (m:Mk),(mkS m).uses p=true:=fun p m=>by kernel_rfl
 have go:∀ {ds ps} {b:Bool},outO [] (leT m n) ds=(ps,some (.bool (.sym b),[]))->(∀ p∈ps,p)->b=cB (mkLt m n)->SumSem Tryd.prog H β w base 31 vs ⟨.bool (.sym (cB (mkLt m n))),[],[]⟩:=fun {ds ps b} hrun hp hb=>by
  refine qyb cfgP0OK 20000 hH ⟨[],[],[mkS m,mkS n]⟩ (by intro g j hg; cases hg) ?_ (Ifc.fitsQ (by simp) (by show ((mkS m).uses _ && ((mkS n).uses _ && true))=true; rw [hu,hu]; rfl) trivial) [] (by simp) (by simp) (qya hrun hp fun H2 _=>⟨?_,rfl,trivial,trivial⟩)
  . show SV.denL β [(mkS m).ren _,(mkS n).ren _]=_
    rw [hr,hr]; exact ha
  . rw [← hb]; exact .refl _
 by_cases c:m.1=n.1
 . refine go (le_eq m n) (all_cons (by simp [c]) qaa) ?_
   rw [j4g,Bool.eq_iff_iff,cBi,decide_eq_true_iff]
   unfold mkLt
   exact ⟨fun h=>.inr ⟨c,h⟩,fun h=>by
    rcases h with h | h
    . omega
    . exact h.2⟩
 . refine go (le_ne m n) (all_cons (by simp [c]) qaa) ?_
   rw [Bool.eq_iff_iff,cBi,decide_eq_true_iff]
   unfold mkLt
   exact ⟨fun h=>.inl h,fun h=>by
    rcases h with h | h
    . exact h
    . exact absurd h.1 c⟩
end
noncomputable section
open Go.Sim
open Go.Proofs
variable {α:Type}
set_option maxRecDepth 1000000
def rlR:List (FuncId × Summ):=[(41,qm6),(31,leSm)]
def cfgR:Cfg:=q8f (qdc rlR)
theorem qjd:CfgOK cfgR:=qgd (by
 intro y hy
 rcases List.mem_cons.1 hy with rfl | hy
 . exact j9e
 . obtain rfl:=List.mem_singleton.1 hy
   exact leOK)
section
variable (W:Nat->Value) (n:Nat) (sk lm cl k fe t now:Int) (d:Dg) (U:Nat->Value) (q:Nat) (i:Nat) (V:Nat->Value) (m:Nat) (J:Junk) (z:Nat->Nat->Nat)
def xpT (st:Option (Nat × Nat)):Tree:=qea (cfgR.at st) 20000 40 [rfA sk lm cl fe (rfL 0 n),dgS d,.int .i64 (.sym t),.int .i64 (.sym now)] [rfW W n]
def xpN:Tree:=qea cfgR 20000 40 [rfA sk lm cl fe .nilSlice,dgS d,.int .i64 (.sym t),.int .i64 (.sym now)] []
def xpS:SS:=q8c (xpT W n sk lm k fe t 0 d (some (1,0))) [true,false,true,false,true,false,false,false,false]
def xpF (l:SV) (b:Bool):List SP:=qod (xpS W n sk lm k fe t d).frames [[(4,.ptr ⟨1,.lit 0⟩),(8,.ptr ⟨2,.lit 0⟩),(9,.int .i64 (.lit 0)),(10,.ptr ⟨4,.lit 0⟩),(11,l),(12,.bool (.lit b)),(13,.int .i64 (.sym i))]]
def xpZ:SO:=(nth (xpS W n sk lm k fe t d).heap 3).getD .gone
def xpX:SO:=.own (.lst (mkCs (t,d))) true 54
def xpE:List HP:=[.ent (rfW W n),.ent (rfB sk lm k fe (rfL 3 q)),.ent (xpZ W n sk lm k fe t d),.ent (rfR U q),.ent (xpX t d)]
def xpC0:Cut:=⟨xpF W n sk lm k fe t d i .nilSlice false,xpE W n sk lm k fe t d U q⟩
def xpC1 (b:Bool):Cut:=⟨xpF W n sk lm k fe t d i (rfL 5 m) b,app (xpE W n sk lm k fe t d U q) [.ent (rfR V m)]⟩
def xp0 (st:Option (Nat × Nat)):Tree:=sim1 (cfgR.at st) 20000 ((xpC0 W n sk lm k fe t d U q i).fill J)
def xp1 (b:Bool) (st:Option (Nat × Nat)):Tree:=sim1 (cfgR.at st) 20000 ((xpC1 W n sk lm k fe t d U q i V m b).fill J)
def rdN:RfD:=⟨.sym sk,.sym lm,.sym cl,.sym fe,0,fun _=>undef,0,.lit 0,true⟩
def rdR:RfD:=⟨.sym sk,.sym lm,.sym cl,.sym fe,0,W,n * 33,.sym n,false⟩
def xpP (D:RfD) (e:Bool) (q:List Prop):List Prop:=tOk t (tOk now (D.w::(cB (vTm now)=true)::((D.u now).isEmpty=e)::qqa (D.k now+sk)::q))
def xpG (D:RfD) (e:Bool) (q:List Prop):List Prop:=xpP sk t now D e ((decide (t > D.k now+sk)=false)::qqa (D.k now - sk)::q)
def oN (k e:Int):Option (SV × List (Option SO)):=some (tup2 (rfA sk lm k fe .nilSlice) e,[])
theorem j6j:outO [] (xpN sk lm cl fe t now d) [false,false,false]=(repN (tLo t) 3,oN sk lm fe cl 2):=by kernel_rfl
theorem j7j:outO [] (xpN sk lm cl fe t now d) [true,true,true,true,true]=(tHi t (repN (tMx t) 4),oN sk lm fe cl 2):=by kernel_rfl
theorem xn_b1:outO [] (xpN sk lm cl fe t now d) [true,false,false,false,false]=(tOk t (repN (tLo now) 3),oN sk lm fe cl 2):=by kernel_rfl
theorem xn_b2:outO [] (xpN sk lm cl fe t now d) [true,false,true,true]=(tOk t (tHi now [tMx now]),oN sk lm fe cl 2):=by kernel_rfl
def oA (e:Int):Option (SV × List (Option SO)):=some (tup2 (rfA sk lm cl fe (rfL 0 n)) e,[])
theorem xr_a1:outO [] (xpT W n sk lm cl fe t now d none) [false,false,false]=(repN (tLo t) 3,oA n sk lm cl fe 2):=by kernel_rfl
theorem xr_a2:outO [] (xpT W n sk lm cl fe t now d none) [true,true,true,true,true]=(tHi t (repN (tMx t) 4),oA n sk lm cl fe 2):=by kernel_rfl
theorem xr_b1:outO [] (xpT W n sk lm cl fe t now d none) [true,false,false,false,false]=(tOk t (repN (tLo now) 3),oA n sk lm cl fe 2):=by kernel_rfl
theorem xr_b2:outO [] (xpT W n sk lm cl fe t now d none) [true,false,true,true]=(tOk t (tHi now [tMx now]),oA n sk lm cl fe 2):=by kernel_rfl
def xpD (e:Bool) (l:List Bool):List Bool:=app [true,false,true,false,true,e] l
theorem xn_r1:outO [] (xpN sk lm cl fe t now d) (xpD true (repN true 8))=(xpP sk t now (rdN sk lm cl fe) true (repN (decide (t > (rdN sk lm cl fe).k now+sk)=true) 8),oN sk lm fe ((rdN sk lm cl fe).k now) 3):=by kernel_rfl
theorem xn_r2:outO [] (xpN sk lm cl fe t now d) (xpD true [false,true])=(xpG sk t now (rdN sk lm cl fe) true [decide (t<(rdN sk lm cl fe).k now - sk)=true],oN sk lm fe ((rdN sk lm cl fe).k now) 3):=by kernel_rfl
theorem xn_st:outO [] (xpN sk lm cl fe t now d) (xpD true [false,false,true])=(xpG sk t now (rdN sk lm cl fe) true [decide (t<(rdN sk lm cl fe).k now - sk)=false,decide (t<=fe)=true],oN sk lm fe ((rdN sk lm cl fe).k now) 8):=by kernel_rfl
def oX (b:Nat) (k:Int):Option (SV × List (Option SO)):=some (tup2 (rfA sk lm k fe (.slice ⟨b,.lit 0⟩ (.lit 1) (.rest b 0))) 0,[some (.own (.lst (mkCs (t,d))) false 54)])
theorem xn_ok:outO [5] (xpN sk lm cl fe t now d) (xpD true [false,false,false,false])=(xpG sk t now (rdN sk lm cl fe) true [decide (t<(rdN sk lm cl fe).k now - sk)=false,decide (t<=fe)=false,decide ((0:Int)>=lm)=false],oX sk lm fe t d 5 ((rdN sk lm cl fe).k now)):=by kernel_rfl
theorem xr_r1:outO [] (xpT W n sk lm cl fe t now d none) (xpD true (repN true 8))=(xpP sk t now (rdR W n sk lm cl fe) true (repN (decide (t > (rdR W n sk lm cl fe).k now+sk)=true) 8),oN sk lm fe ((rdR W n sk lm cl fe).k now) 3):=by kernel_rfl
theorem xr_r2:outO [] (xpT W n sk lm cl fe t now d none) (xpD true [false,true])=(xpG sk t now (rdR W n sk lm cl fe) true [decide (t<(rdR W n sk lm cl fe).k now - sk)=true],oN sk lm fe ((rdR W n sk lm cl fe).k now) 3):=by kernel_rfl
theorem xr_st:outO [] (xpT W n sk lm cl fe t now d none) (xpD true [false,false,true])=(xpG sk t now (rdR W n sk lm cl fe) true [decide (t<(rdR W n sk lm cl fe).k now - sk)=false,decide (t<=fe)=true],oN sk lm fe ((rdR W n sk lm cl fe).k now) 8):=by kernel_rfl
theorem xr_ok:outO [6] (xpT W n sk lm cl fe t now d none) (xpD true [false,false,false,false])=(xpG sk t now (rdR W n sk lm cl fe) true [decide (t<(rdR W n sk lm cl fe).k now - sk)=false,decide (t<=fe)=false,decide ((0:Int)>=lm)=false],oX sk lm fe t d 6 ((rdR W n sk lm cl fe).k now)):=by kernel_rfl
def oU (l:List Mk) (b:Nat) (k e:Int):Option (SV × List (Option SO)):=some (tup2 (rfA sk lm k fe (rfL b l.length)) e,[some (rfR (rowM l) l.length)])
theorem xs_r1:outO [4] (xpT W n sk lm cl fe t now d none) (xpD false (repN true 8))=(xpP sk t now (rdR W n sk lm cl fe) false (repN (decide (t > (rdR W n sk lm cl fe).k now+sk)=true) 8),oU sk lm fe ((rdR W n sk lm cl fe).u now) 4 ((rdR W n sk lm cl fe).k now) 3):=by kernel_rfl
theorem xs_r2:outO [4] (xpT W n sk lm cl fe t now d none) (xpD false [false,true])=(xpG sk t now (rdR W n sk lm cl fe) false [decide (t<(rdR W n sk lm cl fe).k now - sk)=true],oU sk lm fe ((rdR W n sk lm cl fe).u now) 4 ((rdR W n sk lm cl fe).k now) 3):=by kernel_rfl
theorem xs_st:outO [4] (xpT W n sk lm cl fe t now d none) (xpD false [false,false,true])=(xpG sk t now (rdR W n sk lm cl fe) false [decide (t<(rdR W n sk lm cl fe).k now - sk)=false,decide (t<=fe)=true],oU sk lm fe ((rdR W n sk lm cl fe).u now) 4 ((rdR W n sk lm cl fe).k now) 8):=by kernel_rfl
end
end
noncomputable section
open Go.Sim
open Go.Proofs
variable {α:Type}
set_option maxRecDepth 1000000
def seeW (W:Nat->Value) (o:Nat):List SV:=.int .i64 (.sym (vNum (W (o+0))))::mapN (fun j=>.int .u8 (.b8 (BitVec.ofInt 8 (vNum (W (o+(j+1))))))) (qka 32 0)
def eqW (W:Nat->Value) (o:Nat) (x:Mk):Bool:=(optC (quc (.i::repN .i 32) (seeW W o) (mkCs x)) (SB.lit false) fun b=>b).den
def leW (W:Nat->Value) (o:Nat) (x:Mk):Bool:=optC (mkV (mkS x)) false fun m=>optC (mkV (.agg (seeW W o))) false fun n=>cB (mkLt m n)
def keyC (x:Mk):List Value:=.int .i64 x.1::mapN (fun j=>.int .u8 ((x.2.at j).toNat:Int)) (qka 32 0)
def catX (V:Nat->Value) (m:Nat) (x:Mk):Nat->Value:=catV (fun j=>V (0+j)) (m * 33) fun j=>atV (keyC x) (0+j)
section
variable (W:Nat->Value) (n:Nat) (sk lm cl k fe t now:Int) (d:Dg) (U:Nat->Value) (q:Nat) (i:Nat) (V:Nat->Value) (m:Nat) (J:Junk) (z:Nat->Nat->Nat)
def n5p:List Nat:=[0,1,3,4,5]
def n5s:List Nat:=[0,1,2,3,4]
def nP (j:Nat):List Nat:=[0,1,2,3,4,j]
def ms13:List (Nat × Nat × SV):=[(0,13,.int .i64 (.lit 0))]
def xpU:List Mk:=(rdR W n sk lm cl fe).u now
theorem j5g:outL [] (xpC0 W n sk lm ((rdR W n sk lm cl fe).k now) fe t d (rowM (xpU W n sk lm cl fe now)) (xpU W n sk lm cl fe now).length 0) n5p (xpT W n sk lm cl fe t now d (some (1,0))) (xpD false [false,false,false]) z=(xpG sk t now (rdR W n sk lm cl fe) false [decide (t<(rdR W n sk lm cl fe).k now - sk)=false,decide (t<=fe)=false],
 some (.inr (qib ms13 [] (qra n5p 6 (xpC0 W n sk lm ((rdR W n sk lm cl fe).k now) fe t d (rowM (xpU W n sk lm cl fe now)) (xpU W n sk lm cl fe now).length 0))))):=by kernel_rfl
theorem jsc:(((xpC0 W n sk lm k fe t d U q i).frames[0]?).bind fun p=>p.tmps[13]?)=some (some (.int .i64 (.sym (i:Int)))):=by kernel_rfl
def xqI (q i:Nat) (r:List Prop):List Prop:=ixP i q::(0+i * 33+33<=q * 33)::r
def xqF (U:Nat->Value) (q i:Nat) (r:List Prop):List Prop:=xqI q i (fitM U (0+i * 33)::r)
def xqE (U:Nat->Value) (q i:Nat) (x:Mk) (b:Bool) (r:List Prop):List Prop:=(decide ((i:Int)<(q:Int))=true)::xqF U q i ((eqW U (0+i * 33) x=b)::r)
def xqL (U:Nat->Value) (q i:Nat) (x:Mk) (b:Bool) (r:List Prop):List Prop:=xqE U q i x false (xqF U q i ((leW U (0+i * 33) x=b)::r))
theorem j8j:outL [3] (xpC0 W n sk lm k fe t d U q i) n5s (xp0 W n sk lm k fe t d U q i J none) [true,true] z=(xqE U q i (t,d) true [],some (.inl (tup2 (rfA sk lm k fe (rfL 3 q)) 11,[some (rfR U q)]))):=by kernel_rfl
theorem j9j (b:Bool):outL [3] (xpC0 W n sk lm k fe t d U q i) n5s (xp1 W n sk lm k fe t d U q i V m J b none) [true,true] z=(xqE U q i (t,d) true [],some (.inl (tup2 (rfA sk lm k fe (rfL 3 q)) 11,[some (rfR U q)]))):=by kernel_rfl
def fs2 (U:Nat->Value) (o:Nat) (x:Mk):List (Nat × HP):=[(5,.ent (.own (.lst (app (mkCs x) (seeW U o))) false 54))]
def fs1 (U:Nat->Value) (o:Nat):List (Nat × HP):=[(5,.ent (.own (.lst (seeW U o)) false 54))]
def ms11 (b:Nat) (l:Nat):List (Nat × Nat × SV):=[(0,11,.slice ⟨b,.lit 0⟩ (.lit l) (.rest b 0))]
theorem jak:outL [] (xpC1 W n sk lm k fe t d U q i V 2 true) (nP 8) (xp0 W n sk lm k fe t d U q i J (some (1,0))) [true,false,true] z=(xqL U q i (t,d) true (xqF U q i [nxI i]),
 some (.inr (qib (ms11 8 2) (fs2 U (0+i * 33) (t,d)) (qra (nP 8) 9 (xpC1 W n sk lm k fe t d U q (i+1) V 2 true))))):=by kernel_rfl
theorem jbk:outL [] (xpC1 W n sk lm k fe t d U q i V 1 false) (nP 6) (xp0 W n sk lm k fe t d U q i J (some (1,0))) [true,false,false] z=(xqL U q i (t,d) false (xqF U q i [nxI i]),
 some (.inr (qib (ms11 6 1) (fs1 U (0+i * 33)) (qra (nP 6) 7 (xpC1 W n sk lm k fe t d U q (i+1) V 1 false))))):=by kernel_rfl
theorem qp0 (b:Bool):(((xpC1 W n sk lm k fe t d U q i V m b).frames[0]?).bind fun p=>p.tmps[11]?)=some (some (rfL 5 m)):=by kernel_rfl
def yU (U:Nat->Value) (o:Nat):Nat->Value:=fun j=>atV (keyW U o) (0+j)
def yX (x:Mk):Nat->Value:=fun j=>atV (keyC x) (0+j)
theorem jck:outL [] (xpC1 W n sk lm k fe t d U q i V m true) (nP 9) (xp1 W n sk lm k fe t d U q i V m J false (some (1,0))) [true,false,true] z=(xqL U q i (t,d) true (apP (yX (t,d)) m (xqF U q i (apP (yU U (0+i * 33)) (m+1) [nxI i]))),
 some (.inr (qra (nP 9) 10 (xpC1 W n sk lm k fe t d U q (i+1) (catM (catX V m (t,d)) (m+1) U (0+i * 33)) (m+1+1) true)))):=by kernel_rfl
theorem jdk:outL [] (xpC1 W n sk lm k fe t d U q i V m false) (nP 7) (xp1 W n sk lm k fe t d U q i V m J false (some (1,0))) [true,false,false] z=(xqL U q i (t,d) false (xqF U q i (apP (yU U (0+i * 33)) m [nxI i])),
 some (.inr (qra (nP 7) 8 (xpC1 W n sk lm k fe t d U q (i+1) (catM V m U (0+i * 33)) (m+1) false)))):=by kernel_rfl
theorem jek:outL [] (xpC1 W n sk lm k fe t d U q i V m true) (nP 7) (xp1 W n sk lm k fe t d U q i V m J true (some (1,0))) [true,false] z=(xqE U q i (t,d) false (xqF U q i (apP (yU U (0+i * 33)) m [nxI i])),
 some (.inr (qra (nP 7) 8 (xpC1 W n sk lm k fe t d U q (i+1) (catM V m U (0+i * 33)) (m+1) true)))):=by kernel_rfl
def xqN (q i:Nat) (r:List Prop):List Prop:=(decide ((i:Int)<(q:Int))=false)::r
def xqK (q:Nat) (b:Bool) (r:List Prop):List Prop:=(decide ((q:Int)>=lm)=b)::r
theorem xp_fu (b:Bool):outL [3] (xpC0 W n sk lm k fe t d U q i) n5s (xp1 W n sk lm k fe t d U q i V m J b none) [false,true] z=(xqN q i (xqK lm q true []),some (.inl (tup2 (rfA sk lm k fe (rfL 3 q)) 7,[some (rfR U q)]))):=by kernel_rfl
theorem xp_ep:outL [5] (xpC0 W n sk lm k fe t d U q i) n5s (xp1 W n sk lm k fe t d U q i V m J true none) [false,false] z=(xqN q i (xqK lm q false []),some (.inl (tup2 (rfA sk lm k fe (rfL 5 m)) 0,[some (rfR V m)]))):=by kernel_rfl
theorem xp_en:outL [7] (xpC0 W n sk lm k fe t d U q i) n5s (xp1 W n sk lm k fe t d U q i V m J false none) [false,false] z=(xqN q i (xqK lm q false (apP (yX (t,d)) m [])),some (.inl (tup2 (rfA sk lm k fe (rfL 7 (m+1))) 0,[some (rfR (catX V m (t,d)) (m+1))]))):=by kernel_rfl
theorem xp_n0:boolC (qza 1 n5p (xpC0 W n sk lm k fe t d U q i) (xpC0 W n sk lm k fe t d U q i)) (allN qxa (xpC0 W n sk lm k fe t d U q i).heap) false=true:=by kernel_rfl
theorem q8t (j:Nat) (hj:j=6\/j=7\/j=9\/j=8) (b b':Bool) (X:Nat->Value) (r s:Nat):boolC (qza 1 (nP j) (xpC1 W n sk lm k fe t d U q r X s b') (xpC1 W n sk lm k fe t d U q i V m b)) (allN qxa (xpC1 W n sk lm k fe t d U q i V m b).heap) false=true:=by
 rcases hj with rfl | rfl | rfl | rfl
 . kernel_rfl
 . kernel_rfl
 . kernel_rfl
 . kernel_rfl
end
end
noncomputable section
open Go.Sim
open Go.Proofs
variable {α:Type}
set_option maxRecDepth 1000000
theorem qz9 (x y:SB):(andS x y).den=(x.den && y.den):=by
 cases x with
 | lit a=>cases a <;> cases y <;> rfl
 | sym a =>
   cases y with
   | lit b =>
     cases b
     . show false=(a && false); simp
     . show a=(a && true); simp
   | sym b=>rfl
theorem q1r (f g:Nat->BitVec 8):∀ l:List Nat,∃ s,quc (List.replicate l.length .i) (l.map fun j=>SV.int .u8 (.b8 (f j))) (l.map fun j=>SV.int .u8 (.b8 (g j)))=some s/\(s.den=true↔∀ j∈l,f j=g j)
 | []=>⟨.lit true,rfl,by simp [SB.den]⟩
 | a::l=>by
   obtain ⟨s,h1,h2⟩:=q1r f g l
   refine ⟨andS (.sym (((f a).toNat:Int) == ((g a).toNat:Int))) s,?_,?_⟩
   . show ((some (SB.sym (((f a).toNat:Int) == ((g a).toNat:Int)))).bind fun x=>(quc (List.replicate l.length .i) (l.map fun j=>SV.int .u8 (.b8 (f j))) (l.map fun j=>SV.int .u8 (.b8 (g j)))).map fun y=>andS x y)=_
     rw [h1]; rfl
   . rw [qz9,Bool.and_eq_true,h2]
     show ((((f a).toNat:Int) == ((g a).toNat:Int))=true/\_)↔_
     rw [beq_iff_eq]
     constructor
     . rintro ⟨k1,k2⟩ j hj
       rcases List.mem_cons.1 hj with rfl | hj
       . exact BitVec.eq_of_toNat_eq (by omega)
       . exact k2 j hj
     . intro k
       exact ⟨by rw [k a (by simp)],fun j hj=>k j (by simp [hj])⟩
theorem q2r {l:List Mk} {j:Nat} (hj:j<l.length):seeW (rowM l) (0+j * 33)=mkCs l[j]:=by
 obtain ⟨h1,h2⟩:=qud hj
 unfold seeW mkCs
 congr 1
 . rw [Nat.zero_add,Nat.add_zero,h1]; rfl
 . rw [qma,qma]
   refine List.map_congr_left fun i hi => ?_
   rw [q5a,← List.range_eq_range',List.mem_range] at hi
   rw [Nat.zero_add,h2 i hi]
   show SV.int .u8 (.b8 (BitVec.ofInt 8 (((l[j].2.at i).toNat:Nat):Int)))=_
   rw [qwe]
theorem q9t {β γ:Type} {x:β} {n:γ} {f:β->γ}:optC (some x) n f=f x:=rfl
theorem j6g {l:List Mk} {j:Nat} (hj:j<l.length) (x:Mk):eqW (rowM l) (0+j * 33) x=cB (x=l[j]):=by
 unfold eqW
 rw [q2r hj]
 generalize l[j]=a
 obtain ⟨s,h1,h2⟩:=q1r a.2.at x.2.at (List.range 32)
 have e:quc (.i::repN .i 32) (mkCs a) (mkCs x)=some (andS (.sym (a.1 == x.1)) s):=by
  unfold mkCs
  show ((some (SB.sym (a.1 == x.1))).bind fun u=>(quc (repN .i 32) (mapN (fun j=>SV.int .u8 (.b8 (a.2.at j))) (qka 32 0)) (mapN (fun j=>SV.int .u8 (.b8 (x.2.at j))) (qka 32 0))).map fun y=>andS u y)=_
  rw [qma,qma,q5a,← List.range_eq_range',q9c]
  rw [List.length_range] at h1
  rw [h1]; rfl
 rw [e,Bool.eq_iff_iff,cBi,q9t]
 show (andS (SB.sym (a.1 == x.1)) s).den=true↔_
 rw [qz9,Bool.and_eq_true,h2]
 show ((a.1 == x.1)=true/\_)↔_
 rw [beq_iff_eq]
 constructor
 . rintro ⟨k1,k2⟩
   exact Prod.ext k1.symm (q8e fun j hj=>(k2 j (List.mem_range.2 hj)).symm)
 . rintro rfl
   exact ⟨rfl,fun _ _=>rfl⟩
theorem qg3 (m:Mk):mkV (mkS m)=some m:=by
 have:mkV (mkS m)=some (m.1,dgOf (q3a ((List.range 32).map fun j=>m.2.at j))):=by kernel_rfl
 rw [this]
 congr 1
 refine Prod.ext rfl (q8e fun j hj => ?_)
 show (dgOf _).at j=_
 rw [qxc _ hj]
 unfold q3a
 simp [hj]
theorem j7g {l:List Mk} {j:Nat} (hj:j<l.length) (x:Mk):leW (rowM l) (0+j * 33) x=cB (mkLt x l[j]):=by
 unfold leW
 rw [q2r hj,qg3]
 show (optC (mkV (mkS l[j])) false fun n=>cB (mkLt x n))=_
 rw [qg3]; rfl
theorem qlv (x:Mk):keyC x=mkC x:=by
 unfold keyC mkC
 rw [qma,q5a,← List.range_eq_range']
theorem qh3 {V:Nat->Value} {m:Nat} {x:Mk}:(∀ j,j<m * 33->catX V m x j=V j)/\∀ j,j<33->catX V m x (m * 33+j)=(mkC x).getD j undef:=by
 unfold catX catV
 refine ⟨fun j hj => ?_,fun j hj => ?_⟩
 . rw [if_pos hj]; show V (0+j)=_; rw [Nat.zero_add]
 . rw [if_neg (by omega)]
   show ((keyC x)[0+(m * 33+j - m * 33)]?).getD undef=_
   rw [qlv,List.getD_eq_getElem?_getD,show 0+(m * 33+j - m * 33)=j by omega]
theorem qq0 {x:Mk}:∀ {l r:List Mk},(∃ y∈l,mkLt x y)->insM x (l++r)=insM x l++r
 | [],_,h=>by obtain ⟨_,h,_⟩:=h; cases h
 | a::l,r,h=>by
   show insM x (a::(l++r))=_
   unfold insM
   by_cases c:mkLt x a
   . rw [if_pos c,if_pos c]; rfl
   . rw [if_neg c,if_neg c,qq0 (l:=l)]
     . rfl
     . obtain ⟨y,hy,hl⟩:=h
       rcases List.mem_cons.1 hy with rfl | hy
       . exact absurd hl c
       . exact ⟨y,hy,hl⟩
theorem qmv {x:Mk}:∀ {l r:List Mk},(∀ y∈l,¬ mkLt x y)->insM x (l++r)=l++insM x r
 | [],_,_=>rfl
 | a::l,r,h=>by
   show (if mkLt x a then x::a::(l++r) else a::insM x (l++r))=_
   rw [if_neg (h a (by simp)),qmv (l:=l) (r:=r) fun y hy=>h y (by simp [hy])]
   rfl
theorem qr0 {x a:Mk} (h:mkLt x a):insM x [a]=[x,a]:=by
 unfold insM
 rw [if_pos h]
theorem q3r (x:Mk) (l:List Mk):(insM x l).length=l.length+1:=(qch x l).length_eq
theorem jbf (l:List Mk) (sk lm cl fe:Int):(rdR (rowM l) l.length sk lm cl fe).l=l:=(que l).2
theorem jcf {l:List Mk} {sk lm cl fe:Int} (h:LsW l sk lm cl fe):(rdR (rowM l) l.length sk lm cl fe).w:=⟨fun _=>⟨Nat.le_refl _,(que l).1⟩,by rw [jbf]; exact h⟩
theorem qdy {sk lm cl fe:Int} (h:LsW [] sk lm cl fe):(rdN sk lm cl fe).w:=⟨fun h=>(by cases h),h⟩
theorem jdf (l:List Mk) (sk lm cl fe now:Int):(rdR (rowM l) l.length sk lm cl fe).u now=l.filter (yng sk (clk now cl)):=by
 unfold RfD.u
 rw [jbf]; rfl
theorem q4r {x:Mk} {i:Nat} (h:i<33):(((keyC x)[0+i]?).getD undef).oneCell'=true:=by
 rw [qlv,Nat.zero_add]
 rcases (show i=0\/∃ t,i=t+1/\t<32 by
  cases i with
  | zero=>exact .inl rfl
  | succ t=>exact .inr ⟨t,rfl,by omega⟩) with rfl | ⟨t,rfl,ht⟩
 . rw [q1e]; rfl
 . rw [qee _ ht]; rfl
theorem jtc {l:List Mk} {j i:Nat} (hj:j<l.length) (h:i<33):(((keyW (rowM l) (0+j * 33))[0+i]?).getD undef).oneCell'=true:=by
 rw [qwg hj,← qlv]
 exact q4r h
theorem j8g (a b:Mk) (β:Val):SV.denL β (mkCs a++mkCs b)=some (mkC a++mkC b):=qsd (qtg a β) (qtg b β)
theorem j9g (a b:Mk):CellsRel (fun _=>none) (.raw (rowM [a,b]) (2 * 33)) (mkC a++mkC b):=by
 refine ⟨by rw [List.length_append,q4d,q4d],fun i x hx => ?_⟩
 show x=(mkC (([a,b][i / 33]?).getD default)).getD (i % 33) undef
 by_cases c:i<33
 . rw [List.getElem?_append_left (by rw [q4d]; exact c)] at hx
   rw [show i / 33=0 by omega,show i % 33=i by omega,List.getD_eq_getElem?_getD]
   show x=((mkC a)[i]?).getD undef
   rw [hx]; rfl
 . rw [List.getElem?_append_right (by rw [q4d]; omega),q4d] at hx
   have hi:i - 33<33:=by
    have:=(List.getElem?_eq_some_iff.1 hx).1
    rwa [q4d] at this
   rw [show i / 33=1 by omega,show i % 33=i - 33 by omega,List.getD_eq_getElem?_getD]
   show x=((mkC b)[i - 33]?).getD undef
   rw [hx]; rfl
end
noncomputable section
open Go.Sim
open Go.Proofs
variable {α:Type}
set_option maxRecDepth 1000000
def q3k (lm:Int) (x:Mk) (u:List Mk):List Mk × Int:=boolC (cB (x∈u)) (u,11) (boolC (cB (lm<=(u.length:Int))) (u,7) (insM x u,0))
theorem qs0 {lm:Int} {x:Mk} {u:List Mk} (h:x∈u):q3k lm x u=(u,11):=by unfold q3k; rw [qta h]; rfl
theorem qt0 {lm:Int} {x:Mk} {u:List Mk} (h:x ∉ u) (h':lm<=(u.length:Int)):q3k lm x u=(u,7):=by unfold q3k; rw [qoa h,qta h']; rfl
theorem qnn {lm:Int} {x:Mk} {u:List Mk} (h:x ∉ u) (h':¬ lm<=(u.length:Int)):q3k lm x u=(insM x u,0):=by unfold q3k; rw [qoa h,qoa h']; rfl
inductive XpS
 | z
 | b (i m:Nat) (V:Nat->Value) (pl:Bool)
section
variable (W:Nat->Value) (n:Nat) (sk lm k fe t:Int) (d:Dg) (u:List Mk)
def xpK:XpS->Cut
 | .z=>xpC0 W n sk lm k fe t d (rowM u) u.length 0
 | .b i m V pl=>xpC1 W n sk lm k fe t d (rowM u) u.length i V m pl
def xpOK:XpS->Prop
 | .z=>u≠[]
 | .b i m V pl=>i<=u.length/\1<=i/\MkV V m/\(t,d) ∉ u.take i/\((pl=false/\mkL V m=u.take i/\∀ y∈u.take i,¬ mkLt (t,d) y)\/(pl=true/\mkL V m=insM (t,d) (u.take i)/\∃ y∈u.take i,mkLt (t,d) y))
def xpMu:XpS->Nat
 | .z=>u.length+1
 | .b i _ _ _=>u.length - i
def xpDD (v:SV) (H:List SO):Prop:=∃ b,1<=b/\qof sk lm fe k (q3k lm (t,d) u).1 (q3k lm (t,d) u).2 b v H
variable {W n sk lm k fe t d u}
theorem qri {f:List Mk} {e:Int} {b:Nat} {H:List SO} (hf:f≠[]) (h:H[b]? = some (rfR (rowM f) f.length)):qof sk lm fe k f e b (tup2 (rfA sk lm k fe (rfL b f.length)) e) H :=
 .inr ⟨hf,.sym f.length,rfl,rfl,.raw (rowM f) (f.length * 33),h,fun _=>trivial,fun _=>.refl _⟩
theorem q09 {f:List Mk} {e:Int} {b m:Nat} {V:Nat->Value} {H:List SO} (hf:f≠[]) (hm:m=f.length) (hV:MkV V m) (hL:mkL V m=f) (h:H[b]? = some (rfR V m)):qof sk lm fe k f e b (tup2 (rfA sk lm k fe (rfL b m)) e) H :=
 .inr ⟨hf,.sym m,hm,rfl,.raw V (m * 33),h,fun _=>trivial,qm0 hm hV hL⟩
theorem qog {i:Nat} (hi:i<u.length) {x:Mk}:x∈u.take (i+1)↔x∈u.take i\/x=u[i]:=by
 rw [← List.take_append_getElem hi,List.mem_append,List.mem_singleton]
theorem juc (hz:u.length<=65536) (hne:u≠[]) (hso:u.Pairwise mkLt) (J:Junk):∀ a,xpOK t d u a->q6b cfgR 1 (xpK W n sk lm k fe t d u) (fun a'=>xpOK t d u a'/\xpMu u a'<xpMu u a) (xpDD sk lm k fe t d u) ((xpK W n sk lm k fe t d u a).fill J):=by
 have hE:∀ {i:Nat} (hi:i<u.length) {b:Bool},cB ((t,d)=u[i])=b->∀ {r:List Prop},(∀ p∈r,p)->∀ p∈xqE (rowM u) u.length i (t,d) b r,p:=fun {i} hi {b} hb {r} hr =>
  all_cons (decide_eq_true (by omega)) (all_cons ⟨by omega,by omega⟩ (all_cons (by omega) (all_cons (qdi hi) (all_cons (by rw [j6g hi]; exact hb) hr))))
 have hF:∀ {i:Nat} (hi:i<u.length) {r:List Prop},(∀ p∈r,p)->∀ p∈xqF (rowM u) u.length i r,p:=fun {i} hi {r} hr=>all_cons ⟨by omega,by omega⟩ (all_cons (by omega) (all_cons (qdi hi) hr))
 have hL:∀ {i:Nat} (hi:i<u.length),(t,d)≠u[i]->∀ {b:Bool},cB (mkLt (t,d) u[i])=b->∀ {r:List Prop},(∀ p∈r,p)->∀ p∈xqL (rowM u) u.length i (t,d) b r,p:=fun {i} hi hn {b} hb {r} hr=>hE hi (qoa hn) (hF hi (all_cons (by rw [j7g hi]; exact hb) hr))
 have hI:∀ {i:Nat},i<u.length->∀ p∈[nxI i],p:=fun {i} hi=>all_cons ⟨by omega,by omega⟩ qaa
 have hap:∀ {Y:Nat->Value} {m:Nat} {r:List Prop},m<=65537->(∀ j,j<33->(Y j).oneCell'=true)->(∀ p∈r,p)->∀ p∈apP Y m r,p:=fun {Y m r} hm hy hr=>all_cons (Nat.le_refl 33) (all_cons (by omega) (all_cons ⟨⟨by omega,by omega⟩,hy⟩ hr))
 have hbusy:∀ {i:Nat} (hi:i<u.length),(t,d)=u[i]->∀ H:List SO,H[3]? = some (rfR (rowM u) u.length)->xpDD sk lm k fe t d u (tup2 (rfA sk lm k fe (rfL 3 u.length)) 11) H:=fun {i} hi he H hH=>⟨3,by omega,by rw [qs0 (he▸List.getElem_mem hi)]; exact qri hne hH⟩
 intro a ha
 cases a with
 | z =>
   show q6b cfgR 1 _ _ _ ((xpC0 W n sk lm k fe t d (rowM u) u.length 0).fill J)
   have h0:0<u.length:=List.length_pos_iff.2 hne
   have ht1:u.take (0+1)=[u[0]]:=by
    cases u with
    | nil=>simp at h0
    | cons a l=>rfl
   by_cases he:(t,d)=u[0]
   . exact qec (js:=[3]) (names:=n5s) (M:=xpC0 W n sk lm k fe t d (rowM u) u.length 0) none 20000 (fun z=>j8j W n sk lm k fe t d (rowM u) u.length 0 J z) (hE h0 (qta he) qaa) fun H hH=>hbusy h0 he H (List.cons.inj (show [H[3]?]=[some (rfR (rowM u) u.length)] from hH)).1
   . have hni:(t,d) ∉ u.take (0+1):=by rw [ht1]; simpa using he
     by_cases hlt:mkLt (t,d) u[0]
     . refine q0e (ds:=[true,false,true]) (names:=nP 8) (N:=9) (ms:=ms11 8 2) (es:=fs2 (rowM u) (0+0 * 33) (t,d)) (M:=xpC1 W n sk lm k fe t d (rowM u) u.length 0 (rowM [(t,d),u[0]]) 2 true) (some (1,0)) 20000 (.b 1 2 (rowM [(t,d),u[0]]) true) ⟨⟨h0,Nat.le_refl 1,(que [(t,d),u[0]]).1,hni,.inr ⟨rfl,?_,u[0],by rw [ht1]; simp,hlt⟩⟩,by show u.length - 1<u.length+1; omega⟩ (fun z=>jak W n sk lm k fe t d (rowM u) u.length 0 _ J z) (q8t W n sk lm k fe t d (rowM u) u.length 1 _ 2 8 (by omega) true true _ 0 2) (fun q hq p v hp hv => ?_) (fun e he E0 hE0 => ?_) (hL h0 he (qta hlt) (hF h0 (hI h0)))
       . rw [show (1:Nat)=0+1 from rfl,ht1,qr0 hlt]; exact (que [(t,d),u[0]]).2
       . obtain rfl:=List.mem_singleton.1 hq
         exact q4c (qp0 W n sk lm k fe t d (rowM u) u.length 1 _ 2 true) hp hv fun _ _ h=>h
       . obtain rfl:=List.mem_singleton.1 he
         cases hE0
         refine ⟨_,rfl,fun γ vs hv => ?_⟩
         have hv:SV.denL γ (app (mkCs (t,d)) (seeW (rowM u) (0+0 * 33)))=some vs:=hv
         rw [q2r h0,q6a] at hv
         have hv2:=j8g (t,d) u[0] γ
         rw [hv2] at hv
         cases hv
         exact j9g (t,d) u[0]
     . refine q0e (ds:=[true,false,false]) (names:=nP 6) (N:=7) (ms:=ms11 6 1) (es:=fs1 (rowM u) (0+0 * 33)) (M:=xpC1 W n sk lm k fe t d (rowM u) u.length 0 (oneX u[0]) 1 false) (some (1,0)) 20000 (.b 1 1 (oneX u[0]) false) ⟨⟨h0,Nat.le_refl 1,(q6l u[0]).1,hni,.inl ⟨rfl,?_,fun y hy => ?_⟩⟩,by show u.length - 1<u.length+1; omega⟩ (fun z=>jbk W n sk lm k fe t d (rowM u) u.length 0 _ J z) (q8t W n sk lm k fe t d (rowM u) u.length 1 _ 1 6 (by omega) false false _ 0 1) (fun q hq p v hp hv => ?_) (fun e he E0 hE0 => ?_) (hL h0 he (qoa hlt) (hF h0 (hI h0)))
       . rw [show (1:Nat)=0+1 from rfl,ht1]; exact (q6l u[0]).2
       . rw [show (1:Nat)=0+1 from rfl,ht1] at hy
         rw [List.mem_singleton.1 hy]; exact hlt
       . obtain rfl:=List.mem_singleton.1 hq
         exact q4c (qp0 W n sk lm k fe t d (rowM u) u.length 1 _ 1 false) hp hv fun _ _ h=>h
       . obtain rfl:=List.mem_singleton.1 he
         cases hE0
         exact ⟨_,rfl,qd3 h0⟩
 | b i m V pl =>
   obtain ⟨hi,hi1,hV,hni,hpl⟩:i<=u.length/\1<=i/\MkV V m/\(t,d) ∉ u.take i/\((pl=false/\mkL V m=u.take i/\∀ y∈u.take i,¬ mkLt (t,d) y)\/(pl=true/\mkL V m=insM (t,d) (u.take i)/\∃ y∈u.take i,mkLt (t,d) y)):=ha
   show q6b cfgR 1 _ _ _ ((xpC1 W n sk lm k fe t d (rowM u) u.length i V m pl).fill J)
   have hm:m=i\/m=i+1:=by
    rcases hpl with ⟨_,h,_⟩ | ⟨_,h,_⟩
    . left
      have:=congrArg List.length h
      rw [qtc,List.length_take] at this; omega
    . right
      have:=congrArg List.length h
      rw [qtc,q3r,List.length_take] at this; omega
   by_cases hc:i<u.length
   . by_cases he:(t,d)=u[i]
     . exact qec (js:=[3]) (names:=n5s) (M:=xpC0 W n sk lm k fe t d (rowM u) u.length i) none 20000 (fun z=>j9j W n sk lm k fe t d (rowM u) u.length i V m J z pl) (hE hc (qta he) qaa) fun H hH=>hbusy hc he H (List.cons.inj (show [H[3]?]=[some (rfR (rowM u) u.length)] from hH)).1
     . have hni':(t,d) ∉ u.take (i+1):=fun h=>by
        rcases (qog hc).1 h with h | h
        . exact hni h
        . exact he h
       have htk:=List.take_append_getElem hc
       have hmu:xpMu u (.b (i+1) m V pl)<xpMu u (.b i m V pl):=by show u.length - (i+1)<u.length - i; omega
       have yu:∀ j,j<33->(yU (rowM u) (0+i * 33) j).oneCell'=true:=fun j hj=>jtc hc hj
       rcases hpl with ⟨rfl,hml,hno⟩ | ⟨rfl,hml,hyes⟩
       . by_cases hlt:mkLt (t,d) u[i]
         . obtain ⟨g1,g2⟩:=qh3 (V:=V) (m:=m) (x:=(t,d))
           obtain ⟨g3,g4⟩:=q2j g1 g2 hV
           obtain ⟨g5,g6⟩:=q6p (V:=catX V m (t,d)) (m:=m+1) (qwg hc)
           obtain ⟨g7,g8⟩:=q2j g5 g6 g3
           refine q7b (ds:=[true,false,true]) (names:=nP 9) (N:=10) (M:=xpC1 W n sk lm k fe t d (rowM u) u.length i V m true) (some (1,0)) 20000 (.b (i+1) (m+1+1) _ true) ⟨⟨hc,by omega,g7,hni',.inr ⟨rfl,?_,u[i],(qog hc).2 (.inr rfl),hlt⟩⟩,hmu⟩ (fun z=>jck W n sk lm k fe t d (rowM u) u.length i V m J z) (q8t W n sk lm k fe t d (rowM u) u.length (i+1) _ (m+1+1) 9 (by omega) true true V i m) (hL hc he (qta hlt) (hap (by omega) (fun j hj=>q4r hj) (hF hc (hap (by omega) yu (hI hc)))))
           rw [g8,g4,hml,← htk,qmv hno,qr0 hlt,List.append_assoc]
           rfl
         . obtain ⟨g1,g2⟩:=q6p (V:=V) (m:=m) (qwg hc)
           obtain ⟨g3,g4⟩:=q2j g1 g2 hV
           refine q7b (ds:=[true,false,false]) (names:=nP 7) (N:=8) (M:=xpC1 W n sk lm k fe t d (rowM u) u.length i V m false) (some (1,0)) 20000 (.b (i+1) (m+1) _ false) ⟨⟨hc,by omega,g3,hni',.inl ⟨rfl,by rw [g4,hml,← htk],fun y hy => ?_⟩⟩,hmu⟩ (fun z=>jdk W n sk lm k fe t d (rowM u) u.length i V m J z) (q8t W n sk lm k fe t d (rowM u) u.length (i+1) _ (m+1) 7 (by omega) false false V i m) (hL hc he (qoa hlt) (hF hc (hap (by omega) yu (hI hc))))
           rcases (qog hc).1 hy with h | rfl
           . exact hno y h
           . exact hlt
       . obtain ⟨g1,g2⟩:=q6p (V:=V) (m:=m) (qwg hc)
         obtain ⟨g3,g4⟩:=q2j g1 g2 hV
         obtain ⟨y,hy,hly⟩:=hyes
         refine q7b (ds:=[true,false]) (names:=nP 7) (N:=8) (M:=xpC1 W n sk lm k fe t d (rowM u) u.length i V m true) (some (1,0)) 20000 (.b (i+1) (m+1) _ true) ⟨⟨hc,by omega,g3,hni',.inr ⟨rfl,?_,y,(qog hc).2 (.inl hy),hly⟩⟩,hmu⟩ (fun z=>jek W n sk lm k fe t d (rowM u) u.length i V m J z) (q8t W n sk lm k fe t d (rowM u) u.length (i+1) _ (m+1) 7 (by omega) true true V i m) (hE hc (qoa he) (hF hc (hap (by omega) yu (hI hc))))
         rw [g4,hml,← htk,qq0 ⟨y,hy,hly⟩]
   . have hie:i=u.length:=by omega
     subst hie
     rw [List.take_length] at hni hpl
     have hN:∀ {r:List Prop},(∀ p∈r,p)->∀ p∈xqN u.length u.length r,p:=fun {r} hr=>all_cons (decide_eq_false (by omega)) hr
     by_cases hf:lm<=(u.length:Int)
     . refine qec (js:=[3]) (names:=n5s) (M:=xpC0 W n sk lm k fe t d (rowM u) u.length u.length) none 20000 (fun z=>xp_fu W n sk lm k fe t d (rowM u) u.length u.length V m J z pl) (hN (all_cons (decide_eq_true hf) qaa)) fun H hH=>⟨3,by omega,?_⟩
       rw [qt0 hni hf]
       exact qri hne (List.cons.inj (show [H[3]?]=[some (rfR (rowM u) u.length)] from hH)).1
     . have hk:∀ {r:List Prop},(∀ p∈r,p)->∀ p∈xqK lm u.length false r,p:=fun {r} hr=>all_cons (decide_eq_false hf) hr
       have hin:insM (t,d) u≠[]:=fun h=>by have:=q3r (t,d) u; rw [h] at this; simp at this
       rcases hpl with ⟨rfl,hml,hno⟩ | ⟨rfl,hml,hyes⟩
       . obtain ⟨g1,g2⟩:=qh3 (V:=V) (m:=m) (x:=(t,d))
         obtain ⟨g3,g4⟩:=q2j g1 g2 hV
         have hml2:m=u.length:=by have:=congrArg List.length hml; rwa [qtc] at this
         refine qec (js:=[7]) (names:=n5s) (M:=xpC0 W n sk lm k fe t d (rowM u) u.length u.length) none 20000 (fun z=>xp_en W n sk lm k fe t d (rowM u) u.length u.length V m J z) (hN (hk (hap (by omega) (fun j hj=>q4r hj) qaa))) fun H hH=>⟨7,by omega,?_⟩
         rw [qnn hni hf]
         have e:insM (t,d) u=u++[(t,d)]:=by
          have:=qmv (r:=[]) hno
          rwa [List.append_nil] at this
         exact q09 hin (by rw [q3r]; omega) g3 (by rw [g4,hml,e]) (List.cons.inj (show [H[7]?]=[some (rfR (catX V m (t,d)) (m+1))] from hH)).1
       . have hml2:m=(insM (t,d) u).length:=by have:=congrArg List.length hml; rwa [qtc] at this
         refine qec (js:=[5]) (names:=n5s) (M:=xpC0 W n sk lm k fe t d (rowM u) u.length u.length) none 20000 (fun z=>xp_ep W n sk lm k fe t d (rowM u) u.length u.length V m J z) (hN (hk qaa)) fun H hH=>⟨5,by omega,?_⟩
         rw [qnn hni hf]
         exact q09 hin hml2 hV hml (List.cons.inj (show [H[5]?]=[some (rfR V m)] from hH)).1
end
end
noncomputable section
open Go.Sim
open Go.Proofs
variable {α:Type}
set_option maxRecDepth 1000000
def farR (d:RfD) (t now:Int):Prop:=t<d.k now - d.sk.den\/d.k now+d.sk.den<t
def prfIn (d:RfD) (base:Nat) (x:Mk) (now:Int):R SumRes:=.fork (cB (x∈d.u now)) (rfOk d base (d.k now) d.fe.den (d.u now) 11) (.fork (cB (d.lm.den<=((d.u now).length:Int))) (rfOk d base (d.k now) d.fe.den (d.u now) 7) (rfOk d base (d.k now) d.fe.den (insM x (d.u now)) 0))
def jfk (d:RfD) (base:Nat) (x:Mk) (now:Int):R SumRes :=
 .fork (cB (vTm x.1/\vTm now)) (.fork (cB (farR d x.1 now)) (rfOk d base (d.k now) d.fe.den (d.u now) 3) (.fork (cB (x.1<=d.fe.den)) (rfOk d base (d.k now) d.fe.den (d.u now) 8) (prfIn d base x now))) (rfAs d 2)
section
variable {l:List Mk} {sk lm cl fe t now:Int} {d:Dg}
theorem qi3 {D:RfD} (hw:D.w) (ht:vTm t) (hn:vTm now) (hi:qqa (D.k now+sk)) {e:Bool} (he:(D.u now).isEmpty=e) {q:List Prop} (hq:∀ p∈q,p):∀ p∈xpP sk t now D e q,p :=
 qje ht (qje hn (all_cons hw (all_cons (qta hn) (all_cons he (all_cons hi hq)))))
theorem q19 {k:Int} {b:Nat} {H:List SO} (h:H[b]? = some (.own (.lst (mkCs (t,d))) false 54)):qof sk lm fe k [(t,d)] 0 b (tup2 (rfA sk lm k fe (.slice ⟨b,.lit 0⟩ (.lit 1) (.rest b 0))) 0) H :=
 .inr ⟨by simp,.lit 1,rfl,rfl,_,h,fun p=>(by show SV.usesL p (mkCs (t,d))=true; kernel_rfl),fun g=>by
  have e:(Cells.lst (mkCs (t,d))).ren g=.lst (mkCs (t,d)):=by kernel_rfl
  rw [e]
  intro γ vs hv
  have hv:SV.denL γ (mkCs (t,d))=some vs:=hv
  rw [qtg] at hv
  cases hv
  refine ⟨q4d _,fun i x hx => ?_⟩
  have hi:i<33:=by
   have:=(List.getElem?_eq_some_iff.1 hx).1
   rw [q4d] at this; exact this
  show x=(mkC (([(t,d)][i / 33]?).getD default)).getD (i % 33) undef
  rw [show i / 33=0 by omega,show i % 33=i by omega,List.getD_eq_getElem?_getD]
  show x=((mkC (t,d))[i]?).getD undef
  rw [hx]; rfl⟩
theorem jgk (h:LsW [] sk lm cl fe) (ht:vTm t) (hn:vTm now) :
  ((t<clk now cl - sk\/clk now cl+sk<t)->Runs cfgR 40 [rfA sk lm cl fe .nilSlice,dgS d,.int .i64 (.sym t),.int .i64 (.sym now)] [] fun v H=>∃ b,0<=b/\qof sk lm fe (clk now cl) [] 3 b v H) /\
  (¬ (t<clk now cl - sk\/clk now cl+sk<t)->t<=fe->Runs cfgR 40 [rfA sk lm cl fe .nilSlice,dgS d,.int .i64 (.sym t),.int .i64 (.sym now)] [] fun v H=>∃ b,0<=b/\qof sk lm fe (clk now cl) [] 8 b v H) /\
  (¬ (t<clk now cl - sk\/clk now cl+sk<t)->¬ t<=fe->Runs cfgR 40 [rfA sk lm cl fe .nilSlice,dgS d,.int .i64 (.sym t),.int .i64 (.sym now)] [] fun v H=>∃ b,0<=b/\qof sk lm fe (clk now cl) [(t,d)] 0 b v H):=by
 have hk:=q5l hn h.hcl
 have hsk:=h.hsk
 have hlm:=h.hlm
 unfold vTm at hk
 have i1:qqa ((rdN sk lm cl fe).k now+sk):=by show qqa (clk now cl+sk); exact ⟨by omega,by omega⟩
 have i2:qqa ((rdN sk lm cl fe).k now - sk):=by show qqa (clk now cl - sk); exact ⟨by omega,by omega⟩
 have P:∀ {q:List Prop},(∀ p∈q,p)->∀ p∈xpP sk t now (rdN sk lm cl fe) true q,p:=fun {q} hq=>qi3 (qdy h) ht hn i1 rfl hq
 have G:¬ clk now cl+sk<t->∀ {q:List Prop},(∀ p∈q,p)->∀ p∈xpG sk t now (rdN sk lm cl fe) true q,p:=fun hc {q} hq=>P (all_cons (decide_eq_false hc) (all_cons i2 hq))
 refine ⟨fun hf => ?_,fun hf hs => ?_,fun hf hs => ?_⟩
 . by_cases hc:clk now cl+sk<t
   . exact qgc qjd (qya (xn_r1 sk lm cl fe t now d) (P (qgb (decide_eq_true hc) 8)) fun H2 _=>⟨0,Nat.le_refl 0,.inl ⟨rfl,rfl⟩⟩)
   . have hc2:t<clk now cl - sk:=hf.resolve_right hc
     exact qgc qjd (qya (xn_r2 sk lm cl fe t now d) (G hc (all_cons (decide_eq_true hc2) qaa)) fun H2 _=>⟨0,Nat.le_refl 0,.inl ⟨rfl,rfl⟩⟩)
 . exact qgc qjd (qya (xn_st sk lm cl fe t now d) (G (fun c=>hf (.inr c)) (all_cons (decide_eq_false fun c=>hf (.inl c)) (all_cons (decide_eq_true hs) qaa))) fun H2 _=>⟨0,Nat.le_refl 0,.inl ⟨rfl,rfl⟩⟩)
 . exact qgc qjd (qya (xn_ok sk lm cl fe t now d) (G (fun c=>hf (.inr c)) (all_cons (decide_eq_false fun c=>hf (.inl c)) (all_cons (decide_eq_false hs) (all_cons (decide_eq_false (by omega)) qaa)))) fun H2 hH=>⟨5,by omega,q19 (List.cons.inj hH).1⟩)
theorem jhk (h:LsW l sk lm cl fe) (ht:vTm t) (hn:vTm now) {u:List Mk} (hu:l.filter (yng sk (clk now cl))=u) :
  ((t<clk now cl - sk\/clk now cl+sk<t)->Runs cfgR 40 [rfA sk lm cl fe (rfL 0 l.length),dgS d,.int .i64 (.sym t),.int .i64 (.sym now)] [rfW (rowM l) l.length] fun v H=>∃ b,1<=b/\qof sk lm fe (clk now cl) u 3 b v H) /\
  (¬ (t<clk now cl - sk\/clk now cl+sk<t)->t<=fe->Runs cfgR 40 [rfA sk lm cl fe (rfL 0 l.length),dgS d,.int .i64 (.sym t),.int .i64 (.sym now)] [rfW (rowM l) l.length] fun v H=>∃ b,1<=b/\qof sk lm fe (clk now cl) u 8 b v H) /\
  (¬ (t<clk now cl - sk\/clk now cl+sk<t)->¬ t<=fe->Runs cfgR 40 [rfA sk lm cl fe (rfL 0 l.length),dgS d,.int .i64 (.sym t),.int .i64 (.sym now)] [rfW (rowM l) l.length] (xpDD sk lm (clk now cl) fe t d u)):=by
 have hk:=q5l hn h.hcl
 have hsk:=h.hsk
 have hlm:=h.hlm
 have hU:=h.use hn
 unfold vTm at hk
 have hru:(rdR (rowM l) l.length sk lm cl fe).u now=u:=by rw [jdf,hu]
 have i1:qqa ((rdR (rowM l) l.length sk lm cl fe).k now+sk):=by show qqa (clk now cl+sk); exact ⟨by omega,by omega⟩
 have i2:qqa ((rdR (rowM l) l.length sk lm cl fe).k now - sk):=by show qqa (clk now cl - sk); exact ⟨by omega,by omega⟩
 have P:∀ {e:Bool},u.isEmpty=e->∀ {q:List Prop},(∀ p∈q,p)->∀ p∈xpP sk t now (rdR (rowM l) l.length sk lm cl fe) e q,p:=fun {e} he {q} hq=>qi3 (jcf h) ht hn i1 (by rw [hru]; exact he) hq
 have G:∀ {e:Bool},u.isEmpty=e->¬ clk now cl+sk<t->∀ {q:List Prop},(∀ p∈q,p)->∀ p∈xpG sk t now (rdR (rowM l) l.length sk lm cl fe) e q,p:=fun {e} he hc {q} hq=>P he (all_cons (decide_eq_false hc) (all_cons i2 hq))
 by_cases hne:u=[]
 . have he:u.isEmpty=true:=by rw [hne]; rfl
   refine ⟨fun hf => ?_,fun hf hs => ?_,fun hf hs => ?_⟩
   . by_cases hc:clk now cl+sk<t
     . exact qgc qjd (qya (xr_r1 (rowM l) l.length sk lm cl fe t now d) (P he (qgb (decide_eq_true hc) 8)) fun H2 _=>⟨1,Nat.le_refl 1,.inl ⟨hne,rfl⟩⟩)
     . have hc2:t<clk now cl - sk:=hf.resolve_right hc
       exact qgc qjd (qya (xr_r2 (rowM l) l.length sk lm cl fe t now d) (G he hc (all_cons (decide_eq_true hc2) qaa)) fun H2 _=>⟨1,Nat.le_refl 1,.inl ⟨hne,rfl⟩⟩)
   . exact qgc qjd (qya (xr_st (rowM l) l.length sk lm cl fe t now d) (G he (fun c=>hf (.inr c)) (all_cons (decide_eq_false fun c=>hf (.inl c)) (all_cons (decide_eq_true hs) qaa))) fun H2 _=>⟨1,Nat.le_refl 1,.inl ⟨hne,rfl⟩⟩)
   . refine qgc qjd (qya (xr_ok (rowM l) l.length sk lm cl fe t now d) (G he (fun c=>hf (.inr c)) (all_cons (decide_eq_false fun c=>hf (.inl c)) (all_cons (decide_eq_false hs) (all_cons (decide_eq_false (by omega)) qaa)))) fun H2 hH=>⟨6,by omega,?_⟩)
     rw [qnn (by rw [hne]; simp) (by rw [hne]; show ¬ lm<=0; omega),hne]
     exact q19 (List.cons.inj hH).1
 . have he:u.isEmpty=false:=by simpa using hne
   have row:∀ {e:Int} {H2:List SO},[4].map (fun j=>H2[j]?)=[some (rfR (rowM ((rdR (rowM l) l.length sk lm cl fe).u now)) ((rdR (rowM l) l.length sk lm cl fe).u now).length)]->∃ b,1<=b/\qof sk lm fe (clk now cl) u e b (tup2 (rfA sk lm (clk now cl) fe (rfL 4 ((rdR (rowM l) l.length sk lm cl fe).u now).length)) e) H2:=fun {e H2} hH=>by
    rw [hru] at hH ⊢
    exact ⟨4,by omega,qri hne (List.cons.inj hH).1⟩
   refine ⟨fun hf => ?_,fun hf hs => ?_,fun hf hs => ?_⟩
   . by_cases hc:clk now cl+sk<t
     . exact qgc qjd (qya (xs_r1 (rowM l) l.length sk lm cl fe t now d) (P he (qgb (decide_eq_true hc) 8)) fun H2 hH=>row hH)
     . have hc2:t<clk now cl - sk:=hf.resolve_right hc
       exact qgc qjd (qya (xs_r2 (rowM l) l.length sk lm cl fe t now d) (G he hc (all_cons (decide_eq_true hc2) qaa)) fun H2 hH=>row hH)
   . exact qgc qjd (qya (xs_st (rowM l) l.length sk lm cl fe t now d) (G he (fun c=>hf (.inr c)) (all_cons (decide_eq_false fun c=>hf (.inl c)) (all_cons (decide_eq_true hs) qaa))) fun H2 hH=>row hH)
   . rw [hu] at hU
     have hz:u.length<=65536:=by have:=hU.sz; omega
     refine qbd qjd (xpK (rowM l) l.length sk lm (clk now cl) fe t d u) (xpOK t d u) (xpMu u) (fun g nm hg=>by cases hg) ?_ fun a ha J=>juc hz hne hU.so J a ha
     have hr:=fun z=>j5g (rowM l) l.length sk lm cl fe t now d z
     have e1:xpU (rowM l) l.length sk lm cl fe now=u:=hru
     rw [e1] at hr
     refine qhd (ms:=ms13) (es:=[]) (ds:=xpD false [false,false,false]) (names:=n5p) (N:=6) (M:=xpC0 (rowM l) l.length sk lm (clk now cl) fe t d (rowM u) u.length 0) (some (1,0)) 20000 .z hne hr (xp_n0 (rowM l) l.length sk lm (clk now cl) fe t d (rowM u) u.length 0) (fun q hq p v hp hv => ?_) (fun e he=>by cases he) (G he (fun c=>hf (.inr c)) (all_cons (decide_eq_false fun c=>hf (.inl c)) (all_cons (decide_eq_false hs) qaa)))
     obtain rfl:=List.mem_singleton.1 hq
     exact q4c (jsc (rowM l) l.length sk lm (clk now cl) fe t d (rowM u) u.length 0) hp hv (qna rfl)
end
theorem jvc {H:List SO} {O:Nat->Prop} {w0 w:World} {β:Val} {base:Nat} {vs:List Value} (hH:HeapRel0 Tryd.prog O w0 β H w) {v:SV} {d:RfD} {g':SV} {g:Dg} {t now:SI} (hd:RfIn H v d) (hg:dgV g'=some g)
  (ha:SV.denL β [v,g',.int .i64 t,.int .i64 now]=some vs) (hw:d.w):(jfk d base (t.den,g) now.den).Sat (SumSem Tryd.prog H β w base 40 vs):=by
 have hgl:∀ g,cfgR.glob g=none:=fun g=>rfl
 have har:SV.ImpL [_,.int .i64 t,.int .i64 now] [dgS g,.int .i64 (.sym t.den),.int .i64 (.sym now.den)]:=qba (qj0 hg) (qba (qna rfl) (qba (qna rfl) qwa))
 have hu:∀ p,SV.usesL p [dgS g,.int .i64 (.sym t.den),.int .i64 (.sym now.den)]=true:=fun p=>by kernel_rfl
 have hre:∀ f,SV.renL f [dgS g,.int .i64 (.sym t.den),.int .i64 (.sym now.den)]=[dgS g,.int .i64 (.sym t.den),.int .i64 (.sym now.den)]:=fun f=>by kernel_rfl
 have hnil:d.l=[]->d.u now.den=[]/\LsW [] d.sk.den d.lm.den d.cl.den d.fe.den:=fun hl=>⟨by unfold RfD.u; rw [hl]; rfl,hl▸hw.ls⟩
 refine ⟨fun hc => ?_,fun hc => ?_⟩
 . obtain ⟨h1,h2⟩:=cBi.1 hc
   have R:=jhk (d:=g) hw.ls h1 h2 (u:=d.u now.den) rfl
   have N:=fun hl=>jgk (d:=g) (hnil hl).2 h1 h2
   refine ⟨fun hf => ?_,fun hf=>⟨fun hs => ?_,fun hs => ?_⟩⟩
   . have hf:=cBi.1 hf
     exact qxg (c:=cfgR) hgl hH hd hw hu har hre ha (fun hl=>by rw [(hnil hl).1]; exact (N hl).1 hf) (R.1 hf)
   . have hf:=cB_f hf
     have hs:=cBi.1 hs
     exact qxg (c:=cfgR) hgl hH hd hw hu har hre ha (fun hl=>by rw [(hnil hl).1]; exact (N hl).2.1 hf hs) (R.2.1 hf hs)
   . have hf:=cB_f hf
     have hs:=cB_f hs
     have hlm:=hw.ls.hlm
     refine ⟨fun hb => ?_,fun hb=>⟨fun hz => ?_,fun hz => ?_⟩⟩
     . refine qxg (c:=cfgR) hgl hH hd hw hu har hre ha (fun hl => ?_) (qlb (R.2.2 hf hs) fun v H h => ?_)
       . have:=cBi.1 hb
         rw [(hnil hl).1] at this; cases this
       . unfold xpDD at h
         rwa [qs0 (cBi.1 hb)] at h
     . refine qxg (c:=cfgR) hgl hH hd hw hu har hre ha (fun hl => ?_) (qlb (R.2.2 hf hs) fun v H h => ?_)
       . have:=cBi.1 hz
         rw [(hnil hl).1] at this
         have:d.lm.den<=0:=this
         omega
       . unfold xpDD at h
         rwa [qt0 (cB_f hb) (cBi.1 hz)] at h
     . refine qxg (c:=cfgR) hgl hH hd hw hu har hre ha (fun hl => ?_) (qlb (R.2.2 hf hs) fun v H h => ?_)
       . rw [(hnil hl).1]; exact (N hl).2.2 hf hs
       . unfold xpDD at h
         rwa [qnn (cB_f hb) (cB_f hz)] at h
 . have hc:=cB_f hc
   refine qkv (c:=cfgR) qjd hgl hH hd hw hu har hre ha ?_ ?_
   . by_cases h1:vTm t.den
     . have h2:¬ vTm now.den:=fun h=>hc ⟨h1,h⟩
       rcases qpi h2 with h | ⟨h,h'⟩
       . exact ⟨_,_,xn_b1 _ _ _ _ _ _ _,qje h1 (qgb h 3)⟩
       . exact ⟨_,_,xn_b2 _ _ _ _ _ _ _,qje h1 (all_cons h (all_cons h' qaa))⟩
     . rcases qpi h1 with h | ⟨h,h'⟩
       . exact ⟨_,_,j6j _ _ _ _ _ _ _,qgb h 3⟩
       . exact ⟨_,_,j7j _ _ _ _ _ _ _,all_cons h (qgb h' 4)⟩
   . by_cases h1:vTm t.den
     . have h2:¬ vTm now.den:=fun h=>hc ⟨h1,h⟩
       rcases qpi h2 with h | ⟨h,h'⟩
       . exact ⟨_,_,xr_b1 _ _ _ _ _ _ _ _ _,qje h1 (qgb h 3)⟩
       . exact ⟨_,_,xr_b2 _ _ _ _ _ _ _ _ _,qje h1 (all_cons h (all_cons h' qaa))⟩
     . rcases qpi h1 with h | ⟨h,h'⟩
       . exact ⟨_,_,xr_a1 _ _ _ _ _ _ _ _ _,qgb h 3⟩
       . exact ⟨_,_,xr_a2 _ _ _ _ _ _ _ _ _,all_cons h (qgb h' 4)⟩
end
noncomputable section
open Go.Sim
open Go.Proofs
variable {α:Type}
set_option maxRecDepth 1000000
section
variable (W:Nat->Value) (n:Nat) (sk lm cl fe now:Int)
def xfT:Tree:=qea cfgR 20000 42 [rfA sk lm cl fe (rfL 0 n),.int .i64 (.sym now)] [rfW W n]
def xfN:Tree:=qea cfgR 20000 42 [rfA sk lm cl fe .nilSlice,.int .i64 (.sym now)] []
def xfP (D:RfD) (e:Bool):List Prop:=[D.w,cB (vTm now)=true,(D.u now).isEmpty=e,qqa (D.k now+sk)]
theorem jik:outO [] (xfN sk lm cl fe now) [true,true]=(xfP sk now (rdN sk lm cl fe) true,oN sk lm ((rdN sk lm cl fe).k now+sk) ((rdN sk lm cl fe).k now) 0):=by kernel_rfl
theorem xfr_0:outO [] (xfT W n sk lm cl fe now) [true,true]=(xfP sk now (rdR W n sk lm cl fe) true,oN sk lm ((rdR W n sk lm cl fe).k now+sk) ((rdR W n sk lm cl fe).k now) 0):=by kernel_rfl
theorem xfr_1:outO [3] (xfT W n sk lm cl fe now) [true,false]=(xfP sk now (rdR W n sk lm cl fe) false,oU sk lm ((rdR W n sk lm cl fe).k now+sk) ((rdR W n sk lm cl fe).u now) 3 ((rdR W n sk lm cl fe).k now) 0):=by kernel_rfl
theorem jef:outO [] (xfN sk lm cl fe now) [false]=([(rdN sk lm cl fe).w,cB (vTm now)=false],oN sk lm fe cl 2):=by kernel_rfl
theorem xfr_a:outO [] (xfT W n sk lm cl fe now) [false]=([(rdR W n sk lm cl fe).w,cB (vTm now)=false],oA n sk lm cl fe 2):=by kernel_rfl
end
def jff:Summ:=fun args H base=>qkd args fun v n=>rfV H v fun d=>optC (i64V n) (.stuck 7989) fun now=>.need d.w (.fork (cB (vTm now.den)) (rfOk d base (d.k now.den) (d.k now.den+d.sk.den) (d.u now.den) 0) (rfAs d 2))
theorem fefOK:qdb Tryd.prog 42 jff:=by
 intro glob O w0 β H w base args vs hH hG ha
 refine qrb fun v n hv=>q3j fun d hd=>qda fun now hn => ?_
 rw [hv,qsc hn] at ha
 intro hw
 have hgl:∀ g,cfgR.glob g=none:=fun g=>rfl
 have hls:=hw.ls
 have hwR:(rdR (rowM d.l) d.l.length d.sk.den d.lm.den d.cl.den d.fe.den).w:=jcf hls
 refine ⟨fun hc => ?_,fun hc => ?_⟩
 . have hcc:=hc
   have hc:=cBi.1 hc
   have hk:=q5l hc hls.hcl
   have hsk:=hls.hsk
   unfold vTm at hk
   have i1:qqa (clk now.den d.cl.den+d.sk.den):=⟨by omega,by omega⟩
   refine qxg (c:=cfgR) (ar:=[.int .i64 (.sym now.den)]) hgl hH hd hw (fun _=>rfl) (qba (qna rfl) qwa) (fun _=>rfl) ha (fun hl => ?_) ?_
   . have hu:d.u now.den=[]:=by unfold RfD.u; rw [hl]; rfl
     have hls0:LsW [] d.sk.den d.lm.den d.cl.den d.fe.den:=hl▸hls
     exact qgc qjd (qya (jik d.sk.den d.lm.den d.cl.den d.fe.den now.den) (all_cons (qdy hls0) (all_cons hcc (all_cons rfl (all_cons i1 qaa)))) fun H2 _=>⟨0,Nat.le_refl 0,.inl ⟨hu,rfl⟩⟩)
   . have hru:(rdR (rowM d.l) d.l.length d.sk.den d.lm.den d.cl.den d.fe.den).u now.den=d.u now.den:=jdf _ _ _ _ _ _
     by_cases hne:d.u now.den=[]
     . exact qgc qjd (qya (xfr_0 (rowM d.l) d.l.length d.sk.den d.lm.den d.cl.den d.fe.den now.den) (all_cons hwR (all_cons hcc (all_cons (by rw [hru,hne]; rfl) (all_cons i1 qaa)))) fun H2 _=>⟨1,Nat.le_refl 1,.inl ⟨hne,rfl⟩⟩)
     . refine qgc qjd (qya (xfr_1 (rowM d.l) d.l.length d.sk.den d.lm.den d.cl.den d.fe.den now.den) (all_cons hwR (all_cons hcc (all_cons (by rw [hru]; simpa using hne) (all_cons i1 qaa)))) fun H2 hH=>⟨3,by omega,?_⟩)
       rw [hru] at hH ⊢
       exact qri hne (List.cons.inj hH).1
 . refine qkv (c:=cfgR) (ar:=[.int .i64 (.sym now.den)]) qjd hgl hH hd hw (fun _=>rfl) (qba (qna rfl) qwa) (fun _=>rfl) ha ?_ ⟨_,_,xfr_a _ _ _ _ _ _ _,all_cons hwR (all_cons hc qaa)⟩
   by_cases hl:d.l=[]
   . exact ⟨_,_,jef _ _ _ _ _,all_cons (qdy (hl▸hls)) (all_cons hc qaa)⟩
   . exact ⟨_,_,jef _ _ _ _ _,all_cons (qdy ⟨List.Pairwise.nil,hls.hsk,hls.hlm,hls.hcl,hls.hfe,fun _ h=>(by cases h),fun _ h=>(by cases h),by have:=hls.hlm; show ((0:Nat):Int)<=_; omega⟩) (all_cons hc qaa)⟩
end
noncomputable section
open Go.Sim
open Go.Proofs
variable {α:Type}
set_option maxRecDepth 1000000
def dq (v:Int) (k:Nat):Int:=Nat.rec (motive:=fun _=>Int) v (fun _ x=>IntKind.i64.wrap (x.tdiv 256)) k
def eiB (v:Int) (i:Nat):BitVec 8:=BitVec.ofInt 8 ((dq v (7 - i)).tmod 256)
def eiT (v:Int):Tree:=qea cfgP0 20000 47 [.int .i64 (.sym v)] []
theorem jjk (v:Int):outO [0] (eiT v) []=([],some (.slice ⟨0,.lit 0⟩ (.lit 8) (.lit 8),[some (.own (.lst (mapN (fun i=>.int .u8 (.b8 (eiB v i))) (qka 8 0))) true 5)])):=by kernel_rfl
theorem q29 {n:Nat} (h:n<9223372036854775808):∀ k,dq (n:Int) k=((n / 2 ^ (8 * k):Nat):Int)
 | 0=>by
   show (n:Int)=((n / 1:Nat):Int)
   rw [Nat.div_one]
 | k+1=>by
   show IntKind.i64.wrap ((dq (n:Int) k).tdiv 256)=_
   rw [q29 h k]
   have e:(((n / 2 ^ (8 * k):Nat):Int)).tdiv 256=((n / 2 ^ (8 * k) / 256:Nat):Int):=rfl
   rw [e,Nat.div_div_eq_div_mul,show 2 ^ (8 * k) * 256=2 ^ (8 * (k+1)) by rw [show 8 * (k+1)=8 * k+8 by omega,Nat.pow_add]]
   have:=Nat.div_le_self n (2 ^ (8 * (k+1)))
   generalize n / 2 ^ (8 * (k+1))=r at *
   exact wrap_i64 ⟨by omega,by omega⟩
theorem jkk {v:Int} (h0:0<=v) (h:v<9223372036854775808) {i:Nat} (hi:i<8):eiB v i=be8 (BitVec.ofInt 64 v) i:=by
 obtain ⟨n,rfl⟩:=Int.eq_ofNat_of_zero_le h0
 have hn:n<9223372036854775808:=by omega
 unfold eiB be8
 rw [q29 hn]
 apply BitVec.eq_of_toNat_eq
 have e2:(BitVec.ofInt 64 (n:Int)).toNat=n:=by
  rw [BitVec.toNat_ofInt]
  omega
 rw [BitVec.toNat_setWidth,BitVec.toNat_ushiftRight,e2,Nat.shiftRight_eq_div_pow,show 56 - 8 * i=8 * (7 - i) by omega]
 generalize n / 2 ^ (8 * (7 - i))=q
 have e3:((q:Nat):Int).tmod 256=((q % 256:Nat):Int):=rfl
 rw [e3,BitVec.toNat_ofInt]
 omega
def eiL (v:Int):List SV:=mapN (fun i=>.int .u8 (.b8 (eiB v i))) (qka 8 0)
theorem jah (v:Int) (g:Nat->Nat):(Cells.lst (eiL v)).ren g=.lst ((List.range 8).map fun i=>SV.int .u8 (.b8 (eiB v i))):=by kernel_rfl
theorem qj3 (v:Int) (γ:Val):∀ l:List Nat,SV.denL γ (l.map fun i=>SV.int .u8 (.b8 (eiB v i)))=some (l.map fun i=>vB (eiB v i))
 | []=>rfl
 | _::l=>denL_cons.2 ⟨_,_,rfl,qj3 v γ l,rfl⟩
theorem jbh {v:Int} (h0:0<=v) (h1:v<9223372036854775808) (g:Nat->Nat):((Cells.lst (eiL v)).ren g).Imp (.fn (q1a (be8 (BitVec.ofInt 64 v))) 8):=by
 rw [jah]
 intro γ ws hw
 have hw:SV.denL γ ((List.range 8).map fun i=>SV.int .u8 (.b8 (eiB v i)))=some ws:=hw
 rw [qj3] at hw
 have hw:=Option.some.inj hw
 subst hw
 refine ⟨by rw [List.length_map,List.length_range],fun i x hx => ?_⟩
 rw [List.getElem?_map,Option.map_eq_some_iff] at hx
 obtain ⟨j,hj,rfl⟩:=hx
 obtain ⟨hlt,rfl⟩:i<8/\i=j:=by
  obtain ⟨h,he⟩:=List.getElem?_eq_some_iff.1 hj
  rw [List.length_range] at h
  rw [List.getElem_range] at he
  exact ⟨h,he⟩
 rw [jkk h0 h1 hlt]; rfl
theorem jch (v:Int) (p:Nat->Bool):SV.usesL p (eiL v)=true:=by kernel_rfl
def eiSm:Summ:=fun args _ base=>q1d args fun n=>optC (i64V n) (.stuck 7994) fun v=>.need (0<=v.den/\v.den<9223372036854775808) (.ok ⟨.slice ⟨base,.lit 0⟩ (.lit 8) (.lit 8),[],[.own (.fn (q1a (be8 (BitVec.ofInt 64 v.den))) 8) true 5]⟩)
set_option maxHeartbeats 4000000 in
theorem eiOK:qdb Tryd.prog 47 eiSm:=by
 intro glob O w0 β H w base args vs hH hG ha
 refine q5b fun n hv=>qda fun v hn => ?_
 rw [hv,qsc hn] at ha
 rintro ⟨h0,h1⟩
 have hg:∀ {H2:List SO},H2[0]? = some (.own (.lst (eiL v.den)) true 5)->∀ p g,qpd p g H2[0]? (.own (.fn (q1a (be8 (BitVec.ofInt 64 v.den))) 8) true 5):=fun {H2} h p g =>
  .inl ⟨_,_,_,_,h,(show SV.usesL p (eiL v.den)=true from jch v.den p),jbh h0 h1 g,rfl⟩
 refine qyb cfgP0OK 20000 hH ⟨[],[],[.int .i64 (.sym v.den)]⟩ (by intro g j hg; cases hg) (qba (qna rfl) qwa _ _ ha) (Ifc.fitsQ (by simp) rfl trivial) [0] (by simp) (by simp) (qya (jjk v.den) qaa fun H2 hH2=>⟨?_,by show (Ifc.seen _ [0] 0 && true)=true; rw [q2t]; rfl,trivial,⟨hg (List.cons.inj hH2).1 _ _,trivial⟩⟩)
 show SV.Imp (.slice ⟨Ifc.out _ base [0] 0,.lit 0⟩ (.lit 8) (.lit 8)) _
 rw [out1 (Nat.zero_le 0)]
 exact .refl _
end
end Go.Proofs.YthkgcljngalafaaDoor.Aes
