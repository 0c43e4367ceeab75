/-
  Texts behind one another: the symbolic simulator and what it is told of the program.
-/
import Derived.Test.YthkgcljngalafaaDoorPs6
import Derived.Shelf.SlMaps.Clone
import Derived.Ground.SlmcProg
namespace Go.Proofs.YthkgcljngalafaaDoor.Aes
noncomputable section
open Go.Sim
open Go.Proofs
open Go.Shelf Go.Sort
variable {α:Type}
set_option maxRecDepth 1000000
theorem q30 (l:List Mk) {i:Nat} (h:i<l.length) {k:Nat} (hk:k<33):qrf mkC 33 l (i * 33+k)=(mkC l[i]).getD k undef:=by
 unfold qrf
 rw [get_flatK _ _ _ _ (by simp; omega)]
 rw [show (i * 33+k) / 33=i by omega,show (i * 33+k) % 33=k by omega]
 have e:l.toArray[i]! = l[i]:=by simp [h]
 rw [e]
 have hl:=q6o l[i]
 simp [List.getD_eq_getElem?_getD,hl,hk]
theorem jca {V:Nat->Value} {n:Nat} (h:MkV V n):∀ j,j<(mkL V n).length * 33->V j=qrf mkC 33 (mkL V n) j:=by
 intro j hj
 rw [qle] at hj
 have hi:j / 33<(mkL V n).length:=by rw [qle]; omega
 have e:=q30 (mkL V n) hi (k:=j % 33) (by omega)
 rw [show j / 33 * 33+j % 33=j by omega] at e
 rw [e,qaj h j hj]
 unfold rowM
 rw [List.getElem?_eq_getElem hi]; rfl
theorem jda (l:List Mk):∀ j,j<l.length * 33->qrf mkC 33 l j=rowM l j:=by
 intro j hj
 have hi:j / 33<l.length:=by omega
 have e:=q30 l hi (k:=j % 33) (by omega)
 rw [show j / 33 * 33+j % 33=j by omega] at e
 rw [e]
 unfold rowM
 rw [List.getElem?_eq_getElem hi]; rfl
def q33 (v:SV):Option FuncId:=match v with
 | .func (.fn (.func g)) [] []=>some g
 | _=>none
theorem q43 {v:SV} {g:FuncId} (h:q33 v=some g):v=.func (.fn (.func g)) [] []:=by
 unfold q33 at h
 split at h
 . cases h; rfl
 . cases h
def srtM (l:List Mk):List Mk:=srtL cfM l
def smR (nm:Nat) (V:Nat->Value) (N n:Nat) (wh:Bool) (el:TypeId):R SumRes :=
 .need (N=n * 33/\MkV V n/\n<4611686018427387904) (.ok ⟨.tuple [],[(nm,.own (.raw (qrf mkC 33 (srtM (mkL V n))) (n * 33)) wh el)],[]⟩)
def smS:Summ:=fun args H _=>qhe args fun v fv=>optC (q33 fv) (.stuck 7830) fun g=>boolC (Nat.beq g 49) (q8k v (.ok ⟨.tuple [],[],[]⟩) fun a l=>boolC (is0 a.off) (optC (nth H a.nm) (.stuck 7831) fun e=>optC (qiw e) (.stuck 7832) fun r=>smR a.nm r.1.1 r.1.2 l.den r.2.1 r.2.2) (.stuck 7833)) (.stuck 7834)
def cmpF:SV:=.func (.fn (.func 49)) [] []
theorem jbh:outO [] (qfa cfgP0 400 48 [.nilSlice,cmpF] []) []=([],some (.tuple [],[])):=by kernel_rfl
theorem smOK:qdb Tryd.prog 48 smS:=by
 intro glob O w0 β H w base args vs hH hG ha
 refine q6b fun v fv hv=>qka fun g hg=>qta fun hgg => ?_
 rw [hv,q43 hg,Nat.eq_of_beq_eq_true hgg] at ha
 refine q5g (fun hn => ?_) fun a l c hs=>qta fun h0=>qka fun e he=>qka fun r hr => ?_
 . rw [hn] at ha
   exact qqc cfgP0OK 400 hH ⟨[],[],[.nilSlice,cmpF]⟩ (by intro g j hg; cases hg) ha (q6j rfl).q [] (by simp) (by simp) (q2b jbh qba fun H2 _=>⟨.refl _,rfl,trivial,trivial⟩)
 . rintro ⟨hN,hV,hz⟩
   obtain ⟨nm,off⟩:=a
   obtain rfl:=qjm h0
   have he:=q13 hr▸he
   rw [qca] at he
   rw [hs] at ha
   have hl:=qle r.1.1 l.den
   have:=jba mkC 33 Tryd.sortMk cfgP0OK.prog ⟨_,Tryd.func48,by kernel_rfl⟩ Tryd.isAgg65 Tryd.sizeOf65 q6o (fun p v hv=>by simp [mkC] at hv; rcases hv with rfl | ⟨j,_,rfl⟩ <;> rfl) cfM swoMk totMk (fn:=Tryd.f49) (by kernel_rfl) (by kernel_rfl) jie (base:=base) (nm:=nm) (wh:=r.2.1) (el:=r.2.2) (V:=r.1.1) (D:=mkL r.1.1 l.den) (c:=c) (l:=l) hH (by rw [hl,← hN]; exact he) hl.symm (jca hV) (by rw [hl]; exact hz) ha
   rw [hl] at this
   exact this
end
noncomputable section
open Go.Sim
open Go.Proofs
variable {α:Type}
set_option maxRecDepth 1000000
theorem isKey_iff {K:Value} {e:MapEntry}:q4c K e=true↔e.key=K:=by
 unfold q4c
 exact @decide_eq_true_iff _ (Classical.propDecidable _)
def mkE (e:MapEntry):Mk:=mkOf e.key
def insM (m:Mk):List Mk->List Mk
 | []=>[m]
 | a::l=>if mkLt m a then m::a::l else a::insM m l
theorem qbo (m:Mk):∀ l,(insM m l).Perm (m::l)
 | []=>.refl _
 | a::l=>by
   unfold insM
   split
   . exact .refl _
   . exact ((qbo m l).cons a).trans (.swap m a l)
theorem q40 {m:Mk}:∀ {l:List Mk},l.Pairwise mkLt->m ∉ l->(insM m l).Pairwise mkLt
 | [],_,_=>List.pairwise_singleton _ _
 | a::l,h,hn=>by
   obtain ⟨h1,h2⟩:=List.pairwise_cons.1 h
   unfold insM
   split
   . rename_i hc
     refine List.pairwise_cons.2 ⟨fun b hb => ?_,h⟩
     rcases List.mem_cons.1 hb with rfl | hb
     . exact hc
     . exact qke hc (h1 b hb)
   . rename_i hc
     refine List.pairwise_cons.2 ⟨fun b hb => ?_,q40 h2 fun hm=>hn (List.mem_cons_of_mem _ hm)⟩
     rcases List.mem_cons.1 ((qbo m l).mem_iff.1 hb) with rfl | hb
     . rcases qlm b a with k | k | k
       . exact absurd k hc
       . exact absurd (k▸List.mem_cons_self) hn
       . exact k
     . exact h1 b hb
structure MarkOK (es:List MapEntry) (c:Nat) (l:List Mk):Prop where
 ok:MapOK es c
 ent:∀ e∈es,e.key=keyM (mkE e)/\e.val=.agg #[]
 so:l.Pairwise mkLt
 perm:l.Perm (es.map mkE)
section
variable {es:List MapEntry} {c:Nat} {l:List Mk}
theorem MarkOK.len (h:MarkOK es c l):l.length=es.length:=by rw [h.perm.length_eq,List.length_map]
theorem MarkOK.has (h:MarkOK es c l) {m:Mk}:hasK es (keyM m)=true↔m∈l:=by
 unfold hasK
 rw [List.any_eq_true,h.perm.mem_iff,List.mem_map]
 constructor
 . rintro ⟨e,he,hk⟩
   refine ⟨e,he,q79 ?_⟩
   rw [← (h.ent e he).1]; exact isKey_iff.1 hk
 . rintro ⟨e,he,rfl⟩
   exact ⟨e,he,isKey_iff.2 (h.ent e he).1⟩
theorem MarkOK.hasB (h:MarkOK es c l) (m:Mk):hasK es (keyM m)=cB (m∈l):=by
 rw [Bool.eq_iff_iff,h.has,cBi]
theorem MarkOK.ins (h:MarkOK es c l) {m:Mk} (hn:m ∉ l):MarkOK (insK es c (keyM m) (.agg #[])) (c+1) (insM m l):=by
 refine ⟨⟨?_,fun e he => ?_⟩,fun e he => ?_,q40 h.so hn,?_⟩
 . unfold insK
   rw [List.map_append,List.nodup_append]
   refine ⟨h.ok.nd,by simp,fun a ha b hb => ?_⟩
   obtain ⟨e,he,rfl⟩:=List.mem_map.1 ha
   have hb:b=c:=by simpa using hb
   have:=h.ok.lt e he
   omega
 . rcases List.mem_append.1 he with he | he
   . have:=h.ok.lt e he; omega
   . obtain rfl:=List.mem_singleton.1 he
     exact Nat.lt_succ_self c
 . rcases List.mem_append.1 he with he | he
   . exact h.ent e he
   . obtain rfl:=List.mem_singleton.1 he
     exact ⟨by show keyM m=keyM (mkOf (keyM m)); rw [qsj],rfl⟩
 . refine (qbo m l).trans ?_
   unfold insK
   rw [List.map_append]
   refine (List.Perm.cons m h.perm).trans ?_
   have:[⟨keyM m,.agg #[],c⟩].map mkE=[m]:=by show [mkOf (keyM m)]=_; rw [qsj]
   rw [this]
   exact (List.perm_append_singleton m (es.map mkE)).symm
theorem MarkOK.nil (c:Nat):MarkOK [] c []:=⟨⟨List.nodup_nil,fun _ h=>(by cases h)⟩,fun _ h=>(by cases h),List.Pairwise.nil,List.Perm.refl _⟩
theorem MarkOK.srt (h:MarkOK es c l) {K:List Mk} (hp:K.Perm (es.map mkE)):srtM K=l:=by
 have h1:(srtM K).Perm l:=((List.mergeSort_perm K _).trans hp).trans h.perm.symm
 refine List.Perm.eq_of_pairwise (le:=fun a b=>¬ mkLt b a) (fun a b _ _ h1 h2 => ?_) ?_ ?_ h1
 . rcases qlm a b with k | k | k
   . exact absurd k h2
   . exact k
   . exact absurd k h1
 . have hs:(srtM K).Pairwise fun a b=>(!(ltOf cfM) b a)=true:=List.pairwise_mergeSort (fun a b c h1 h2=>by
     have h1:(ltOf cfM) b a=false:=by simpa using h1
     have h2:(ltOf cfM) c b=false:=by simpa using h2
     simp [swoMk.ntrans _ _ _ h2 h1]) (fun a b=>by
     rw [ltMk,ltMk]
     by_cases k:mkLt b a
     . have:¬ mkLt a b:=fun k2=>q4f _ (qke k k2)
       simp [this]
     . simp [k]) K
   refine List.Pairwise.imp (fun {a b} hab k => ?_) hs
   rw [ltMk] at hab
   simp [k] at hab
 . exact List.Pairwise.imp (fun {a b} hab k=>q4f _ (qke hab k)) h.so
end
end
noncomputable section
open Go.Sim
open Go.Proofs
variable {α:Type}
set_option maxRecDepth 1000000
def kMk:MSh:=⟨true,.i .i64::mapN (fun _=>SK.i .u8) (qra 32 0)⟩
def uMk:MSh:=⟨true,[]⟩
def chC (m:Nat) (sk lm cl fe:Int):List SV:=[.int .i64 (.sym sk),.int .i64 (.sym lm),.int .i64 (.sym cl),.int .i64 (.sym fe),.map m]
def chO (m:Nat) (sk lm cl fe:Int):SO:=.own (.lst (chC m sk lm cl fe)) true 68
def keyX (v:Value):Value:=.agg (.int .i64 (vNum (q6f v 0))::mapN (fun j=>.int .u8 (((BitVec.ofInt 8 (vNum (q6f v (j+1)))).toNat:Nat):Int)) (qra 32 0)).toArray
section
variable (es:List MapEntry) (c:Nat) (seen:List Nat) (sk lm cl fe now:Int) (J:Junk) (z:Nat->Nat->Nat)
def nxB (z:Nat):Nat:=(q0e (q7a es seen) z).born
def nxK (b:Nat):Value:=(getB es (q1e (app seen [b]))).key
def nxG:Prop:=¬ qb2 es seen c/\∀ e∈es,e.born<c
def nxE (b:Nat):Prop:=c=c/\app seen [b]≠[]/\∃ e∈es,e.born=q1e (app seen [b])
def n3:List Nat:=[0,1,2]
end
end
noncomputable section
open Go.Sim
open Go.Proofs
variable {α:Type}
set_option maxRecDepth 1000000
def u8K (k:SK):Bool:=match k with
 | .i .u8=>true
 | _=>false
def q53 (k:MSh):Bool:=match k with
 | ⟨true,.i .i64::l⟩=>boolC (Nat.beq (lenN l) 32) (allN u8K l) false
 | _=>false
theorem q63 {k:MSh} (h:q53 k=true):k=kMk:=by
 unfold q53 at h
 split at h
 . rename_i l
   cases h1:Nat.beq (lenN l) 32 with
   | false=>rw [h1] at h; cases h
   | true =>
     rw [h1] at h
     have h:allN u8K l=true:=h
     have hl:=Nat.eq_of_beq_eq_true h1
     rw [qha] at hl
     have:l=List.replicate 32 (SK.i .u8):=List.eq_replicate_iff.2 ⟨hl,fun x hb=>by
      have:=allN_iff.1 h x hb
      unfold u8K at this
      split at this
      . rfl
      . cases this⟩
     rw [this]; rfl
 . cases h
def q73 (k:MSh):Bool:=match k with
 | ⟨true,[]⟩=>true
 | _=>false
theorem q83 {k:MSh} (h:q73 k=true):k=uMk:=by
 unfold q73 at h
 split at h
 . rfl
 . cases h
structure ChD where
 nm:Nat
 mm:Nat
 sk:SI
 lm:SI
 cl:SI
 fe:SI
 es:List MapEntry
 c:Nat
structure ChIn (H:List SO) (p:SV) (d:ChD):Prop where
 ptr:p=.ptr ⟨d.nm,.lit 0⟩
 cell:H[d.nm]? = some (.own (.lst [.int .i64 d.sk,.int .i64 d.lm,.int .i64 d.cl,.int .i64 d.fe,.map d.mm]) true 68)
 map:H[d.mm]? = some (.obj (.amap kMk uMk d.es d.c))
 ne:d.nm≠d.mm
theorem jme (v:Value):keyX v=keyM (mkOf v):=by
 unfold keyX keyM
 congr 2
def clk (now cl:Int):Int:=if now > cl then now else cl
def yng (sk cl:Int) (m:Mk):Bool := !decide (m.1+sk<cl)
section
variable {es:List MapEntry} {c:Nat} {l:List Mk} (sk lm cl fe now:Int)
def usD (es:List MapEntry) (c:Nat) (v:SV) (H:List SO):Prop:=v=.tuple []/\H[0]? = some (chO 1 sk lm (clk now cl) fe)/\H[1]? = some (.obj (.amap kMk uMk (es.filter fun e=>yng sk (clk now cl) (mkE e)) c))
end
def lsM (es:List MapEntry):List Mk:=srtM (es.map mkE)
theorem qf7 {es:List MapEntry} {c:Nat} {l:List Mk} (h:MarkOK es c l):lsM es=l:=h.srt (.refl _)
def ChOK (es:List MapEntry) (c:Nat):Prop:=MarkOK es c (lsM es)
end
noncomputable section
open Go.Sim
open Go.Proofs
variable {α:Type}
set_option maxRecDepth 1000000
section
variable (m n:Mk)
def cpT:Tree:=qfa cfgB 4000 28 [mkS m,mkS n] []
theorem cp_lt:outO [] (cpT m n) [false,false,true]=(s1A m n [decide (m.1<n.1)=true],some (.int .i64 (.lit (-1)),[])):=by kernel_rfl
theorem cp_gt:outO [] (cpT m n) [false,false,false,true]=(s1A m n [decide (m.1<n.1)=false,decide (m.1 > n.1)=true],some (.int .i64 (.lit 1),[])):=by kernel_rfl
theorem cp_eq:outO [] (cpT m n) [false,false,false,false]=(s1A m n ((decide (m.1<n.1)=false)::(decide (m.1 > n.1)=false)::s1B),some (.int .i64 (.sym (Extern.BytealgCompare.cmp (mkB (dgX m) 32) (mkB (dgX n) 32))),[])):=by kernel_rfl
end
theorem cpOKm:qdb Tryd.prog 28 s1S:=by
 intro glob O w0 β H w base args vs hH hG ha
 refine q6b fun a b hv=>qka fun m hm=>qka fun n hn => ?_
 rw [hv] at ha
 have ha:=qla (qph hm) (qla (qph hn) q3b) _ _ ha
 show SumSem Tryd.prog H β w base _ vs ⟨.int .i64 (.sym (cfM m n)),[],[]⟩
 have hr:∀ (f:Nat->Nat) (m:Mk),(mkS m).ren f=mkS m:=fun f m=>by kernel_rfl
 have hu:∀ (p:Nat->Bool) (m:Mk),(mkS m).uses p=true:=fun p m=>by kernel_rfl
 have go:∀ {ds ps v},outO [] (cpT m n) ds=(ps,some (.int .i64 v,[]))->(∀ p∈ps,p)->v.den=cfM m n->SumSem Tryd.prog H β w base 28 vs ⟨.int .i64 (.sym (cfM m n)),[],[]⟩:=fun {ds ps v} hrun hp hv=>by
  refine qqc qc7 4000 hH ⟨[],[],[mkS m,mkS n]⟩ (by intro g j hg; cases hg) ?_ (Ifc.fitsQ (by simp) (by show ((mkS m).uses _ && ((mkS n).uses _ && true))=true; rw [hu,hu]; rfl) trivial) [] (by simp) (by simp) (q2b hrun hp fun H2 _=>⟨?_,rfl,trivial,trivial⟩)
  . show SV.denL β [(mkS m).ren _,(mkS n).ren _]=_
    rw [hr,hr]; exact ha
  . show SV.Imp (.int .i64 v) _
    exact qza hv
 have h0:∀ (m:Mk),(m.1 != m.1)=false:=fun m=>by simp
 by_cases c:m.1<n.1
 . exact go (cp_lt m n) (all_cons (h0 m) (all_cons (h0 n) (all_cons (decide_eq_true c) qba))) (by unfold cfM; rw [if_pos c]; rfl)
 . by_cases c2:m.1 > n.1
   . exact go (cp_gt m n) (all_cons (h0 m) (all_cons (h0 n) (all_cons (decide_eq_false c) (all_cons (decide_eq_true c2) qba)))) (by unfold cfM; rw [if_neg c,if_pos c2]; rfl)
   . refine go (cp_eq m n) (all_cons (h0 m) (all_cons (h0 n) (all_cons (decide_eq_false c) (all_cons (decide_eq_false c2) (q2c ⟨Nat.le_refl _,.inl (by omega),trivial⟩ 2))))) ?_
     show Extern.BytealgCompare.cmp (mkB (dgX m) 32) (mkB (dgX n) 32)=_
     unfold cfM
     rw [if_neg c,if_neg c2,q7o,q7o]; rfl
def rlLd:List (FuncId × Summ):=[(28,s1S),(26,nuSm)]
def ldD:FuncId->Option (Summ × Summ):=fun f=>boolC (Nat.beq f 24) (some (ldS1,ldS2)) none
def cfgLd:Cfg:={ P:=Tryd.prog,glob:=fun _=>none,sums:=qkc rlLd,stopAt:=none,dsum:=ldD }
theorem qut:CfgOK cfgLd:=by
 have h:CfgOK (qbg (qkc rlLd)):=qjd (allC cpOKm (all1 nuOK))
 refine ⟨h.prog,h.sums,fun f s hs => ?_⟩
 rcases qpc (show boolC (Nat.beq f 24) (some (ldS1,ldS2)) none=some s from hs) with ⟨hf,h⟩ | h
 . cases h; rw [q0b hf]; exact ldDef _
 . cases h
end
noncomputable section
open Go.Sim
open Go.Proofs
variable {α:Type}
set_option maxRecDepth 1000000
def mkE0 (t:Int) (Y:Nat->BitVec 8):List SV:=.int .i64 (.sym t)::mapN (fun j=>.int .u8 (.b8 (Y j))) (qra 32 0)
def keyY (t:Int) (Y:Nat->BitVec 8):Value:=.agg (.int .i64 t::mapN (fun j=>.int .u8 ((Y j).toNat:Int)) (qra 32 0)).toArray
def mkY (t:Int) (Y:Nat->BitVec 8):Mk:=(t,dgOf (q4a (mapN Y (qra 32 0))))
def tmI (X:Nat->BitVec 8) (o:Nat):Int:=IntKind.i64.wrap ((beN X o 8:Nat):Int)
def dgI (X:Nat->BitVec 8) (o:Nat):Nat->BitVec 8:=fun j=>X (o+j)
def ldN:List Nat:=[0,1,2,3,4,5]
def ldG:List Bool:=[false,false,false,false,true,false,false,false,false]
section
variable (X:Nat->BitVec 8) (n m:Nat)
def ldT (st:Option (Nat × Nat)):Tree:=qfa (cfgLd.at st) 20000 8 [.slice ⟨0,.lit 0⟩ (.sym n) (.sym m)] [rowF X n]
def ldS:SS:=qpd (ldT X n m (some (1,3))) ldG
variable (p len q:Nat) (es:List MapEntry) (c:Nat) (sk lm cl fe t:Int) (Y:Nat->BitVec 8) (J:Junk) (z:Nat->Nat->Nat)
def pcO (v:SV):SO:=.own (.lst [v]) true 24
def peO (v:SI):SO:=.own (.lst [.int .i64 v]) true 25
def jzc:SO:=.own (.lst (mkE0 t Y)) true 65
def ldC:Cut:=⟨qqd (ldS X n 0).frames [[(2,.ptr ⟨1,.lit 0⟩),(3,.ptr ⟨2,.lit 0⟩),(6,.ptr ⟨5,.lit 0⟩),(7,.tail ⟨0,.sym p⟩ (.lit 40) (.sym len) (.sym q))]],
 [.ent (rowF X n),.ent (pcO (.ptr ⟨4,.lit 0⟩)),.ent (peO (.lit 0)),.ent (.obj (.amap kMk uMk es c)),.ent (chO 3 sk lm cl fe),.ent (jzc t Y)]⟩
def ld1 (st:Option (Nat × Nat)):Tree:=sim1 (cfgLd.at st) 20000 ((ldC X n p len q es c sk lm cl fe t Y).fill J)
def ldQ (r:List Prop):List Prop:=(decide ((len:Int) > 0)=true)::IsB (qna X)::(8<=len/\p+40+8<=n)::r
def ldOv:Prop:=(!decide (((beN X (p+40) 8:Nat):Int)<=1099511627776))=true
def ldQ1 (r:List Prop):List Prop:=ldQ X n p len (((!decide (((beN X (p+40) 8:Nat):Int)<=1099511627776))=false)::(0<len)::(40<=len)::(p+40+8+32<=n)::qpa (tmI X (p+40)+sk)::r)
def ldQ2 (r:List Prop):List Prop:=ldQ1 X n p len sk ((decide (tmI X (p+40)+sk>=cl)=true)::qpa (cl+sk)::r)
def ldQ3 (r:List Prop):List Prop:=ldQ2 X n p len sk cl (((!decide (tmI X (p+40)<=cl+sk))=false)::r)
def ldK:Value:=keyY (tmI X (p+40)) (dgI X (p+40+8))
theorem jch:outL [3,4] (ldC X n p len q es c sk lm cl fe t Y) ldN (ld1 X n p len q es c sk lm cl fe t Y J none) [false] z=([decide ((len:Int) > 0)=false],some (.inl (.tuple [.ptr ⟨4,.lit 0⟩,.int .i64 (.lit 0)],[some (.obj (.amap kMk uMk es c)),some (chO 3 sk lm cl fe)]))):=by kernel_rfl
theorem ld_ov:outL [] (ldC X n p len q es c sk lm cl fe t Y) ldN (ld1 X n p len q es c sk lm cl fe t Y J none) [true,true] z=(ldQ X n p len [ldOv X p],some (.inl (.tuple [.nilPtr,.int .i64 (.lit 6)],[]))):=by kernel_rfl
theorem jdh:outL [] (ldC X n p len q es c sk lm cl fe t Y) ldN (ld1 X n p len q es c sk lm cl fe t Y J none) (true::repN false 14) z=(ldQ1 X n p len sk (repN (decide (tmI X (p+40)+sk>=cl)=false) 13),some (.inl (.tuple [.nilPtr,.int .i64 (.lit 6)],[]))):=by kernel_rfl
theorem jne:outL [] (ldC X n p len q es c sk lm cl fe t Y) ldN (ld1 X n p len q es c sk lm cl fe t Y J none) [true,false,true,true] z=(ldQ2 X n p len sk cl [(!decide (tmI X (p+40)<=cl+sk))=true],some (.inl (.tuple [.nilPtr,.int .i64 (.lit 6)],[]))):=by kernel_rfl
theorem jeh:outL [] (ldC X n p len q es c sk lm cl fe t Y) ldN (ld1 X n p len q es c sk lm cl fe t Y J none) [true,false,true,false,false,true] z=(ldQ3 X n p len sk cl [((es.length:Int) == 0)=false,(!decide (cfM (mkY t Y) (mkY (tmI X (p+40)) (dgI X (p+40+8)))<0))=true],some (.inl (.tuple [.nilPtr,.int .i64 (.lit 6)],[]))):=by kernel_rfl
theorem jea:outL [] (ldC X n p len q es c sk lm cl fe t Y) ldN (ld1 X n p len q es c sk lm cl fe t Y J (some (1,3))) [true,false,true,false,true,true,true,true,true,false] z=(ldQ3 X n p len sk cl (app (repN (((es.length:Int) == 0)=true) 5) [hasK es (ldK X p)=false,0<len,40<=len]),
 some (.inr (qqa ldN 7 (ldC X n (p+40) (len - 40) (q - 40) (insK es c (ldK X p) (.agg #[])) (c+1) sk lm cl fe (tmI X (p+40)) (dgI X (p+40+8)))))):=by kernel_rfl
theorem joe:outL [] (ldC X n p len q es c sk lm cl fe t Y) ldN (ld1 X n p len q es c sk lm cl fe t Y J (some (1,3))) [true,false,true,false,false,false,false] z=(ldQ3 X n p len sk cl [((es.length:Int) == 0)=false,(!decide (cfM (mkY t Y) (mkY (tmI X (p+40)) (dgI X (p+40+8)))<0))=false,hasK es (ldK X p)=false,0<len,40<=len],
 some (.inr (qqa ldN 7 (ldC X n (p+40) (len - 40) (q - 40) (insK es c (ldK X p) (.agg #[])) (c+1) sk lm cl fe (tmI X (p+40)) (dgI X (p+40+8)))))):=by kernel_rfl
theorem ld_n (p' len' q':Nat) (es':List MapEntry) (c':Nat) (t':Int) (Y':Nat->BitVec 8):boolC (q5a 1 ldN (ldC X n p' len' q' es' c' sk lm cl fe t' Y') (ldC X n p len q es c sk lm cl fe t Y)) (allN qwa (ldC X n p len q es c sk lm cl fe t Y).heap) false=true:=by kernel_rfl
end
end
noncomputable section
open Go.Sim
open Go.Proofs
variable {α:Type}
set_option maxRecDepth 1000000
def bnI (X:Nat->BitVec 8) (o:Nat):Int:=((beN X o 8:Nat):Int)
def rqN (n:Nat):Nat:=(BitVec.ofInt 64 ((n:Int) - 40)).toNat
def zMk:SO:=.own (.lst (.int .i64 (.lit 0)::mapN (fun _=>.int .u8 (.lit 0)) (qra 32 0))) true 65
section
variable (X:Nat->BitVec 8) (n m:Nat) (z:Nat->Nat->Nat) (Y:Nat->BitVec 8)
def lhA (r:List Prop):List Prop:=((!decide ((n:Int)>=40))=false)::(32<=n)::IsB (qna X)::(8<=n - 32/\40<=n)::qpa ((n:Int) - 40)::r
def lhB (r:List Prop):List Prop:=lhA X n (((!decide (bnI X 32<=((rqN n / 40 % 18446744073709551616:Nat):Int)))=false)::r)
def lhC (r:List Prop):List Prop:=lhB X n (((!(qyc .u64 (Int.mul (bnI X 32) 40) == ((rqN n:Nat):Int)))=false)::IsB (qna X)::(8<=n/\8<=n)::(8<=n)::IsB (qna X)::(8<=n - 8/\16<=n)::(16<=n)::IsB (qna X)::(8<=n - 16/\24<=n)::(24<=n)::IsB (qna X)::(8<=n - 24/\32<=n)::r)
def lhD (r:List Prop):List Prop:=lhC X n (((!decide (bnI X 0<=1048576))=false)::r)
def lhE (r:List Prop):List Prop:=lhD X n ((decide (bnI X 8>=1)=true)::r)
def lhF (r:List Prop):List Prop:=lhE X n (((!decide (bnI X 8<=65536))=false)::r)
def lhG (r:List Prop):List Prop:=lhF X n (((!decide (bnI X 32<=bnI X 8))=false)::r)
def lhH (r:List Prop):List Prop:=lhG X n (((!decide (bnI X 16<=1099511627776))=false)::r)
def lhI (r:List Prop):List Prop:=lhH X n (((!decide (bnI X 24<=1099511627776+1048576+1))=false)::r)
def ldE (e:Int):Option (SV × List (Option SO)):=some (.tuple [.nilPtr,.int .i64 (.lit e)],[])
theorem lh_1:outO [] (ldT X n m none) [true]=([(!decide ((n:Int)>=40))=true],ldE 4):=by kernel_rfl
theorem lh_2:outO [] (ldT X n m none) [false,true]=(lhA X n [(!decide (bnI X 32<=((rqN n / 40 % 18446744073709551616:Nat):Int)))=true],ldE 4):=by kernel_rfl
theorem lh_3:outO [] (ldT X n m none) [false,false,true]=(lhB X n [(!(qyc .u64 (Int.mul (bnI X 32) 40) == ((rqN n:Nat):Int)))=true],ldE 5):=by kernel_rfl
theorem lh_4:outO [] (ldT X n m none) [false,false,false,true]=(lhC X n [(!decide (bnI X 0<=1048576))=true],ldE 6):=by kernel_rfl
theorem lh_5:outO [] (ldT X n m none) (repN false 7)=(lhD X n (repN (decide (bnI X 8>=1)=false) 3),ldE 6):=by kernel_rfl
theorem lh_6:outO [] (ldT X n m none) [false,false,false,false,true,true]=(lhE X n [(!decide (bnI X 8<=65536))=true],ldE 6):=by kernel_rfl
theorem lh_7:outO [] (ldT X n m none) [false,false,false,false,true,false,true]=(lhF X n [(!decide (bnI X 32<=bnI X 8))=true],ldE 6):=by kernel_rfl
theorem lh_8:outO [] (ldT X n m none) [false,false,false,false,true,false,false,true]=(lhG X n [(!decide (bnI X 16<=1099511627776))=true],ldE 6):=by kernel_rfl
theorem lh_9:outO [] (ldT X n m none) [false,false,false,false,true,false,false,false,true]=(lhH X n [(!decide (bnI X 24<=1099511627776+1048576+1))=true],ldE 6):=by kernel_rfl
theorem lh_ok:outL [] (ldC X n 0 (n - 40) (m - 40) [] 0 (tmI X 0) (tmI X 8) (tmI X 16) (tmI X 24 - 1) 0 Y) ldN (ldT X n m (some (1,3))) ldG z=(lhI X n [qpa (tmI X 24 - 1),40<=n],
 some (.inr (qeb [(0,7,.tail ⟨0,.lit 0⟩ (.lit 40) (.sym (n - 40)) (.sym (m - 40)))] [(3,.ent (.obj (.map [] 0))),(5,.ent zMk)] (qqa ldN 6 (ldC X n 0 (n - 40) (m - 40) [] 0 (tmI X 0) (tmI X 8) (tmI X 16) (tmI X 24 - 1) 0 Y))))):=by kernel_rfl
theorem jfh (p len q:Nat) (es:List MapEntry) (c:Nat) (sk lm cl fe t:Int):(((ldC X n p len q es c sk lm cl fe t Y).frames[0]?).bind fun f=>f.tmps[7]?)=some (some (.tail ⟨0,.sym p⟩ (.lit 40) (.sym len) (.sym q))):=by kernel_rfl
end
end
noncomputable section
open Go.Sim
open Go.Proofs
variable {α:Type}
set_option maxRecDepth 1000000
section
variable (es:List MapEntry) (c:Nat) (sk lm cl fe:Int) (d:Dg) (t now:Int)
def lm0:Prop:=(lm == 0)=false
end
end
noncomputable section
open Go.Sim
open Go.Proofs
variable {α:Type}
set_option maxRecDepth 1000000
def vTm (t:Int):Prop:=0<=t/\t<=1099511627776
structure ChW (es:List MapEntry) (c:Nat) (sk lm cl fe:Int):Prop where
 ok:ChOK es c
 hsk:0<=sk/\sk<=1048576
 hlm:1<=lm/\lm<=65536
 hcl:vTm cl
 hfe : -1<=fe/\fe<=1099511627776+1048576
 tm:∀ m∈lsM es,vTm m.1
 nr:∀ m∈lsM es,cl - sk<=m.1/\m.1<=cl+sk
 sz:((lsM es).length:Int)<=lm
section
variable {es:List MapEntry} {c:Nat} {sk lm cl fe:Int}
theorem ChW.len (h:ChW es c sk lm cl fe):es.length=(lsM es).length:=h.ok.len.symm
theorem ChW.lm0 (h:ChW es c sk lm cl fe):lm0 lm:=by
 have:=h.hlm
 show (lm == 0)=false
 simp; omega
end
def ChD.w (d:ChD):Prop:=ChW d.es d.c d.sk.den d.lm.den d.cl.den d.fe.den
theorem cB_f {p:Prop} (h:cB p=false):¬ p:=fun c=>by rw [q3c c] at h; cases h
end
noncomputable section
open Go.Sim
open Go.Proofs
variable {α:Type}
set_option maxRecDepth 1000000
def chRw (m:Nat) (sk lm cl fe:Int):SO:=.row (.lst (chC m sk lm cl fe))
def chLr (e:SO):Option (SI × SI × SI × SI × Nat):=match e with
 | .own (.lst [.int .i64 a,.int .i64 b,.int .i64 c,.int .i64 d,.map m]) _ _=>some (a,b,c,d,m)
 | .row (.lst [.int .i64 a,.int .i64 b,.int .i64 c,.int .i64 d,.map m])=>some (a,b,c,d,m)
 | _=>none
def chLs (r:SI × SI × SI × SI × Nat):Cells:=.lst [.int .i64 r.1,.int .i64 r.2.1,.int .i64 r.2.2.1,.int .i64 r.2.2.2.1,.map r.2.2.2.2]
theorem qg7 {e:SO} {r:SI × SI × SI × SI × Nat} (h:chLr e=some r):e=.row (chLs r)\/∃ w el,e=.own (chLs r) w el:=by
 unfold chLr at h
 split at h
 . cases h; exact .inr ⟨_,_,rfl⟩
 . cases h; exact .inl rfl
 . cases h
def chRd (H:List SO) (p:SV) (f:ChD->R α):R α:=optC (qss p) (.stuck 7970) fun m=>optC (nth H m) (.stuck 7971) fun e=>optC (chLr e) (.stuck 7972) fun r=>optC (nth H r.2.2.2.2) (.stuck 7973) fun e=>optC (qky e) (.stuck 7974) fun q =>
 boolC (q53 q.1.1) (boolC (q73 q.1.2) (boolC (Nat.beq m r.2.2.2.2) (.stuck 7977) (f ⟨m,r.2.2.2.2,r.1,r.2.1,r.2.2.1,r.2.2.2.1,q.2.1,q.2.2⟩)) (.stuck 7976)) (.stuck 7975)
def ChD.cs (d:ChD):Cells:=.lst [.int .i64 d.sk,.int .i64 d.lm,.int .i64 d.cl,.int .i64 d.fe,.map d.mm]
structure ChRd (H:List SO) (p:SV) (d:ChD):Prop where
 ptr:p=.ptr ⟨d.nm,.lit 0⟩
 cell:∃ e,H[d.nm]? = some e/\(e=.row d.cs\/∃ w el,e=.own d.cs w el)
 map:H[d.mm]? = some (.obj (.amap kMk uMk d.es d.c))
 ne:d.nm≠d.mm
theorem qbj {H:List SO} {p:SV} {f:ChD->R α} {φ:α->Prop} (h:∀ d,ChRd H p d->(f d).Sat φ):(chRd H p f).Sat φ:=by
 refine qka fun m hm=>qka fun e he=>qka fun r hr=>qka fun e2 he2=>qka fun q hq=>qta fun h1=>qta fun h2 => ?_
 cases hn:Nat.beq m r.2.2.2.2 with
 | true=>exact trivial
 | false =>
   rw [qca] at he he2
   refine h _ ⟨qkm hm,⟨e,he,qg7 hr⟩,by rw [he2,q5z hq,q63 h1,q83 h2],fun e => ?_⟩
   have e:m=r.2.2.2.2:=e
   rw [e,Nat.beq_refl] at hn; cases hn
def chQ (d:ChD):List SO:=[chRw 1 d.sk.den d.lm.den d.cl.den d.fe.den,.obj (.amap kMk uMk d.es d.c)]
def chJ (d:ChD) (ar:List SV):Ifc:=⟨[d.nm,d.mm],chQ d,.ptr ⟨0,.lit 0⟩::ar⟩
theorem qqh {H:List SO} {p:SV} {d:ChD} (h:ChRd H p d) {ar:List SV} (hu:SV.usesL (chJ d ar).known ar=true):(chJ d ar).FitsQ H:=by
 obtain ⟨e,he,ho⟩:=h.cell
 refine Ifc.fitsQ (by show [d.nm,d.mm].Nodup; simpa using h.ne) (by show (true && SV.usesL (chJ d ar).known ar)=true; rw [hu]; rfl) ⟨⟨⟨_,he,_,ho,fun β vs hv=>⟨vs.length,?_⟩⟩,rfl⟩,⟨⟨_,h.map,_,rfl,fun _ _ h=>h⟩,rfl⟩,trivial⟩
 rw [List.take_length]
 have:SV.renL (chJ d ar).big (chC 1 d.sk.den d.lm.den d.cl.den d.fe.den)=chC d.mm d.sk.den d.lm.den d.cl.den d.fe.den:=rfl
 show SV.denL β (SV.renL _ _)=some vs
 rw [this]
 exact qla (qza rfl) (qla (qza rfl) (qla (qza rfl) (qla (qza rfl) (qla (.refl _) q3b)))) _ _ hv
theorem qrh {d:ChD} {ar:List SV} {base:Nat} {keep:List Nat} {H2:List SO} {es:List MapEntry} {c:Nat} (h1:H2[1]? = some (.obj (.amap kMk uMk es c))) :
  SetsQ (chJ d ar).big ((chJ d ar).seen keep) ((chJ d ar).out base keep) H2 (q1c (chJ d ar).ents 0) [(d.mm,.obj (.amap kMk uMk es c))] :=
 ⟨⟨rfl,.inr ⟨_,_,h1,rfl,fun _ _ h=>h,rfl⟩⟩,trivial⟩
end
noncomputable section
open Go.Sim
open Go.Proofs
variable {α:Type}
set_option maxRecDepth 1000000
def cfgS:Cfg:=qbg (qkc [(48,smS)])
theorem jgh:CfgOK cfgS:=qjd (all1 smOK)
def keyL (v:Value):List Value:=.int .i64 (vNum (q6f v 0))::mapN (fun j=>.int .u8 (((BitVec.ofInt 8 (vNum (q6f v (j+1)))).toNat:Nat):Int)) (qra 32 0)
def addY (v:Value):Nat->Value:=fun i=>atV (keyL v) (0+i)
def addM (V:Nat->Value) (k:Nat) (v:Value):Nat->Value:=qmc V (0+k * 33) 33 (addY v)
section
variable (es:List MapEntry) (c:Nat) (seen:List Nat) (sk lm cl fe:Int) (V:Nat->Value) (k n:Nat) (J:Junk) (z:Nat->Nat->Nat)
def soT (st:Option (Nat × Nat)):Tree:=qfa (cfgS.at st) 20000 35 [.ptr ⟨0,.lit 0⟩] [chRw 1 sk lm cl fe,.obj (.amap kMk uMk es c)]
def soF:List SP:=qqd (qpd (soT es c sk lm cl fe (some (1,0))) []).frames [[(2,.nilSlice),(3,.slice ⟨2,.lit 0⟩ (.sym k) (.sym n)),(15,.ptr ⟨3,.lit 0⟩)]]
def soR:SO:=.own (.raw V (n * 33)) true 65
def soC:Cut:=⟨soF es c sk lm cl fe k n,[.ent (chRw 1 sk lm cl fe),.ent (.obj (.amap kMk uMk es c)),.ent (soR V n),.ent (.obj (.iter (some 1) c seen c))]⟩
def so1 (st:Option (Nat × Nat)):Tree:=sim1 (cfgS.at st) 20000 ((soC es c seen sk lm cl fe V k n).fill J)
def n4:List Nat:=[0,1,2,3]
def jhh (n:Nat):Prop:=(0:Int)<=(0:Int)/\(0:Int)<=(n:Int)/\((n * 40:Nat):Int)<=281474976710656/\(n:Int)<=9223372036854775807/\33=33/\0<33
def msS:List (Nat × Nat × SV):=[(0,3,.slice ⟨2,.lit 0⟩ (.lit 0) (.sym es.length))]
def soZ:SO:=(nth (qpd (soT es c sk lm cl fe (some (1,0))) []).heap 2).getD .gone
def soV0:Nat->Value:=optC (qiw (soZ es c sk lm cl fe)) (fun _=>undef) fun r=>r.1.1
theorem jpe:outL [] (soC es c [] sk lm cl fe (soV0 es c sk lm cl fe) 0 es.length) n4 (soT es c sk lm cl fe (some (1,0))) [] z=([jhh es.length],some (.inr (qeb (msS es) [] (qqa n4 4 (soC es c [] sk lm cl fe (soV0 es c sk lm cl fe) 0 es.length))))):=by kernel_rfl
theorem jih:(((soC es c seen sk lm cl fe V k n).frames[0]?).bind fun p=>p.tmps[3]?)=some (some (.slice ⟨2,.lit 0⟩ (.sym k) (.sym n))):=by kernel_rfl
def soQ (b:Nat) (q:List Prop):List Prop:=nxG es c seen::((q7a es seen).isEmpty=false)::nxE es c seen b::q
theorem jqe:outL [] (soC es c [] sk lm cl fe V 0 es.length) n4 (so1 es c seen sk lm cl fe V k n J (some (1,0))) [false,true] z=(soQ es c seen (nxB es seen (z 0 0)) [33<=33,decide (k+1<=n)=true,0+k * 33+33<=n * 33,∀ i,i<33->(addY (nxK es seen (nxB es seen (z 0 0))) i).oneCell'=true],
 some (.inr (qqa n4 6 (soC es c (app seen [nxB es seen (z 0 0)]) sk lm cl fe (addM V k (nxK es seen (nxB es seen (z 0 0)))) (k+1) n)))):=by kernel_rfl
theorem jjh:outL [0,1,2] (soC es c [] sk lm cl fe V 0 es.length) n4 (so1 es c seen sk lm cl fe V k n J none) [true] z=([nxG es c seen,(q7a es seen).isEmpty=true,n * 33=k * 33/\MkV V k/\k<4611686018427387904],some (.inl (.slice ⟨2,.lit 0⟩ (.sym k) (.sym n),[some (chRw 1 sk lm cl fe),some (.obj (.amap kMk uMk es c)),some (.own (.raw (qrf mkC 33 (srtM (mkL V k))) (k * 33)) true 65)]))):=by kernel_rfl
theorem so_n (X:Nat->Value) (s:List Nat) (j:Nat):boolC (q5a 2 n4 (soC es c [] sk lm cl fe X j n) (soC es c s sk lm cl fe V k n)) (allN qwa (soC es c s sk lm cl fe V k n).heap) false=true:=by kernel_rfl
end
end
noncomputable section
open Go.Sim
open Go.Proofs
variable {α:Type}
set_option maxRecDepth 1000000
theorem qvt (v:Value):keyL v=mkC (mkOf v):=by
 have:=jme v
 have h:(keyL v).toArray=(mkC (mkOf v)).toArray:=Value.agg.inj this
 exact List.toArray_inj h
theorem qnm {V:Nat->Value} {k j:Nat} {v:Value} (h:j<k * 33):addM V k v j=V j:=by
 unfold addM qmc
 rw [if_neg (by omega)]
theorem qom {V:Nat->Value} {k j:Nat} {v:Value} (h:j<33):addM V k v (k * 33+j)=(mkC (mkOf v)).getD j undef:=by
 unfold addM qmc
 rw [if_pos (by omega)]
 unfold addY atV
 rw [qvt,List.getD_eq_getElem?_getD]
 congr 2
 omega
theorem qzp {V:Nat->Value} {k i:Nat} {v:Value} (h:i<k):mkAt (addM V k v) i=mkAt V i:=by
 unfold mkAt
 rw [qnm (by omega)]
 refine Prod.ext rfl (q3f fun j hj => ?_)
 rw [qjc _ hj,qjc _ hj,qnm (by omega)]
theorem q0p {V:Nat->Value} {k:Nat} {v:Value}:mkAt (addM V k v) k=mkOf v:=by
 unfold mkAt
 have h0:=qom (V:=V) (k:=k) (v:=v) (j:=0) (by omega)
 rw [Nat.add_zero] at h0
 rw [h0]
 refine Prod.ext ?_ (q3f fun j hj => ?_)
 . rw [List.getD_eq_getElem?_getD,qdf]; rfl
 . rw [qjc _ hj,qom (by omega),List.getD_eq_getElem?_getD,qje _ hj]
   exact qef _
theorem jre {V:Nat->Value} {k:Nat} {v:Value} (h:MkV V k):MkV (addM V k v) (k+1)/\mkL (addM V k v) (k+1)=mkL V k++[mkOf v]:=by
 refine ⟨fun i hi => ?_,?_⟩
 . by_cases c:i<k
   . rw [qzp c,qnm (by omega)]
     obtain ⟨h1,h2⟩:=h i c
     exact ⟨h1,fun j hj=>by rw [qnm (by omega)]; exact h2 j hj⟩
   . obtain rfl:i=k:=by omega
     rw [q0p]
     have h0:=qom (V:=V) (k:=i) (v:=v) (j:=0) (by omega)
     rw [Nat.add_zero] at h0
     refine ⟨by rw [h0,List.getD_eq_getElem?_getD,qdf]; rfl,fun j hj => ?_⟩
     rw [qom (by omega),List.getD_eq_getElem?_getD,qje _ hj]; rfl
 . unfold mkL
   rw [List.range_succ,List.map_append,List.map_singleton,q0p]
   congr 1
   exact List.map_congr_left fun i hi=>qzp (List.mem_range.1 hi)
section
variable {es:List MapEntry} {c:Nat} {l:List Mk} (sk lm cl fe:Int)
def soK (es:List MapEntry) (c:Nat) (a:List Nat × (Nat->Value)):Cut:=soC es c a.1 sk lm cl fe a.2 a.1.length es.length
def soOK (es:List MapEntry) (a:List Nat × (Nat->Value)):Prop:=VisOK es a.1/\MkV a.2 a.1.length/\mkL a.2 a.1.length=a.1.map fun b=>mkE (getB es b)
def soD (es:List MapEntry) (c:Nat) (v:SV) (H:List SO):Prop:=v=.slice ⟨2,.lit 0⟩ (.sym es.length) (.sym es.length)/\H[0]? = some (chRw 1 sk lm cl fe)/\H[1]? = some (.obj (.amap kMk uMk es c))/\H[2]? = some (soR (qrf mkC 33 (lsM es)) es.length)
theorem jse (h:MarkOK es c l) (hz:es.length<=65536):Runs cfgS 35 [.ptr ⟨0,.lit 0⟩] [chRw 1 sk lm cl fe,.obj (.amap kMk uMk es c)] (soD sk lm cl fe es c):=by
 have hm:=h.ok
 have hG:∀ seen,nxG es c seen:=fun seen=>⟨q69 hm,hm.lt⟩
 have hE:∀ (seen:List Nat) {e:MapEntry},e∈q7a es seen->nxE es c seen e.born:=fun seen e he=>⟨rfl,by rw [q1a]; simp,e,(left_mem.1 he).1,(q7u _ _).symm⟩
 have hnd:∀ seen,VisOK es seen->seen.length<=es.length:=fun seen hv=>by
  have:=List.Nodup.length_le_of_subset (l₁:=seen) (l₂:=es.map fun e=>e.born) hv.nd fun b hb=>by
   obtain ⟨e,he,rfl⟩:=hv.mem b hb
   exact List.mem_map.2 ⟨e,he,rfl⟩
  simpa using this
 refine quc jgh (soK sk lm cl fe es c) (soOK es) (fun a=>(q7a es a.1).length) (fun g nm hg=>by cases hg) ?_ fun a ha J => ?_
 . refine qwc (ds:=[]) (es:=[]) (some (1,0)) 20000 ([],soV0 es c sk lm cl fe) ⟨jde es,fun i hi=>absurd hi (Nat.not_lt_zero i),rfl⟩ (fun z=>jpe es c sk lm cl fe z) (so_n es c sk lm cl fe _ 0 es.length _ [] 0) (fun q hq p u hp hu => ?_) (fun e he=>by cases he) (all_cons ⟨by omega,by omega,by omega,by omega,rfl,by omega⟩ qba)
   obtain rfl:=List.mem_singleton.1 hq
   exact qtd (jih es c [] sk lm cl fe (soV0 es c sk lm cl fe) 0 es.length) hp hu fun _ _ h=>h
 obtain ⟨seen,V⟩:=a
 obtain ⟨hv,hV,hL⟩:VisOK es seen/\MkV V seen.length/\mkL V seen.length=seen.map fun b=>mkE (getB es b):=ha
 show qbd cfgS _ (soK sk lm cl fe es c) _ _ ((soC es c seen sk lm cl fe V seen.length es.length).fill J)
 cases hl:(q7a es seen).isEmpty with
 | true =>
   have hp:=jfe hm hv hl
   have hlen:seen.length=es.length:=by have:=hp.length_eq; simpa using this
   refine q7b (js:=[0,1,2]) (M:=soC es c [] sk lm cl fe V 0 es.length) (names:=n4) none 20000 (fun z=>jjh es c seen sk lm cl fe V seen.length es.length J z) (all_cons (hG seen) (all_cons hl (all_cons ⟨by omega,hV,by omega⟩ qba))) fun H hH => ?_
   have hs:srtM (mkL V seen.length)=lsM es:=by
    rw [hL,qf7 h]
    refine h.srt ?_
    have:=hp.map mkE
    rwa [List.map_map] at this
   rw [hs,hlen] at hH
   obtain ⟨h0,h1⟩:=List.cons.inj (show [H[0]?,H[1]?,H[2]?]=[some (chRw 1 sk lm cl fe),some (.obj (.amap kMk uMk es c)),some (soR (qrf mkC 33 (lsM es)) es.length)] from hH)
   obtain ⟨h1,h2⟩:=List.cons.inj h1
   rw [hlen]
   exact ⟨rfl,h0,h1,(List.cons.inj h2).1⟩
 | false =>
   have hp:∀ z,q0e (q7a es seen) z∈q7a es seen:=fun z=>q49 hl z
   refine q39 (js:=[]) (K:=fun _=>False) (some (1,0)) 20000 (M:=soC es c [] sk lm cl fe V 0 es.length) (names:=n4) (fun z => ?_) (fun v es h=>h.elim)
   have hb:=hp (z 0 0)
   generalize he:q0e (q7a es seen) (z 0 0)=e at hb
   have hbe:nxB es seen (z 0 0)=e.born:=by unfold nxB; rw [he]
   have hgB:nxK es seen e.born=e.key:=by unfold nxK; rw [q7u,qqt hm.nd (left_mem.1 hb).1]
   have hr:=jqe es c seen sk lm cl fe V seen.length es.length J z
   rw [hbe,hgB] at hr
   have hv':=q59 hv hb
   have hl1:(app seen [e.born]).length=seen.length+1:=by rw [q1a]; simp
   have hlt:=hnd _ hv'
   obtain ⟨hV',hL'⟩:=jre (v:=e.key) hV
   refine ⟨_,_,_,hr,all_cons (hG seen) (all_cons hl (all_cons (hE seen hb) (all_cons (Nat.le_refl 33) (all_cons (decide_eq_true (by omega)) (all_cons (by omega) (all_cons (fun i hi => ?_) qba)))))),?_⟩
   . unfold addY atV
     rw [qvt,Nat.zero_add]
     rcases (show i=0\/∃ j,i=j+1/\j<32 by
      cases i with
      | zero=>exact .inl rfl
      | succ i=>exact .inr ⟨i,rfl,by omega⟩) with rfl | ⟨j,rfl,hj⟩
     . rw [qdf]; rfl
     . rw [qje _ hj]; rfl
   show SeenTurn _ _ _ _ _ _
   rw [← hl1]
   refine SeenTurn.of (C:=soK sk lm cl fe es c) (app seen [e.born],addM V seen.length e.key) ⟨⟨hv',?_,?_⟩,jee hb⟩ (so_n es c sk lm cl fe _ _ es.length _ _ _)
   . show MkV _ (app seen [e.born]).length
     rw [hl1]; exact hV'
   . show mkL _ (app seen [e.born]).length=_
     rw [hl1,hL',hL,q1a,List.map_append,List.map_singleton,qqt hm.nd (left_mem.1 hb).1]
     rfl
end
theorem qvq {V V':Nat->Value} {N:Nat} (h:∀ j,j<N->V j=V' j):(Cells.raw V N).Imp (.raw V' N):=fun _ vs ⟨h1,h2⟩=>⟨h1,fun i x hx=>by
 have hi:i<N:=by
  have:=(List.getElem?_eq_some_iff.1 hx).1
  omega
 rw [← h i hi]; exact h2 i x hx⟩
def soSm:Summ:=fun args H base=>qad args fun p=>chRd H p fun d=>.need (ChOK d.es d.c/\d.es.length<=65536) (.ok ⟨.slice ⟨base,.lit 0⟩ (.sym d.es.length) (.sym d.es.length),[],[soR (rowM (lsM d.es)) d.es.length]⟩)
theorem j0c:qdb Tryd.prog 35 soSm:=by
 intro glob O w0 β H w base args vs hH hG ha
 refine qob fun p hv=>qbj fun d hd => ?_
 rw [hv,hd.ptr] at ha
 rintro ⟨h,hz⟩
 refine qoh (k':=kMk) (v':=uMk) hH hd.map ?_
 refine qxc (c:=cfgS) hH (chJ d []) (by intro g j hg; cases hg) ha (qqh hd rfl) [2] (by simp [chJ]) (by simp) (qlb (jse d.sk.den d.lm.den d.cl.den d.fe.den h hz) fun v H2 ⟨h1,h2,h3,h4⟩ => ?_)
 subst h1
 refine ⟨?_,rfl,qrh h3,⟨.inl ⟨_,_,_,_,h4,trivial,?_,rfl⟩,trivial⟩⟩
 . show SV.Imp (.slice ⟨(chJ d []).out base [2] 2,.lit 0⟩ (.sym d.es.length) (.sym d.es.length)) _
   rw [out1 (by show 2<=2; omega)]
   exact .refl _
 . refine qvq fun j hj=>jda _ j ?_
   rw [MarkOK.len h]; exact hj
end
noncomputable section
open Go.Sim
open Go.Proofs
variable {α:Type}
set_option maxRecDepth 1000000
def be8 (x:BitVec 64) (i:Nat):BitVec 8:=BitVec.setWidth 8 (x >>> (56 - 8 * i))
def beV (x:BitVec 64) (i:Nat):Value:=.int .u8 ((be8 x i).toNat:Int)
def q3h (V:Nat->Value) (N:Nat):SO:=.own (.raw V N) true 5
section
variable (V:Nat->Value) (k n N:Nat) (x:BitVec 64)
def anT:Tree:=qfa cfgP0 20000 34 [.slice ⟨0,.lit 0⟩ (.sym k) (.sym n),.int .u64 (.b64 x)] [q3h V N]
def anY (i:Nat):Nat->Value:=fun j=>atV [beV x i] (0+j)
def anQ (k i:Nat) (q:List Prop):List Prop:=(1<=1)::(decide (k+1<=n)=true)::(0+k * 1+1<=N)::(∀ j,j<1->(anY x i j).oneCell'=true)::q
def anV (m:Nat):Nat->Value:=Nat.rec (motive:=fun _=>Nat->Value) V (fun i W=>qmc W (0+(k+i) * 1) 1 (anY x i)) m
def anR:Option (SV × List (Option SO)):=some (.slice ⟨0,.lit 0⟩ (.sym (k+8)) (.sym n),[some (q3h (anV V k x 8) N)])
theorem jkh:outO [0] (anT V k n N x) (repN true 8)=(anQ n N x k 0 (anQ n N x (k+1) 1 (anQ n N x (k+2) 2 (anQ n N x (k+3) 3 (anQ n N x (k+4) 4 (anQ n N x (k+5) 5 (anQ n N x (k+6) 6 (anQ n N x (k+7) 7 []))))))),anR V k n N x):=by kernel_rfl
end
theorem qh7 (V:Nat->Value) (k:Nat) (x:BitVec 64):∀ (m j:Nat),anV V k x m j=qmc V k m (beV x) j
 | 0,j=>by
   show V j=_
   unfold qmc
   rw [if_neg (by omega)]
 | m+1,j=>by
   show qmc (anV V k x m) (0+(k+m) * 1) 1 (anY x m) j=_
   unfold qmc
   by_cases c:k+m=j
   . rw [if_pos (by omega),if_pos (by omega)]
     unfold anY atV
     rw [show 0+(j - (0+(k+m) * 1))=0 by omega,show j - k=m by omega]; rfl
   . rw [if_neg (by omega),qh7 V k x m j]
     unfold qmc
     by_cases c2:k<=j/\j<k+m
     . rw [if_pos c2,if_pos (by omega)]
     . rw [if_neg c2,if_neg (by omega)]
def slN (v:SV):Option (Nat × SN × Nat):=match v with
 | .slice a l (.sym c)=>boolC (is0 a.off) (some (a.nm,l,c)) none
 | _=>none
theorem jfa {v:SV} {r:Nat × SN × Nat} (h:slN v=some r):v=.slice ⟨r.1,.lit 0⟩ r.2.1 (.sym r.2.2):=by
 unfold slN at h
 split at h
 . rename_i a l c
   cases h0:is0 a.off with
   | false=>rw [h0] at h; cases h
   | true =>
     rw [h0] at h
     cases h
     obtain ⟨nm,off⟩:=a
     obtain rfl:=qjm h0
     rfl
 . cases h
def u64V (v:SV):Option (BitVec 64):=match v with
 | .int .u64 (.b64 x)=>some x
 | _=>none
theorem qi7 {v:SV} {x:BitVec 64} (h:u64V v=some x):v=.int .u64 (.b64 x):=by
 unfold u64V at h
 split at h
 . cases h; rfl
 . cases h
def rawB (e:SO):Option ((Nat->Value) × Nat):=match e with
 | .own (.raw V n) true el=>boolC (Nat.beq el 5) (some (V,n)) none
 | _=>none
theorem qj7 {e:SO} {r:(Nat->Value) × Nat} (h:rawB e=some r):e=q3h r.1 r.2:=by
 unfold rawB at h
 split at h
 . rename_i V n el
   cases ht:Nat.beq el 5 with
   | false=>rw [ht] at h; cases h
   | true =>
     rw [ht] at h; cases h
     rw [Nat.eq_of_beq_eq_true ht]; rfl
 . cases h
theorem qre {a:SA} {l l':SN} {c:SC} (h:l.den=l'.den):(SV.slice a l c).Imp (.slice a l' c):=fun β x hx=>by
 rw [den_slice] at hx ⊢
 rw [← h]; exact hx
def anSm:Summ:=fun args H _=>qhe args fun b v=>optC (slN b) (.stuck 7980) fun r=>optC (nth H r.1) (.stuck 7981) fun e=>optC (rawB e) (.stuck 7982) fun w=>optC (u64V v) (.stuck 7983) fun x =>
 .need (r.2.1.den+8<=r.2.2/\r.2.2=w.2) (.ok ⟨.slice ⟨r.1,.lit 0⟩ (.sym (r.2.1.den+8)) (.sym r.2.2),[(r.1,q3h (qmc w.1 r.2.1.den 8 (beV x)) w.2)],[]⟩)
theorem anOK:qdb Tryd.prog 34 anSm:=by
 intro glob O w0 β H w base args vs hH hG ha
 refine q6b fun b v hv=>qka fun r hr=>qka fun e he=>qka fun q hq=>qka fun x hx => ?_
 rw [hv,jfa hr,qi7 hx] at ha
 rw [qca,qj7 hq] at he
 obtain ⟨nm,l,c⟩:=r
 obtain ⟨V,N⟩:=q
 rintro ⟨h1,h2⟩
 have h1:l.den+8<=c:=h1
 have h2:c=N:=h2
 let I:Ifc:=⟨[nm],[q3h V N],[.slice ⟨0,.lit 0⟩ (.sym l.den) (.sym c),.int .u64 (.b64 x)]⟩
 have hF:I.FitsQ H:=Ifc.fitsQ (by simp [I]) rfl ⟨⟨⟨_,he,_,rfl,.refl _⟩,trivial⟩,trivial⟩
 have hy:∀ i j,j<1->(anY x i j).oneCell'=true:=fun i j hj=>by
  obtain rfl:j=0:=by omega
  rfl
 have hq:∀ {k i:Nat} {q:List Prop},k+1<=c->(∀ p∈q,p)->∀ p∈anQ c N x k i q,p:=fun {k i q} hk hp=>all_cons (Nat.le_refl 1) (all_cons (decide_eq_true hk) (all_cons (by omega) (all_cons (hy i) hp)))
 refine qqc cfgP0OK 20000 hH I (by intro g j hg; cases hg) ?_ hF [] (by simp) (by simp) (q2b (jkh V l.den c N x) (hq (by omega) (hq (by omega) (hq (by omega) (hq (by omega) (hq (by omega) (hq (by omega) (hq (by omega) (hq (by omega) qba)))))))) fun H2 hH2=>⟨.refl _,rfl,⟨⟨rfl,.inl ⟨_,_,_,_,(List.cons.inj hH2).1,trivial,qvq fun j _=>qh7 V l.den x 8 j,rfl⟩⟩,trivial⟩,trivial⟩)
 exact qla (qre rfl) (qla (.refl _) q3b) _ _ ha
end
noncomputable section
open Go.Sim
open Go.Proofs
variable {α:Type}
set_option maxRecDepth 1000000
def rlI:List (FuncId × Summ):=[(34,anSm),(35,soSm)]
def cfgI:Cfg:=qbg (qkc rlI)
theorem jlh:CfgOK cfgI:=qjd (by
 intro y hy
 rcases List.mem_cons.1 hy with rfl | hy
 . exact anOK
 . obtain rfl:=List.mem_singleton.1 hy
   exact j0c)
def keyW (W:Nat->Value) (o:Nat):List Value:=.int .i64 (vNum (W (o+0)))::mapN (fun j=>.int .u8 (((BitVec.ofInt 8 (vNum (W (o+(j+1))))).toNat:Nat):Int)) (qra 32 0)
def dgY (W:Nat->Value) (o:Nat):Nat->Value:=fun i=>atV (keyW W o) (1+i)
def fitM (W:Nat->Value) (o:Nat):Prop:=qjo (mapN (fun j=>SV.val (W (o+j))) (qra 33 0)) (.i .i64::repN (.i .u8) 32)
def imN (m:Nat):Int:=40+@Bool.rec (fun _=>Int) (IntKind.i64.wrap ((40:Int) * (m:Int))) ((40 * m:Nat):Int) ((40 * m).ble (maxN .i64))
section
variable (es:List MapEntry) (c:Nat) (sk lm cl fe:Int) (V W:Nat->Value) (k n m j:Nat) (J:Junk) (z:Nat->Nat->Nat)
def imT (st:Option (Nat × Nat)):Tree:=qfa (cfgI.at st) 20000 11 [.ptr ⟨0,.lit 0⟩] [chRw 1 sk lm cl fe,.obj (.amap kMk uMk es c)]
def imF (i:Int):List SP:=qqd (qpd (imT es c sk lm cl fe (some (1,0))) [false]).frames [[(0,.ptr ⟨0,.lit 0⟩),(2,.nilSlice),(3,.slice ⟨2,.lit 0⟩ (.sym k) (.sym n)),(40,.agg [.int .i64 (.sym sk),.int .i64 (.sym lm),.int .i64 (.sym cl),.int .i64 (.sym (fe+1)),.int .i64 (.sym (es.length:Int))]),(41,.int .i64 (.lit i))]]
def imC (i:Int):Cut:=⟨imF es c sk lm cl fe k n i,[.ent (chRw 1 sk lm cl fe),.ent (.obj (.amap kMk uMk es c)),.ent (q3h V n)]⟩
def im1 (i:Int) (st:Option (Nat × Nat)):Tree:=sim1 (cfgI.at st) 20000 ((imC es c sk lm cl fe V k n i).fill J)
def ibF:List SP:=qqd (qpd (im1 es c sk lm cl fe (fun _=>undef) 0 0 j0 5 (some (1,3))) []).frames [[(2,.nilSlice),(3,.slice ⟨2,.lit 0⟩ (.sym k) (.sym n)),(50,.slice ⟨3,.lit 0⟩ (.sym m) (.sym m)),(51,.int .i64 (.sym m)),(52,.int .i64 (.sym j))]]
def ibC:Cut:=⟨ibF es c sk lm cl fe k n m j,[.ent (chRw 1 sk lm cl fe),.ent (.obj (.amap kMk uMk es c)),.ent (q3h V n),.ent (soR W m)]⟩
def ib1 (st:Option (Nat × Nat)):Tree:=sim1 (cfgI.at st) 20000 ((ibC es c sk lm cl fe V W k n m j).fill J)
def qts:Prop:=(0:Int)<=0/\(0:Int)<=imN es.length/\imN es.length * ((1:Nat):Int)<=281474976710656/\imN es.length<=9223372036854775807/\1=1
def imZ:SO:=.own (.fn (q7q (.int .u8 (.lit 0))) (imN es.length).toNat) true 5
def qpm:Nat->Value:=fun _=>.int .u8 0
theorem jte:outL [] (imC es c sk lm cl fe qpm 0 (imN es.length).toNat 0) n3 (imT es c sk lm cl fe (some (1,0))) [false] z=([lm0 lm,qpa (imN es.length),qts es,qpa (fe+1)],
 some (.inr (qeb [(0,3,.slice ⟨2,.lit 0⟩ (.lit 0) (.sym (imN es.length).toNat))] [(2,.ent (imZ es))] (qqa n3 3 (imC es c sk lm cl fe qpm 0 (imN es.length).toNat 0))))):=by kernel_rfl
theorem jmh (i:Int):(((imC es c sk lm cl fe V k n i).frames[0]?).bind fun p=>p.tmps[3]?)=some (some (.slice ⟨2,.lit 0⟩ (.sym k) (.sym n))):=by kernel_rfl
def imV (x:Int):Nat->Value:=qmc V k 8 (beV (BitVec.ofInt 64 x))
def anN:Prop:=k+8<=n/\n=n
theorem im_t0:outL [] (imC es c sk lm cl fe V 0 n 0) n3 (im1 es c sk lm cl fe V k n J 0 (some (1,0))) [] z=([anN k n],some (.inr (qqa n3 3 (imC es c sk lm cl fe (imV V k sk) (k+8) n 1)))):=by kernel_rfl
theorem im_t1:outL [] (imC es c sk lm cl fe V 0 n 0) n3 (im1 es c sk lm cl fe V k n J 1 (some (1,0))) [] z=([anN k n],some (.inr (qqa n3 3 (imC es c sk lm cl fe (imV V k lm) (k+8) n 2)))):=by kernel_rfl
theorem im_t2:outL [] (imC es c sk lm cl fe V 0 n 0) n3 (im1 es c sk lm cl fe V k n J 2 (some (1,0))) [] z=([anN k n],some (.inr (qqa n3 3 (imC es c sk lm cl fe (imV V k cl) (k+8) n 3)))):=by kernel_rfl
theorem im_t3:outL [] (imC es c sk lm cl fe V 0 n 0) n3 (im1 es c sk lm cl fe V k n J 3 (some (1,0))) [] z=([anN k n],some (.inr (qqa n3 3 (imC es c sk lm cl fe (imV V k (fe+1)) (k+8) n 4)))):=by kernel_rfl
theorem im_t4:outL [] (imC es c sk lm cl fe V 0 n 0) n3 (im1 es c sk lm cl fe V k n J 4 (some (1,0))) [] z=([anN k n],some (.inr (qqa n3 3 (imC es c sk lm cl fe (imV V k (es.length:Int)) (k+8) n 5)))):=by kernel_rfl
theorem jnh:outL [] (ibC es c sk lm cl fe V W k n es.length 0) n4 (im1 es c sk lm cl fe V k n J 5 (some (1,3))) [] z=([ChOK es c/\es.length<=65536],some (.inr (qeb [(0,52,.int .i64 (.lit 0))] [] (qqa n4 4 (ibC es c sk lm cl fe V (rowM (lsM es)) k n es.length 0))))):=by kernel_rfl
theorem joh:(((ibC es c sk lm cl fe V W k n m j).frames[0]?).bind fun p=>p.tmps[52]?)=some (some (.int .i64 (.sym (j:Int)))):=by kernel_rfl
def ibV:Nat->Value:=qmc (imV V k (vNum (W (0+j * 33+0)))) (0+(k+8) * 1) 32 (dgY W (0+j * 33))
theorem jue:outL [] (ibC es c sk lm cl fe V W k n m j) n4 (ib1 es c sk lm cl fe V W k n m j J (some (1,3))) [true,true] z=([decide ((j:Int)<(m:Int))=true,(0:Int)<=(j:Int)/\(j:Int)<(m:Int),0+j * 33+33<=m * 33,fitM W (0+j * 33),anN k n,33<=33,decide (k+8+32<=n)=true,0+(k+8) * 1+32<=n,∀ i,i<32->(dgY W (0+j * 33) i).oneCell'=true,qpa ((j+1:Nat):Int)],
 some (.inr (qqa n4 5 (ibC es c sk lm cl fe (ibV V W k j) W (k+8+32) n m (j+1))))):=by kernel_rfl
theorem jph:outL [0,1,2] (ibC es c sk lm cl fe V W k n m j) n4 (ib1 es c sk lm cl fe V W k n m j J none) [false] z=([decide ((j:Int)<(m:Int))=false],some (.inl (.slice ⟨2,.lit 0⟩ (.sym k) (.sym n),[some (chRw 1 sk lm cl fe),some (.obj (.amap kMk uMk es c)),some (q3h V n)]))):=by kernel_rfl
theorem im_n (X:Nat->Value) (q:Nat) (i:Int):boolC (q5a 2 n3 (imC es c sk lm cl fe X q n 0) (imC es c sk lm cl fe V k n i)) (allN qwa (imC es c sk lm cl fe V k n i).heap) false=true:=by kernel_rfl
theorem ib_n (X Y:Nat->Value) (q r:Nat):boolC (q5a 2 n4 (ibC es c sk lm cl fe X Y q n m r) (ibC es c sk lm cl fe V W k n m j)) (allN qwa (ibC es c sk lm cl fe V W k n m j).heap) false=true:=by kernel_rfl
end
end
noncomputable section
open Go.Sim
open Go.Proofs
variable {α:Type}
set_option maxRecDepth 1000000
def imgB (ns:List Int) (l:List Mk) (i:Nat):BitVec 8 :=
 if i<40 then be8 (BitVec.ofInt 64 (ns.getD (i / 8) 0)) (i % 8)
 else if (i - 40) % 40<8 then be8 (BitVec.ofInt 64 ((l[(i - 40) / 40]?).getD default).1) ((i - 40) % 40) else ((l[(i - 40) / 40]?).getD default).2.at ((i - 40) % 40 - 8)
def vB (x:BitVec 8):Value:=.int .u8 (x.toNat:Int)
theorem qoy (ns:List Int) (l:List Mk) {i r:Nat} (hi:i<5) (hr:r<8):imgB ns l (8 * i+r)=be8 (BitVec.ofInt 64 (ns.getD i 0)) r:=by
 unfold imgB
 rw [if_pos (by omega),show (8 * i+r) / 8=i by omega,show (8 * i+r) % 8=r by omega]
theorem qwt (ns:List Int) {l:List Mk} {j r:Nat} (hj:j<l.length) (hr:r<8):imgB ns l (40+40 * j+r)=be8 (BitVec.ofInt 64 l[j].1) r:=by
 unfold imgB
 rw [if_neg (by omega),show (40+40 * j+r - 40) % 40=r by omega,show (40+40 * j+r - 40) / 40=j by omega,if_pos hr,List.getElem?_eq_getElem hj]; rfl
theorem qxt (ns:List Int) {l:List Mk} {j r:Nat} (hj:j<l.length) (hr:r<32):imgB ns l (40+40 * j+(8+r))=l[j].2.at r:=by
 unfold imgB
 rw [if_neg (by omega),show (40+40 * j+(8+r) - 40) % 40=8+r by omega,show (40+40 * j+(8+r) - 40) / 40=j by omega,if_neg (by omega),List.getElem?_eq_getElem hj,show 8+r - 8=r by omega]; rfl
theorem qk7 {V:Nat->Value} {B:Nat->BitVec 8} {k:Nat} {x:Int} (h:∀ t,t<k->V t=vB (B t)) (hx:∀ r,r<8->B (k+r)=be8 (BitVec.ofInt 64 x) r):∀ t,t<k+8->imV V k x t=vB (B t):=by
 intro t ht
 unfold imV qmc
 by_cases c:k<=t
 . rw [if_pos ⟨c,ht⟩]
   have:=hx (t - k) (by omega)
   rw [show k+(t - k)=t by omega] at this
   rw [this]; rfl
 . rw [if_neg (by omega)]; exact h t (by omega)
theorem jga {l:List Mk} {j:Nat} (hj:j<l.length):keyW (rowM l) (0+j * 33)=mkC l[j]:=by
 obtain ⟨h1,h2⟩:=qqf hj
 have e:mkOf (keyM l[j])=l[j]:=qsj _
 rw [show mkC l[j]=mkC (mkOf (keyM l[j])) by rw [e],← qvt]
 unfold keyW keyL
 congr 1
 . rw [Nat.zero_add,Nat.add_zero,h1,qak,List.getD_eq_getElem?_getD,qdf]; rfl
 . rw [qja,qja]
   refine List.map_congr_left fun i hi => ?_
   rw [qya,← List.range_eq_range',List.mem_range] at hi
   rw [Nat.zero_add,h2 i hi,qak,List.getD_eq_getElem?_getD,qje _ hi]; rfl
theorem q50 {l:List Mk} {j i:Nat} (hj:j<l.length) (hi:i<32):dgY (rowM l) (0+j * 33) i=vB (l[j].2.at i):=by
 unfold dgY atV
 rw [jga hj,Nat.add_comm,qje _ hi]; rfl
theorem qco:∀ {l:List Value} {ks:List SK},(∀ (i:Nat) (x:Value) (k:SK),l[i]? = some x->ks[i]? = some k->fitK k x)->qjo (l.map SV.val) ks
 | [],_,_=>trivial
 | _::_,[],_=>trivial
 | _::_,_::_,h=>⟨h 0 _ _ rfl rfl,qco fun i x k h1 h2=>h (i+1) x k h1 h2⟩
theorem q93 (x:BitVec 8):fitK (.i .u8) (vB x):=fun β=>by
 show some (Value.int .u8 ((BitVec.ofInt 8 (x.toNat:Int)).toNat:Int))=_
 rw [qef]; rfl
theorem qwq {l:List Mk} {j:Nat} (hj:j<l.length):fitM (rowM l) (0+j * 33):=by
 obtain ⟨h1,h2⟩:=qqf hj
 unfold fitM
 have e:mapN (fun i=>SV.val (rowM l (0+j * 33+i))) (qra 33 0)=((List.range 33).map fun i=>rowM l (0+j * 33+i)).map SV.val:=by
  rw [qja,qya,← List.range_eq_range',List.map_map]; rfl
 rw [e]
 refine qco fun i x k hx hk => ?_
 rw [List.getElem?_map,Option.map_eq_some_iff] at hx
 obtain ⟨i',hi',rfl⟩:=hx
 obtain ⟨hi,rfl⟩:i<33/\i=i':=by
  obtain ⟨h,he⟩:=List.getElem?_eq_some_iff.1 hi'
  simp at h he
  exact ⟨h,he⟩
 rw [Nat.zero_add]
 cases i with
 | zero =>
   cases hk
   rw [Nat.add_zero,h1]
   exact fun _=>rfl
 | succ i =>
   have hk:(repN (SK.i .u8) 32)[i]? = some k:=hk
   rw [q9c] at hk
   have hk:k=.i .u8:=(List.eq_of_mem_replicate (List.mem_of_getElem? hk))
   rw [hk,h2 i (by omega)]
   exact q93 _
theorem jqh {m:Nat} (h:m<=65536):imN m=((40+40 * m:Nat):Int):=by
 unfold imN
 have:(40 * m).ble (maxN .i64)=true:=Nat.ble_eq_true_of_le (show 40 * m<=9223372036854775807 by omega)
 rw [this]
 show (40:Int)+((40 * m:Nat):Int)=_
 omega
inductive ImS
 | a (i:Nat) (V:Nat->Value)
 | b (j:Nat) (V:Nat->Value)
section
variable (es:List MapEntry) (c:Nat) (sk lm cl fe:Int)
def imL:List Int:=[sk,lm,cl,fe+1,(es.length:Int)]
def imX:Nat->BitVec 8:=imgB (imL es sk lm cl fe) (lsM es)
def imK:ImS->Cut
 | .a i V=>imC es c sk lm cl fe V (8 * i) (40+40 * es.length) (i:Int)
 | .b j V=>ibC es c sk lm cl fe V (rowM (lsM es)) (40+40 * j) (40+40 * es.length) es.length j
def imOK:ImS->Prop
 | .a i V=>i<=5/\∀ t,t<8 * i->V t=vB (imX es sk lm cl fe t)
 | .b j V=>j<=es.length/\∀ t,t<40+40 * j->V t=vB (imX es sk lm cl fe t)
def imMu:ImS->Nat
 | .a i _=>es.length+10 - i
 | .b j _=>es.length - j
def imD (v:SV) (H:List SO):Prop:=v=.slice ⟨2,.lit 0⟩ (.sym (40+40 * es.length)) (.sym (40+40 * es.length))/\H[0]? = some (chRw 1 sk lm cl fe)/\H[1]? = some (.obj (.amap kMk uMk es c))/\∃ V,H[2]? = some (q3h V (40+40 * es.length))/\∀ t,t<40+40 * es.length->V t=vB (imX es sk lm cl fe t)
variable {es c sk lm cl fe}
theorem jve (h:ChW es c sk lm cl fe):Runs cfgI 11 [.ptr ⟨0,.lit 0⟩] [chRw 1 sk lm cl fe,.obj (.amap kMk uMk es c)] (imD es c sk lm cl fe):=by
 have hz:es.length<=65536:=by have:=h.sz; have:=h.hlm; have:=h.len; omega
 have hN:=jqh hz
 have hNt:(imN es.length).toNat=40+40 * es.length:=by rw [hN]; omega
 have hl:(lsM es).length=es.length:=h.len.symm
 refine quc jlh (imK es c sk lm cl fe) (imOK es sk lm cl fe) (imMu es) (fun g nm hg=>by cases hg) ?_ fun a ha J => ?_
 . have hr:=fun z=>jte es c sk lm cl fe z
   rw [hNt] at hr
   refine qwc (M:=imC es c sk lm cl fe qpm 0 (40+40 * es.length) 0) (names:=n3) (N:=3) (ds:=[false]) (some (1,0)) 20000 (.a 0 qpm) ⟨Nat.zero_le 5,fun t ht=>by omega⟩ hr (im_n es c sk lm cl fe qpm 0 _ qpm 0 0) (fun q hq p u hp hu => ?_) (fun e he E0 hE0 => ?_) (all_cons h.lm0 (all_cons ?_ (all_cons ?_ (all_cons ?_ qba))))
   . obtain rfl:=List.mem_singleton.1 hq
     exact qtd (jmh es c sk lm cl fe qpm 0 _ 0) hp hu fun _ _ h=>h
   . obtain rfl:=List.mem_singleton.1 he
     cases hE0
     refine ⟨_,rfl,fun γ vs hv => ?_⟩
     obtain ⟨h1,h2⟩:vs.length=(imN es.length).toNat/\∀ (i:Nat) (x:Value),vs[i]? = some x->(q7q (.int .u8 (.lit 0)) i).den γ=some x:=hv
     refine ⟨by rw [h1,hNt],fun i x hx => ?_⟩
     have:=h2 i x hx
     exact (Option.some.inj this).symm
   . rw [hN]; exact ⟨by omega,by omega⟩
   . rw [show qts es=qts es from rfl]
     unfold qts
     rw [hN]
     exact ⟨by omega,by omega,by omega,by omega,rfl⟩
   . have:=h.hfe
     exact ⟨by omega,by omega⟩
 cases a with
 | a i V =>
   obtain ⟨hi,hV⟩:i<=5/\∀ t,t<8 * i->V t=vB (imX es sk lm cl fe t):=ha
   show qbd cfgI _ (imK es c sk lm cl fe) _ _ ((imC es c sk lm cl fe V (8 * i) (40+40 * es.length) (i:Int)).fill J)
   have hn:∀ (V:Nat->Value) (k:Nat) (i:Int) (W:Nat->Value),boolC (q5a 2 n3 (imC es c sk lm cl fe W 0 (40+40 * es.length) 0) (imC es c sk lm cl fe V k (40+40 * es.length) i)) (allN qwa (imC es c sk lm cl fe V k (40+40 * es.length) i).heap) false=true:=fun V k i W=>im_n es c sk lm cl fe V k _ W 0 i
   have hok:∀ (x:Int),i<5->(imL es sk lm cl fe).getD i 0=x->imOK es sk lm cl fe (.a (i+1) (imV V (8 * i) x)):=fun x hi' hx=>by
    refine ⟨by omega,fun t ht=>qk7 hV (fun r hr => ?_) t (by omega)⟩
    unfold imX
    rw [qoy _ _ hi' hr,hx]
   have hmu:∀ V',i<5->imMu es (.a (i+1) V')<imMu es (.a i V):=fun V' hi'=>by show es.length+10 - (i+1)<es.length+10 - i; omega
   have hp:i<5->∀ p∈[anN (8 * i) (40+40 * es.length)],p:=fun hi'=>all_cons ⟨by omega,rfl⟩ qba
   rcases (show i=0\/i=1\/i=2\/i=3\/i=4\/i=5 by omega) with rfl | rfl | rfl | rfl | rfl | rfl
   . exact qtc (ds:=[]) (names:=n3) (N:=3) (M:=imC es c sk lm cl fe V 0 _ 0) (some (1,0)) 20000 (.a 1 (imV V (8 * 0) sk)) ⟨hok sk (by omega) rfl,hmu _ (by omega)⟩ (fun z=>im_t0 es c sk lm cl fe V (8 * 0) _ J z) (hn _ _ _ _) (hp (by omega))
   . exact qtc (ds:=[]) (names:=n3) (N:=3) (M:=imC es c sk lm cl fe V 0 _ 0) (some (1,0)) 20000 (.a 2 (imV V (8 * 1) lm)) ⟨hok lm (by omega) rfl,hmu _ (by omega)⟩ (fun z=>im_t1 es c sk lm cl fe V (8 * 1) _ J z) (hn _ _ _ _) (hp (by omega))
   . exact qtc (ds:=[]) (names:=n3) (N:=3) (M:=imC es c sk lm cl fe V 0 _ 0) (some (1,0)) 20000 (.a 3 (imV V (8 * 2) cl)) ⟨hok cl (by omega) rfl,hmu _ (by omega)⟩ (fun z=>im_t2 es c sk lm cl fe V (8 * 2) _ J z) (hn _ _ _ _) (hp (by omega))
   . exact qtc (ds:=[]) (names:=n3) (N:=3) (M:=imC es c sk lm cl fe V 0 _ 0) (some (1,0)) 20000 (.a 4 (imV V (8 * 3) (fe+1))) ⟨hok (fe+1) (by omega) rfl,hmu _ (by omega)⟩ (fun z=>im_t3 es c sk lm cl fe V (8 * 3) _ J z) (hn _ _ _ _) (hp (by omega))
   . exact qtc (ds:=[]) (names:=n3) (N:=3) (M:=imC es c sk lm cl fe V 0 _ 0) (some (1,0)) 20000 (.a 5 (imV V (8 * 4) (es.length:Int))) ⟨hok (es.length:Int) (by omega) rfl,hmu _ (by omega)⟩ (fun z=>im_t4 es c sk lm cl fe V (8 * 4) _ J z) (hn _ _ _ _) (hp (by omega))
   . refine qfg (ds:=[]) (names:=n4) (N:=4) (es:=[]) (M:=ibC es c sk lm cl fe V (fun _=>undef) 40 (40+40 * es.length) es.length 0) (some (1,3)) 20000 (.b 0 V) ⟨⟨Nat.zero_le _,fun t ht=>hV t (by omega)⟩,?_⟩ (fun z=>jnh es c sk lm cl fe V (fun _=>undef) 40 _ J z) (ib_n es c sk lm cl fe V _ 40 _ es.length 0 V _ 40 0) (fun q hq p u hp hu => ?_) (fun e he=>by cases he) (all_cons ⟨h.ok,hz⟩ qba)
     . show es.length - 0<es.length+10 - 5; omega
     . obtain rfl:=List.mem_singleton.1 hq
       exact qtd (joh es c sk lm cl fe V (rowM (lsM es)) 40 _ es.length 0) hp hu (qza rfl)
 | b j V =>
   obtain ⟨hj,hV⟩:j<=es.length/\∀ t,t<40+40 * j->V t=vB (imX es sk lm cl fe t):=ha
   show qbd cfgI _ (imK es c sk lm cl fe) _ _ ((ibC es c sk lm cl fe V (rowM (lsM es)) (40+40 * j) (40+40 * es.length) es.length j).fill J)
   by_cases hc:j<es.length
   . have hjl:j<(lsM es).length:=by omega
     have e0:vNum (rowM (lsM es) (0+j * 33+0))=(lsM es)[j].1:=by
      rw [Nat.zero_add,Nat.add_zero,(qqf hjl).1]; rfl
     refine qtc (ds:=[true,true]) (names:=n4) (N:=5) (M:=ibC es c sk lm cl fe V (rowM (lsM es)) (40+40 * j) (40+40 * es.length) es.length j) (some (1,3)) 20000 (.b (j+1) (ibV V (rowM (lsM es)) (40+40 * j) j)) ⟨⟨hc,?_⟩,?_⟩ (fun z=>jue es c sk lm cl fe V (rowM (lsM es)) (40+40 * j) _ es.length j J z) (ib_n es c sk lm cl fe _ _ _ _ es.length _ _ _ _ _)
      (all_cons (decide_eq_true (by omega)) (all_cons ⟨by omega,by omega⟩ (all_cons (by omega) (all_cons (qwq hjl) (all_cons ⟨by omega,rfl⟩ (all_cons (Nat.le_refl 33) (all_cons (decide_eq_true (by omega)) (all_cons (by omega) (all_cons (fun i hi => ?_) (all_cons ⟨by omega,by omega⟩ qba))))))))))
     . intro t ht
       have h1:=qk7 (B:=imX es sk lm cl fe) (k:=40+40 * j) (x:=(lsM es)[j].1) hV fun r hr=>by unfold imX; exact qwt _ hjl hr
       unfold ibV qmc
       rw [e0]
       by_cases c2:40+40 * j+8<=t
       . rw [if_pos (by omega),q50 hjl (by omega)]
         have:=qxt (imL es sk lm cl fe) hjl (show t - (0+(40+40 * j+8) * 1)<32 by omega)
         rw [show 40+40 * j+(8+(t - (0+(40+40 * j+8) * 1)))=t by omega] at this
         rw [← this]; rfl
       . rw [if_neg (by omega)]
         exact h1 t (by omega)
     . show es.length - (j+1)<es.length - j; omega
     . rw [q50 hjl hi]; rfl
   . have hje:j=es.length:=by omega
     subst hje
     refine q7b (js:=[0,1,2]) (names:=n4) (M:=ibC es c sk lm cl fe V (rowM (lsM es)) (40+40 * es.length) (40+40 * es.length) es.length es.length) none 20000 (fun z=>jph es c sk lm cl fe V (rowM (lsM es)) (40+40 * es.length) _ es.length es.length J z) (all_cons (decide_eq_false (by omega)) qba) fun H hH => ?_
     obtain ⟨h0,h1⟩:=List.cons.inj (show [H[0]?,H[1]?,H[2]?]=[some (chRw 1 sk lm cl fe),some (.obj (.amap kMk uMk es c)),some (q3h V (40+40 * es.length))] from hH)
     obtain ⟨h1,h2⟩:=List.cons.inj h1
     exact ⟨rfl,h0,h1,V,(List.cons.inj h2).1,hV⟩
end
def ChD.n (d:ChD):Nat:=40+40 * d.es.length
def ChD.x (d:ChD):Nat->BitVec 8:=imX d.es d.sk.den d.lm.den d.cl.den d.fe.den
def imSm:Summ:=fun args H base=>qad args fun p=>chRd H p fun d=>.need d.w (.ok ⟨.slice ⟨base,.lit 0⟩ (.sym d.n) (.sym d.n),[],[.own (.fn (qna d.x) d.n) true 5]⟩)
theorem j1c:qdb Tryd.prog 11 imSm:=by
 intro glob O w0 β H w base args vs hH hG ha
 refine qob fun p hv=>qbj fun d hd => ?_
 rw [hv,hd.ptr] at ha
 intro hw
 refine qoh (k':=kMk) (v':=uMk) hH hd.map ?_
 refine qxc (c:=cfgI) hH (chJ d []) (by intro g j hg; cases hg) ha (qqh hd rfl) [2] (by simp [chJ]) (by simp) (qlb (jve hw) fun v H2 ⟨h1,h2,h3,V,h4,h5⟩ => ?_)
 subst h1
 refine ⟨?_,rfl,qrh h3,⟨.inl ⟨_,_,_,_,h4,trivial,?_,rfl⟩,trivial⟩⟩
 . show SV.Imp (.slice ⟨(chJ d []).out base [2] 2,.lit 0⟩ (.sym (40+40 * d.es.length)) (.sym (40+40 * d.es.length))) _
   rw [out1 (by show 2<=2; omega)]
   exact .refl _
 . intro γ vs ⟨g1,g2⟩
   refine ⟨g1,fun i x hx => ?_⟩
   have hi:i<40+40 * d.es.length:=by
    have:=(List.getElem?_eq_some_iff.1 hx).1
    omega
   rw [g2 i x hx,h5 i hi]; rfl
end
end Go.Proofs.YthkgcljngalafaaDoor.Aes
namespace Go.Sim
noncomputable section
open Go.Proofs Go.Shelf
def qpy (e:SO):Bool:=match e with
 | .obj (.map _ _)=>true
 | .obj (.amap _ _ _ _)=>true
 | _=>false
theorem q6z {e:SO} (h:qpy e=true):∃ o,e=.obj o/\∀ β x,o.den β=some x->∃ es c,x=.map es c:=by
 unfold qpy at h
 split at h
 . refine ⟨_,rfl,fun β x hx => ?_⟩
   simp only [SObj.den,Option.map_eq_some_iff] at hx
   obtain ⟨es,_,rfl⟩:=hx
   exact ⟨_,_,rfl⟩
 . refine ⟨_,rfl,fun β x hx => ?_⟩
   exact ⟨_,_,(SObj.amap_den.1 hx).2⟩
 . cases h
def clnM:Summ:=fun args H base=>qad args fun v=>match v with
 | .nilMap=>.ok ⟨.nilMap,[],[]⟩
 | .map nm=>optC (nth H nm) (.stuck 7850) fun e=>boolC (qpy e) (.ok ⟨.map base,[],[e]⟩) (.stuck 7851)
 | _=>.stuck 7852
section
variable {P:Program} {ρ:Ren}
theorem ql7 (L:SlLaysW.n5 P ρ) (hs:∃ fn,P.funcs[ρ.f 5]? = some fn/\fn.body.isSome=true):qdb P (ρ.f 5) clnM:=by
 intro glob O w0 β H w base args vs hH hG ha
 refine qob fun v hv => ?_
 rw [hv] at ha
 cases v <;> first | exact trivial | skip
 . rename_i nm
   refine qka fun e he=>qta fun hm => ?_
   obtain ⟨o,rfl,ho⟩:=q6z hm
   rw [qca] at he
   obtain ⟨x,ys,hx,hys,rfl⟩:=denL_cons.1 ha
   cases hys
   obtain ⟨l,x',hβ,h0,hd,hh⟩:OwnRel P β w nm (.obj o):=(hH.entries nm _ he).toOwn rfl
   obtain ⟨es,c,rfl⟩:=ho _ _ hd
   have hx:(β nm).map (fun l=>Value.map (some l.blk))=some x:=hx
   rw [hβ] at hx
   cases hx
   intro hnew
   have hb:β base=none:=hnew 0 (by show (0:Nat)<1; omega)
   refine ⟨fun n e hm=>(by cases hm),.inl ⟨hs,?_⟩⟩
   refine (AnyW.maps_Clone L l.blk es c w hh).mono fun e w' ⟨he,hw⟩=>⟨_,β.upd base ⟨w.heap.size,0,0⟩,he,?_,?_⟩
   . show ((β.upd base ⟨w.heap.size,0,0⟩) base).map (fun l=>Value.map (some l.blk))=_
     rw [Val.upd_same]; rfl
   . subst hw
     exact Eff.allocO hb rfl rfl rfl rfl hd
 . obtain ⟨x,ys,hx,hys,rfl⟩:=denL_cons.1 ha
   cases hys; cases hx
   intro hnew
   refine ⟨fun n e hm=>(by cases hm),.inl ⟨hs,?_⟩⟩
   refine (AnyW.maps_Clone_nil L w).mono fun e w' ⟨he,hw⟩=>⟨_,β,he,rfl,?_⟩
   subst hw
   exact ⟨fun n l h=>h,rfl,rfl,rfl,Nat.le_refl _,Nat.le_refl _,fun _ _=>rfl,fun _ _ _=>rfl,fun _ _ _ h=>(by cases h),fun _ _ h=>(by cases h),fun _ _ h=>(by simp at h),fun _ _ _ _ _ h=>(by simp at h)⟩
end
end
end Go.Sim
namespace Go.Proofs
noncomputable section
open Go.Shelf
def Tryd.clnMk_ren:Go.Shelf.Ren:=⟨fun | 5=>52 | 7=>63 | n=>n,fun | 23=>66 | 25=>65 | 3=>70 | 4=>4 | 20=>20 | n=>n,fun | n=>n⟩
theorem Tryd.clnMk:Go.Proofs.SlLaysW.n5 Tryd.prog Tryd.clnMk_ren:={
 mixed:=by kernel_rfl
 f5:=⟨Tryd.f52.name,by decide,Tryd.func52.trans (congrArg some (by kernel_rfl))⟩
 f7:=Tryd.func63.trans (congrArg some (by kernel_rfl))
 t4:=Tryd.underlying4
 a4:=Tryd.isAgg4
 z4:=Tryd.sizeOf4
 v4:=Tryd.zeroValue4
 t20:=Tryd.underlying20
 a20:=Tryd.isAgg20
 z20:=Tryd.sizeOf20
 v20:=Tryd.zeroValue20
 t23:=Tryd.underlying66
 a23:=Tryd.isAgg66
 z23:=Tryd.sizeOf66
 v23:=Tryd.zeroValue66 }
end
end Go.Proofs
namespace Go.Proofs.YthkgcljngalafaaDoor.Aes
noncomputable section
open Go.Sim
open Go.Proofs
variable {α:Type}
set_option maxRecDepth 1000000
theorem jwe:qdb Tryd.prog 52 clnM:=ql7 Tryd.clnMk ⟨_,Tryd.func52,by kernel_rfl⟩
def rlE:List (FuncId × Summ):=[(52,clnM),(35,soSm)]
def cfgE:Cfg:=qbg (qkc rlE)
theorem jrh:CfgOK cfgE:=qjd (by
 intro y hy
 rcases List.mem_cons.1 hy with rfl | hy
 . exact jwe
 . obtain rfl:=List.mem_singleton.1 hy
   exact j0c)
section
variable (es:List MapEntry) (c:Nat) (sk lm cl fe:Int)
def enT:Tree:=qfa cfgE 20000 18 [.ptr ⟨0,.lit 0⟩] [chRw 1 sk lm cl fe,.obj (.amap kMk uMk es c)]
def enV (b:Nat):SV:=.func (.fn (.func 39)) [] [.ptr ⟨b,.lit 0⟩]
def enO (b n:Nat):SO:=.own (.lst [.slice ⟨b,.lit 0⟩ (.sym n) (.sym n)]) true 77
theorem jsh:outO [0,1,2,3] (enT es c sk lm cl fe) [true]=([(!(lm == 0))=true,ChOK es c/\es.length<=65536],some (enV 2,[some (chRw 1 sk lm cl fe),some (.obj (.amap kMk uMk es c)),some (enO 3 es.length),some (soR (rowM (lsM es)) es.length)])):=by kernel_rfl
end
def enSm:Summ:=fun args H base=>qad args fun p=>chRd H p fun d=>.need d.w (.ok ⟨enV base,[],[enO (base+1) d.es.length,soR (rowM (lsM d.es)) d.es.length]⟩)
theorem enOK:qdb Tryd.prog 18 enSm:=by
 intro glob O w0 β H w base args vs hH hG ha
 refine qob fun p hv=>qbj fun d hd => ?_
 rw [hv,hd.ptr] at ha
 intro hw
 have hz:d.es.length<=65536:=by have:=hw.sz; have:=hw.hlm; have:=hw.len; omega
 refine qoh (k':=kMk) (v':=uMk) hH hd.map ?_
 refine qqc jrh 20000 hH (chJ d []) (by intro g j hg; cases hg) ha (qqh hd rfl) [2,3] (by simp [chJ]) (by simp) (q2b (jsh d.es d.c d.sk.den d.lm.den d.cl.den d.fe.den) (all_cons (by rw [show (d.lm.den == 0)=false from hw.lm0]; rfl) (all_cons ⟨hw.ok,hz⟩ qba)) fun H2 hH2 => ?_)
 obtain ⟨h0,h1⟩:=List.cons.inj (show [H2[0]?,H2[1]?,H2[2]?,H2[3]?]=[some (chRw 1 d.sk.den d.lm.den d.cl.den d.fe.den),some (.obj (.amap kMk uMk d.es d.c)),some (enO 3 d.es.length),some (soR (rowM (lsM d.es)) d.es.length)] from hH2)
 obtain ⟨h1,h2⟩:=List.cons.inj h1
 obtain ⟨h2,h3⟩:=List.cons.inj h2
 have h3:=(List.cons.inj h3).1
 exact ⟨.refl _,rfl,qrh h1,⟨.inl ⟨_,_,_,_,h2,rfl,.refl _,rfl⟩,.inl ⟨_,_,_,_,h3,trivial,.refl _,rfl⟩,trivial⟩⟩
end
noncomputable section
open Go.Sim
open Go.Proofs
variable {α:Type}
set_option maxRecDepth 1000000
def rfA (sk lm cl fe:Int) (L:SV):SV:=.agg [.int .i64 (.sym sk),.int .i64 (.sym lm),.int .i64 (.sym cl),.int .i64 (.sym fe),L]
def rfL (b n:Nat):SV:=.slice ⟨b,.lit 0⟩ (.sym n) (.rest b 0)
def rfB (sk lm k fe:Int) (L:SV):SO:=.own (.lst [.int .i64 (.sym sk),.int .i64 (.sym lm),.int .i64 (.sym k),.int .i64 (.sym fe),L]) true 30
def rfR (V:Nat->Value) (m:Nat):SO:=.own (.raw V (m * 33)) false 54
def rfW (W:Nat->Value) (n:Nat):SO:=.row (.raw W (n * 33))
def tup2 (v:SV) (e:Int):SV:=.tuple [v,.int .i64 (.lit e)]
section
variable (W:Nat->Value) (n:Nat) (sk lm cl k fe now:Int) (i:Nat) (V:Nat->Value) (m:Nat) (J:Junk) (z:Nat->Nat->Nat)
def ixP (i n:Nat):Prop:=(0:Int)<=(i:Int)/\(i:Int)<(n:Int)
def nxI (i:Nat):Prop:=qpa ((i+1:Nat):Int)
def apP (Y:Nat->Value) (m:Nat) (q:List Prop):List Prop:=(33<=33)::(0+m * 33<=m * 33)::(((m+1) * 40<140737488355328/\m+1<140737488355328)/\∀ j,j<33->(Y j).oneCell'=true)::q
end
end
noncomputable section
open Go.Sim
open Go.Proofs
variable {α:Type}
set_option maxRecDepth 1000000
structure LsW (l:List Mk) (sk lm cl fe:Int):Prop where
 so:l.Pairwise mkLt
 hsk:0<=sk/\sk<=1048576
 hlm:1<=lm/\lm<=65536
 hcl:vTm cl
 hfe : -1<=fe/\fe<=1099511627776+1048576
 tm:∀ m∈l,vTm m.1
 nr:∀ m∈l,cl - sk<=m.1/\m.1<=cl+sk
 sz:(l.length:Int)<=lm
theorem ChW.ls {es:List MapEntry} {c:Nat} {sk lm cl fe:Int} (h:ChW es c sk lm cl fe):LsW (lsM es) sk lm cl fe:=⟨h.ok.so,h.hsk,h.hlm,h.hcl,h.hfe,h.tm,h.nr,h.sz⟩
theorem jxe {V X:Nat->Value} {m:Nat} {x:Mk} (h1:∀ j,j<m * 33->X j=V j) (h2:∀ j,j<33->X (m * 33+j)=(mkC x).getD j undef) (h:MkV V m):MkV X (m+1)/\mkL X (m+1)=mkL V m++[x]:=by
 have e0:X (m * 33)=.int .i64 x.1:=by
  have:=h2 0 (by omega)
  rw [Nat.add_zero] at this
  rw [this,List.getD_eq_getElem?_getD,qdf]; rfl
 have ej:∀ j,j<32->X (m * 33+(j+1))=.int .u8 ((x.2.at j).toNat:Int):=fun j hj=>by
  rw [h2 (j+1) (by omega),List.getD_eq_getElem?_getD,qje _ hj]; rfl
 have old:∀ i,i<m->mkAt X i=mkAt V i:=fun i hi=>by
  unfold mkAt
  rw [h1 _ (by omega)]
  refine Prod.ext rfl (q3f fun j hj => ?_)
  rw [qjc _ hj,qjc _ hj,h1 _ (by omega)]
 have new:mkAt X m=x:=by
  unfold mkAt
  refine Prod.ext ?_ (q3f fun j hj => ?_)
  . show vNum (X (m * 33))=_
    rw [e0]; rfl
  . rw [qjc _ hj,ej j hj]; exact qef _
 refine ⟨fun i hi => ?_,?_⟩
 . by_cases c:i<m
   . rw [old i c,h1 _ (by omega)]
     obtain ⟨g1,g2⟩:=h i c
     exact ⟨g1,fun j hj=>by rw [h1 _ (by omega)]; exact g2 j hj⟩
   . obtain rfl:i=m:=by omega
     rw [new]
     exact ⟨e0,ej⟩
 . unfold mkL
   rw [List.range_succ,List.map_append,List.map_singleton,new]
   congr 1
   exact List.map_congr_left fun i hi=>old i (List.mem_range.1 hi)
def oneX (x:Mk):Nat->Value:=rowM [x]
theorem qqy (x:Mk):MkV (oneX x) 1/\mkL (oneX x) 1=[x]:=q9i [x]
inductive XuS
 | a (i:Nat)
 | b (i m:Nat) (V:Nat->Value)
section
variable (l:List Mk) (sk lm cl fe now k:Int)
def qa4 (f:List Mk) (e:Int) (b:Nat) (v:SV) (H:List SO):Prop :=
 (f=[]/\v=tup2 (rfA sk lm k fe .nilSlice) e)\/(f≠[]/\∃ nl:SN,nl.den=f.length/\v=tup2 (rfA sk lm k fe (.slice ⟨b,.lit 0⟩ nl (.rest b 0))) e/\∃ cl,H[b]? = some (.own cl false 54)/\(∀ p,cl.Uses p)/\∀ g,(cl.ren g).Imp (.raw (rowM f) (f.length * 33)))
theorem jha {V:Nat->Value} {f:List Mk} {m:Nat} (hm:m=f.length) (h:MkV V m) (hl:mkL V m=f) (g:Nat->Nat):((Cells.raw V (m * 33)).ren g).Imp (.raw (rowM f) (f.length * 33)):=by
 subst hm
 refine qvq fun j hj => ?_
 rw [qaj h j hj,hl]
variable {l sk lm cl fe now}
end
end
noncomputable section
open Go.Sim
open Go.Proofs
variable {α:Type}
def cntI (X:Nat->BitVec 8):Nat:=beN X 32 8
def mkX (X:Nat->BitVec 8) (i:Nat):Mk:=(((beN X (40 * i+40) 8:Nat):Int),dgOf fun j=>X (40 * i+40+8+j))
structure HeadOK (X:Nat->BitVec 8):Prop where
 sk:beN X 0 8<=1048576
 lo:1<=beN X 8 8
 hi:beN X 8 8<=65536
 cn:cntI X<=beN X 8 8
 cl:beN X 16 8<=1099511627776
 fe:beN X 24 8<=1099511627776+1048576+1
structure EntOK (X:Nat->BitVec 8) (i:Nat):Prop where
 tm:beN X (40 * i+40) 8<=1099511627776
 lo:bnI X 16<=bnI X (40 * i+40)+bnI X 0
 hi:bnI X (40 * i+40)<=bnI X 16+bnI X 0
 lt:∀ k,i=k+1->mkLt (mkX X k) (mkX X i)
def qcd (X:Nat->BitVec 8):Prop:=∀ i,i<cntI X->EntOK X i
def lkX (X:Nat->BitVec 8) (k:Nat):List Mk:=(List.range k).map (mkX X)
def esX (X:Nat->BitVec 8) (k:Nat):List MapEntry:=(List.range k).map fun i=>⟨keyM (mkX X i),.agg #[],i⟩
theorem qry (X:Nat->BitVec 8) (k:Nat):lkX X (k+1)=lkX X k++[mkX X k]:=by unfold lkX; rw [List.range_succ,List.map_append]; rfl
theorem qsy (X:Nat->BitVec 8) (k:Nat):esX X (k+1)=insK (esX X k) k (keyM (mkX X k)) (.agg #[]):=by unfold esX insK; rw [List.range_succ,List.map_append]; rfl
theorem qyt (X:Nat->BitVec 8) (k:Nat):(esX X k).length=k:=by simp [esX]
theorem q8o (X:Nat->BitVec 8) (k:Nat):(lkX X k).length=k:=by simp [lkX]
theorem qb4 {X:Nat->BitVec 8}:∀ {k:Nat},(∀ i,i<k+1->EntOK X i)->∀ j,j<k->mkLt (mkX X j) (mkX X k)
 | 0,_,j,hj=>by omega
 | k+1,h,j,hj=>by
   have h1:=(h (k+1) (by omega)).lt k rfl
   by_cases c:j<k
   . exact qke (qb4 (k:=k) (fun i hi=>h i (by omega)) j c) h1
   . obtain rfl:j=k:=by omega
     exact h1
theorem qbv {m:Mk}:∀ {l:List Mk},(∀ a∈l,mkLt a m)->insM m l=l++[m]
 | [],_=>rfl
 | a::l,h=>by
   unfold insM
   have h1:=h a List.mem_cons_self
   rw [if_neg fun h2=>q4f _ (qke h1 h2),qbv fun b hb=>h b (List.mem_cons_of_mem _ hb)]
   rfl
theorem j2c {X:Nat->BitVec 8} {k:Nat} (h:∀ i,i<k+1->EntOK X i):mkX X k ∉ lkX X k:=fun hm=>by
 obtain ⟨j,hj,he⟩:=List.mem_map.1 hm
 have:=qb4 h j (List.mem_range.1 hj)
 rw [he] at this
 exact q4f _ this
theorem qty {X:Nat->BitVec 8}:∀ {k:Nat},(∀ i,i<k->EntOK X i)->MarkOK (esX X k) k (lkX X k)
 | 0,_=>MarkOK.nil 0
 | k+1,h=>by
   have ih:=qty (X:=X) (k:=k) fun i hi=>h i (by omega)
   have:=ih.ins (j2c h)
   rw [qbv fun a ha => ?_] at this
   . rw [qsy,qry]; exact this
   . obtain ⟨j,hj,rfl⟩:=List.mem_map.1 ha
     exact qb4 h j (List.mem_range.1 hj)
theorem qdo (X:Nat->BitVec 8) (o:Nat):0<=bnI X o:=by unfold bnI; omega
theorem qtj {X:Nat->BitVec 8} {o:Nat} (h:beN X o 8<=1152921504606846976):tmI X o=bnI X o:=by
 unfold tmI bnI
 exact wrap_i64 ⟨by omega,by omega⟩
theorem j3c {X:Nat->BitVec 8} (hh:HeadOK X) (he:qcd X):ChW (esX X (cntI X)) (cntI X) (bnI X 0) (bnI X 8) (bnI X 16) (bnI X 24 - 1)/\lsM (esX X (cntI X))=lkX X (cntI X):=by
 have hm:=qty he
 have hl:=qf7 hm
 have hx:∀ m∈lkX X (cntI X),∃ i,i<cntI X/\m=mkX X i:=fun m h=>by
  obtain ⟨i,hi,rfl⟩:=List.mem_map.1 h
  exact ⟨i,List.mem_range.1 hi,rfl⟩
 have hsk:=hh.sk
 have hlo:=hh.lo
 have hhi:=hh.hi
 have hcn:=hh.cn
 have hcl:=hh.cl
 have hfe:=hh.fe
 refine ⟨⟨by show MarkOK _ _ (lsM _); rw [hl]; exact hm,⟨qdo X 0,by unfold bnI; omega⟩,⟨by unfold bnI; omega,by unfold bnI; omega⟩,⟨qdo X 16,by unfold bnI; omega⟩,⟨by unfold bnI; omega,by unfold bnI; omega⟩,fun m h => ?_,fun m h => ?_,?_⟩,hl⟩
 . rw [hl] at h
   obtain ⟨i,hi,rfl⟩:=hx m h
   have:=(he i hi).tm
   exact ⟨qdo X (40 * i+40),by show bnI X (40 * i+40)<=_; unfold bnI; omega⟩
 . rw [hl] at h
   obtain ⟨i,hi,rfl⟩:=hx m h
   have h1:=(he i hi).lo
   have h2:=(he i hi).hi
   exact ⟨by show bnI X 16 - bnI X 0<=bnI X (40 * i+40); omega,by show bnI X (40 * i+40)<=_; omega⟩
 . rw [hl,q8o]; unfold bnI; omega
theorem jye (t:Int) (Y:Nat->BitVec 8):keyY t Y=keyM (t,dgOf Y):=by
 have e:mapN (fun j=>Value.int .u8 ((Y j).toNat:Int)) (qra 32 0)=(List.range 32).map fun j=>Value.int .u8 (((dgOf Y).at j).toNat:Int):=by
  rw [qja,qya,← List.range_eq_range']
  refine List.map_congr_left fun j hj => ?_
  rw [qjc _ (List.mem_range.1 hj)]
 unfold keyY keyM mkC
 rw [e]
theorem jth (t:Int) (Y:Nat->BitVec 8):mkY t Y=(t,dgOf Y):=by
 unfold mkY
 refine Prod.ext rfl (q3f fun j hj => ?_)
 show (dgOf _).at j=(dgOf Y).at j
 rw [qjc _ hj,qjc _ hj,qja,qya,← List.range_eq_range']
 unfold q4a
 simp [hj]
theorem qus {n:Nat} (h:40<=n) (h':n<=1152921504606846976):rqN n=n - 40:=by
 unfold rqN
 rw [BitVec.toNat_ofInt]
 omega
end
noncomputable section
open Go.Sim
open Go.Proofs
variable {α:Type}
set_option maxRecDepth 1000000
def qsf (X:Nat->BitVec 8):Nat->Int
 | 0=>0
 | i+1=>tmI X (40 * i+40)
def qde (X:Nat->BitVec 8):Nat->Nat->BitVec 8
 | 0=>fun _=>0#8
 | i+1=>dgI X (40 * i+40+8)
def ldKx (X:Nat->BitVec 8) (n m i:Nat):Cut:=ldC X n (40 * i) (n - 40 - 40 * i) (m - 40 - 40 * i) (esX X i) i (bnI X 0) (bnI X 8) (bnI X 16) (bnI X 24 - 1) (qsf X i) (qde X i)
def errA (e:Int):SV:=.tuple [.nilPtr,.int .i64 (.lit e)]
def ldDD (X:Nat->BitVec 8) (v:SV) (H:List SO):Prop :=
 (qcd X/\v=.tuple [.ptr ⟨4,.lit 0⟩,.int .i64 (.lit 0)]/\H[3]? = some (.obj (.amap kMk uMk (esX X (cntI X)) (cntI X)))/\H[4]? = some (chO 3 (bnI X 0) (bnI X 8) (bnI X 16) (bnI X 24 - 1)))\/(¬ qcd X/\v=errA 6)
theorem qm7 {X:Nat->BitVec 8} {i:Nat} (h:beN X (40 * i+40) 8<=1099511627776):ldK X (40 * i)=keyM (mkX X i):=by
 unfold ldK
 rw [jye,qtj (by omega)]
 rfl
theorem qcv {X:Nat->BitVec 8} {n m i:Nat} (h:beN X (40 * i+40) 8<=1099511627776) :
  ldC X n (40 * i+40) (n - 40 - 40 * i - 40) (m - 40 - 40 * i - 40) (insK (esX X i) i (ldK X (40 * i)) (.agg #[])) (i+1) (bnI X 0) (bnI X 8) (bnI X 16) (bnI X 24 - 1) (tmI X (40 * i+40)) (dgI X (40 * i+40+8))=ldKx X n m (i+1):=by
 unfold ldKx
 rw [qm7 h,← qsy,show n - 40 - 40 * (i+1)=n - 40 - 40 * i - 40 by omega,show m - 40 - 40 * (i+1)=m - 40 - 40 * i - 40 by omega,show 40 * (i+1)=40 * i+40 by omega]
 rfl
theorem mkYx {X:Nat->BitVec 8} {i:Nat} (h:beN X (40 * i+40) 8<=1099511627776):mkY (tmI X (40 * i+40)) (dgI X (40 * i+40+8))=mkX X i:=by
 rw [jth,qtj (by omega)]; rfl
theorem jze (f:Nat->Nat):ImpE f (some (.ent zMk)) (.ent (jzc 0 fun _=>0#8)):=by
 refine ⟨_,rfl,fun γ vs hv => ?_⟩
 exact hv
section
variable {X:Nat->BitVec 8} {n m:Nat}
theorem q60 (hn:40<=n) (hz:n<=1152921504606846976) (hh:HeadOK X) (hc:cntI X * 40=n - 40):Runs cfgLd 8 [.slice ⟨0,.lit 0⟩ (.sym n) (.sym m)] [rowF X n] (ldDD X):=by
 have hsk:=hh.sk
 have hlo:=hh.lo
 have hhi:=hh.hi
 have hcn:=hh.cn
 have hcl:=hh.cl
 have hfe:=hh.fe
 have t0:tmI X 0=bnI X 0:=qtj (by omega)
 have t8:tmI X 8=bnI X 8:=qtj (by omega)
 have t16:tmI X 16=bnI X 16:=qtj (by omega)
 have t24:tmI X 24=bnI X 24:=qtj (by omega)
 have hb:∀ o,bnI X o=((beN X o 8:Nat):Int):=fun o=>rfl
 have hI:=qic X
 refine quc qut (ldKx X n m) (fun i=>i<=cntI X/\∀ j,j<i->EntOK X j) (fun i=>cntI X - i) (fun g nm hg=>by cases hg) ?_ fun i hi J => ?_
 . have hr:=fun z=>lh_ok X n m z (fun _=>0#8)
   rw [t0,t8,t16,t24] at hr
   refine qwc (ms:=[(0,7,.tail ⟨0,.lit 0⟩ (.lit 40) (.sym (n - 40)) (.sym (m - 40)))]) (es:=[(3,.ent (.obj (.map [] 0))),(5,.ent zMk)]) (ds:=ldG) (names:=ldN) (N:=6) (M:=ldC X n 0 (n - 40) (m - 40) [] 0 (bnI X 0) (bnI X 8) (bnI X 16) (bnI X 24 - 1) 0 fun _=>0#8) (some (1,3)) 20000 0 ⟨Nat.zero_le _,fun j hj=>by omega⟩ hr (ld_n X n _ _ _ _ _ _ _ _ _ _ _ _ _ _ _ _ _ _) (fun q hq p v hp hv => ?_) (fun e he E0 hE0 => ?_) ?_
   . obtain rfl:=List.mem_singleton.1 hq
     exact qtd (jfh X n (fun _=>0#8) 0 (n - 40) (m - 40) [] 0 (bnI X 0) (bnI X 8) (bnI X 16) (bnI X 24 - 1) 0) hp hv fun _ _ h=>h
   . rcases List.mem_cons.1 he with rfl | he
     . cases hE0
       exact ⟨_,rfl,fun β x h=>SObj.amap_den.2 ⟨fun e he=>(by cases he),by cases h; rfl⟩⟩
     . obtain rfl:=List.mem_singleton.1 he
       cases hE0
       exact jze _
   . have e1:rqN n / 40 % 18446744073709551616=cntI X:=by rw [qus hn hz]; omega
     have e2:qyc .u64 (Int.mul (bnI X 32) 40)=((rqN n:Nat):Int):=by
      rw [qus hn hz,qzc]
      have:Int.mul (bnI X 32) 40=((n - 40:Nat):Int):=by
       show bnI X 32 * 40=_
       rw [hb]; unfold cntI at hc; omega
      rw [this]
      exact qdt .u64 _ (by show n - 40<=18446744073709551615; omega)
     refine all_cons (by rw [decide_eq_true (by omega)]; rfl) (all_cons (by omega) (all_cons hI (all_cons ⟨by omega,by omega⟩ (all_cons ⟨by omega,by omega⟩ (all_cons ?_ (all_cons ?_ (all_cons hI (all_cons ⟨by omega,by omega⟩ (all_cons (by omega) (all_cons hI (all_cons ⟨by omega,by omega⟩ (all_cons (by omega) (all_cons hI (all_cons ⟨by omega,by omega⟩ (all_cons (by omega) (all_cons hI (all_cons ⟨by omega,by omega⟩
      (all_cons ?_ (all_cons ?_ (all_cons ?_ (all_cons ?_ (all_cons ?_ (all_cons ?_ (all_cons ?_ (all_cons hn qba)))))))))))))))))))))))))
     . rw [e1,decide_eq_true (by rw [hb]; unfold cntI; omega)]; rfl
     . rw [e2]; simp
     . rw [decide_eq_true (by rw [hb]; omega)]; rfl
     . exact decide_eq_true (by rw [hb]; omega)
     . rw [decide_eq_true (by rw [hb]; omega)]; rfl
     . rw [decide_eq_true (by rw [hb,hb]; unfold cntI at hcn; omega)]; rfl
     . rw [decide_eq_true (by rw [hb]; omega)]; rfl
     . rw [decide_eq_true (by rw [hb]; omega)]; rfl
     . rw [hb]; exact ⟨by omega,by omega⟩
 show qbd cfgLd _ (ldKx X n m) _ _ ((ldC X n (40 * i) (n - 40 - 40 * i) (m - 40 - 40 * i) (esX X i) i (bnI X 0) (bnI X 8) (bnI X 16) (bnI X 24 - 1) (qsf X i) (qde X i)).fill J)
 obtain ⟨hi,he⟩:=hi
 by_cases c:i<cntI X
 . have hno:¬ EntOK X i->∀ v H,v=errA 6->ldDD X v H:=fun h v H hv=>.inr ⟨fun h'=>h (h' i c),hv⟩
   have hlen:40<=n - 40 - 40 * i:=by omega
   have hnn:40 * i+40+40<=n:=by omega
   have q0:∀ {r:List Prop},(∀ p∈r,p)->∀ p∈ldQ X n (40 * i) (n - 40 - 40 * i) r,p:=fun {r} hr=>all_cons (decide_eq_true (by omega)) (all_cons hI (all_cons ⟨by omega,by omega⟩ hr))
   by_cases h1:beN X (40 * i+40) 8<=1099511627776
   . have ht:tmI X (40 * i+40)=bnI X (40 * i+40):=qtj (by omega)
     have q1:∀ {r:List Prop},(∀ p∈r,p)->∀ p∈ldQ1 X n (40 * i) (n - 40 - 40 * i) (bnI X 0) r,p:=fun {r} hr=>q0 (all_cons (by rw [decide_eq_true (by omega)]; rfl) (all_cons (by omega) (all_cons hlen (all_cons (by omega) (all_cons (by rw [ht,hb,hb]; exact ⟨by omega,by omega⟩) hr)))))
     by_cases h2:bnI X 16<=bnI X (40 * i+40)+bnI X 0
     . have q2:∀ {r:List Prop},(∀ p∈r,p)->∀ p∈ldQ2 X n (40 * i) (n - 40 - 40 * i) (bnI X 0) (bnI X 16) r,p:=fun {r} hr=>q1 (all_cons (decide_eq_true (by rw [ht]; exact h2)) (all_cons (by rw [hb,hb]; exact ⟨by omega,by omega⟩) hr))
       by_cases h3:bnI X (40 * i+40)<=bnI X 16+bnI X 0
       . have q3:∀ {r:List Prop},(∀ p∈r,p)->∀ p∈ldQ3 X n (40 * i) (n - 40 - 40 * i) (bnI X 0) (bnI X 16) r,p:=fun {r} hr=>q2 (all_cons (by rw [ht,decide_eq_true h3]; rfl) hr)
         have hmu:cntI X - (i+1)<cntI X - i:=by omega
         cases i with
         | zero =>
           refine qtc (names:=ldN) (N:=7) (ds:=[true,false,true,false,true,true,true,true,true,false]) (M:=ldC X n (40 * 0) (n - 40 - 40 * 0) (m - 40 - 40 * 0) (esX X 0) 0 (bnI X 0) (bnI X 8) (bnI X 16) (bnI X 24 - 1) (qsf X 0) (qde X 0)) (some (1,3)) 20000 1 ⟨⟨c,fun j hj => ?_⟩,hmu⟩
            (fun z=>by rw [← qcv h1]; exact jea X n (40 * 0) (n - 40 - 40 * 0) (m - 40 - 40 * 0) (esX X 0) 0 (bnI X 0) (bnI X 8) (bnI X 16) (bnI X 24 - 1) (qsf X 0) (qde X 0) J z) (ld_n X n _ _ _ _ _ _ _ _ _ _ _ _ _ _ _ _ _ _) (q3 (qrt (q2c rfl 5) (all_cons rfl (all_cons (by omega) (all_cons hlen qba)))))
           obtain rfl:j=0:=by omega
           exact ⟨h1,h2,h3,fun k hk=>by omega⟩
         | succ k =>
           have hk1:=(he k (by omega)).tm
           have e0:(((esX X (k+1)).length:Int) == 0)=false:=by rw [qyt]; simp; omega
           have ey:mkY (qsf X (k+1)) (qde X (k+1))=mkX X k:=mkYx hk1
           by_cases h4:mkLt (mkX X k) (mkX X (k+1))
           . have hE:EntOK X (k+1):=⟨h1,h2,h3,fun k' hk'=>by cases hk'; exact h4⟩
             have hE':∀ j,j<k+1+1->EntOK X j:=fun j hj=>by
              by_cases c2:j<k+1
              . exact he j c2
              . obtain rfl:j=k+1:=by omega
                exact hE
             refine qtc (names:=ldN) (N:=7) (ds:=[true,false,true,false,false,false,false]) (M:=ldC X n (40 * (k+1)) (n - 40 - 40 * (k+1)) (m - 40 - 40 * (k+1)) (esX X (k+1)) (k+1) (bnI X 0) (bnI X 8) (bnI X 16) (bnI X 24 - 1) (qsf X (k+1)) (qde X (k+1))) (some (1,3)) 20000 (k+1+1) ⟨⟨c,hE'⟩,hmu⟩
              (fun z=>by rw [← qcv h1]; exact joe X n (40 * (k+1)) (n - 40 - 40 * (k+1)) (m - 40 - 40 * (k+1)) (esX X (k+1)) (k+1) (bnI X 0) (bnI X 8) (bnI X 16) (bnI X 24 - 1) (qsf X (k+1)) (qde X (k+1)) J z) (ld_n X n _ _ _ _ _ _ _ _ _ _ _ _ _ _ _ _ _ _) (q3 (all_cons e0 (all_cons ?_ (all_cons ?_ (all_cons (by omega) (all_cons hlen qba))))))
             . rw [ey,mkYx h1,decide_eq_true (cfM_neg.2 h4)]; rfl
             . rw [qm7 h1,(qty he).hasB,qtb (j2c hE')]
           . refine q7b (js:=[]) (names:=ldN) (ds:=[true,false,true,false,false,true]) (M:=ldC X n (40 * (k+1)) (n - 40 - 40 * (k+1)) (m - 40 - 40 * (k+1)) (esX X (k+1)) (k+1) (bnI X 0) (bnI X 8) (bnI X 16) (bnI X 24 - 1) (qsf X (k+1)) (qde X (k+1))) none 20000
              (fun z=>jeh X n (40 * (k+1)) (n - 40 - 40 * (k+1)) (m - 40 - 40 * (k+1)) (esX X (k+1)) (k+1) (bnI X 0) (bnI X 8) (bnI X 16) (bnI X 24 - 1) (qsf X (k+1)) (qde X (k+1)) J z) (q3 (all_cons e0 (all_cons ?_ qba))) fun H _=>hno (fun h=>h4 (h.lt k rfl)) _ _ rfl
             rw [ey,mkYx h1,decide_eq_false fun h=>h4 (cfM_neg.1 h)]; rfl
       . exact q7b (js:=[]) (names:=ldN) (M:=ldC X n (40 * i) (n - 40 - 40 * i) (m - 40 - 40 * i) (esX X i) i (bnI X 0) (bnI X 8) (bnI X 16) (bnI X 24 - 1) (qsf X i) (qde X i)) none 20000 (fun z=>jne X n (40 * i) _ _ _ _ _ _ _ _ _ _ J z) (q2 (all_cons (by rw [ht,decide_eq_false h3]; rfl) qba)) fun H _=>hno (fun h=>h3 h.hi) _ _ rfl
     . exact q7b (js:=[]) (names:=ldN) (M:=ldC X n (40 * i) (n - 40 - 40 * i) (m - 40 - 40 * i) (esX X i) i (bnI X 0) (bnI X 8) (bnI X 16) (bnI X 24 - 1) (qsf X i) (qde X i)) none 20000 (fun z=>jdh X n (40 * i) _ _ _ _ _ _ _ _ _ _ J z) (q1 (q2c (decide_eq_false (by rw [ht]; exact h2)) 13)) fun H _=>hno (fun h=>h2 h.lo) _ _ rfl
   . exact q7b (js:=[]) (names:=ldN) (M:=ldC X n (40 * i) (n - 40 - 40 * i) (m - 40 - 40 * i) (esX X i) i (bnI X 0) (bnI X 8) (bnI X 16) (bnI X 24 - 1) (qsf X i) (qde X i)) none 20000 (fun z=>ld_ov X n (40 * i) _ _ _ _ _ _ _ _ _ _ J z) (q0 (all_cons (by show (!decide _)=true; rw [decide_eq_false (by omega)]; rfl) qba)) fun H _=>hno (fun h=>h1 h.tm) _ _ rfl
 . obtain rfl:i=cntI X:=by omega
   refine q7b (js:=[3,4]) (names:=ldN) (M:=ldC X n (40 * cntI X) (n - 40 - 40 * cntI X) (m - 40 - 40 * cntI X) (esX X (cntI X)) (cntI X) (bnI X 0) (bnI X 8) (bnI X 16) (bnI X 24 - 1) (qsf X (cntI X)) (qde X (cntI X))) none 20000 (fun z=>jch X n _ _ _ _ _ _ _ _ _ _ _ J z) (all_cons (decide_eq_false (by omega)) qba) fun H hH=>.inl ⟨he,rfl,(List.cons.inj hH).1,(List.cons.inj (List.cons.inj hH).2).1⟩
end
def qrc (X:Nat->BitVec 8) (n:Nat):Prop:=n<40\/(n - 40) / 40<cntI X
def qsd (X:Nat->BitVec 8) (n:Nat):Prop:=cntI X * 40≠n - 40
def loX (X:Nat->BitVec 8) (n base:Nat):R SumRes:=.fork (cB (qrc X n)) (.ok ⟨errA 4,[],[]⟩) (.fork (cB (qsd X n)) (.ok ⟨errA 5,[],[]⟩) (.fork (cB (HeadOK X/\qcd X))
 (.ok ⟨.tuple [.ptr ⟨base,.lit 0⟩,.int .i64 (.lit 0)],[],[chO (base+1) (bnI X 0) (bnI X 8) (bnI X 16) (bnI X 24 - 1),.obj (.amap kMk uMk (esX X (cntI X)) (cntI X))]⟩) (.ok ⟨errA 6,[],[]⟩)))
def slZ (v:SV) (f:Nat->Nat->R α):R α:=match v with
 | .slice a l _=>boolC (is0 a.off) (f a.nm l.den) (.stuck 7911)
 | _=>.stuck 7910
theorem qzt {v:SV} {f:Nat->Nat->R α} {φ:α->Prop} (h:∀ nm n,(∀ β x,v.den β=some x->∃ m,(SV.slice ⟨nm,.lit 0⟩ (.sym n) (.sym m)).den β=some x)->(f nm n).Sat φ):(slZ v f).Sat φ:=by
 unfold slZ
 split
 . rename_i a l c
   refine qta fun h0=>h _ _ fun β x hx => ?_
   obtain ⟨m,_,hm,_⟩:=qcf hx
   refine ⟨m,?_⟩
   rw [qjm h0] at hm
   exact hm
 . trivial
def loSm:Summ:=fun args H base=>qad args fun v=>slZ v fun nm n=>q2f (nth H nm) fun X k=>.need (n=k/\n<=1152921504606846976) (loX X n base)
theorem q9g {X:Nat->BitVec 8} {n m:Nat} {ds:List Bool} {ps:List Prop} {e:Int} (h:outO [] (ldT X n m none) ds=(ps,ldE e)) (hp:∀ p∈ps,p):Runs cfgLd 8 [.slice ⟨0,.lit 0⟩ (.sym n) (.sym m)] [rowF X n] fun v _=>v=errA e :=
 q8i qut (n:=20000) (q2b (t:=qfa cfgLd 20000 8 [.slice ⟨0,.lit 0⟩ (.sym n) (.sym m)] [rowF X n]) h hp fun _ _=>rfl)
theorem j0e {X:Nat->BitVec 8} {n m:Nat} (hz:n<=1152921504606846976) {w:World} {β:Val} {H:List SO} {base:Nat} {vs:List Value} (hE:∀ e,Runs cfgLd 8 [.slice ⟨0,.lit 0⟩ (.sym n) (.sym m)] [rowF X n] (fun v _=>v=errA e)->SumSem Tryd.prog H β w base 8 vs ⟨errA e,[],[]⟩)
  (hG:∀ es c sk lm cl fe,Runs cfgLd 8 [.slice ⟨0,.lit 0⟩ (.sym n) (.sym m)] [rowF X n] (fun v H=>v=.tuple [.ptr ⟨4,.lit 0⟩,.int .i64 (.lit 0)]/\H[3]? = some (.obj (.amap kMk uMk es c))/\H[4]? = some (chO 3 sk lm cl fe)) ->
   SumSem Tryd.prog H β w base 8 vs ⟨.tuple [.ptr ⟨base,.lit 0⟩,.int .i64 (.lit 0)],[],[chO (base+1) sk lm cl fe,.obj (.amap kMk uMk es c)]⟩):(loX X n base).Sat (SumSem Tryd.prog H β w base 8 vs):=by
 have hb:∀ o,bnI X o=((beN X o 8:Nat):Int):=fun o=>rfl
 have hI:=qic X
 by_cases hn:40<=n
 . have qA:∀ {r:List Prop},(∀ p∈r,p)->∀ p∈lhA X n r,p:=fun {r} hr=>all_cons (by rw [decide_eq_true (by omega)]; rfl) (all_cons (by omega) (all_cons hI (all_cons ⟨by omega,by omega⟩ (all_cons ⟨by omega,by omega⟩ hr))))
   have e1:rqN n / 40 % 18446744073709551616=(n - 40) / 40:=by rw [qus hn hz]; omega
   refine ⟨fun h => ?_,fun h => ?_⟩
   . rcases cBi.1 h with h | h
     . omega
     . refine hE 4 (q9g (lh_2 X n m) (qA (all_cons ?_ qba)))
       rw [e1,decide_eq_false (by rw [hb]; unfold cntI at h; omega)]; rfl
   . have h:¬ (n - 40) / 40<cntI X:=fun h'=>cB_f h (.inr h')
     have qB:∀ {r:List Prop},(∀ p∈r,p)->∀ p∈lhB X n r,p:=fun {r} hr=>qA (all_cons (by rw [e1,decide_eq_true (by rw [hb]; unfold cntI at h; omega)]; rfl) hr)
     have e2:qyc .u64 (Int.mul (bnI X 32) 40)=((cntI X * 40:Nat):Int):=by
      rw [qzc]
      have:Int.mul (bnI X 32) 40=((cntI X * 40:Nat):Int):=by
       show bnI X 32 * 40=_
       rw [hb]; unfold cntI; omega
      rw [this]
      exact qdt .u64 _ (by show cntI X * 40<=18446744073709551615; omega)
     have e3:((rqN n:Nat):Int)=((n - 40:Nat):Int):=by rw [qus hn hz]
     refine ⟨fun h2 => ?_,fun h2 => ?_⟩
     . have h2:=cBi.1 h2
       unfold qsd at h2
       refine hE 5 (q9g (lh_3 X n m) (qB (all_cons ?_ qba)))
       rw [e2,e3]
       have:(((cntI X * 40:Nat):Int) == ((n - 40:Nat):Int))=false:=by
        rw [beq_eq_false_iff_ne]; omega
       rw [this]; rfl
     . have h2:cntI X * 40=n - 40:=Decidable.of_not_not fun h'=>cB_f h2 h'
       have qC:∀ {r:List Prop},(∀ p∈r,p)->∀ p∈lhC X n r,p:=fun {r} hr=>qB (all_cons (by rw [e2,e3,h2]; simp) (all_cons hI (all_cons ⟨by omega,by omega⟩ (all_cons (by omega) (all_cons hI (all_cons ⟨by omega,by omega⟩ (all_cons (by omega) (all_cons hI (all_cons ⟨by omega,by omega⟩ (all_cons (by omega) (all_cons hI (all_cons ⟨by omega,by omega⟩ hr))))))))))))
       refine ⟨fun h3 => ?_,fun h3 => ?_⟩
       . obtain ⟨hh,he⟩:=cBi.1 h3
         refine hG _ _ _ _ _ _ (qlb (q60 hn hz hh h2) fun v H hd => ?_)
         rcases hd with ⟨_,h4,h5,h6⟩ | ⟨h4,_⟩
         . exact ⟨h4,h5,h6⟩
         . exact absurd he h4
       . have h3:=cB_f h3
         by_cases a1:beN X 0 8<=1048576
         . have qD:∀ {r:List Prop},(∀ p∈r,p)->∀ p∈lhD X n r,p:=fun {r} hr=>qC (all_cons (by rw [decide_eq_true (by rw [hb]; omega)]; rfl) hr)
           by_cases a2:1<=beN X 8 8
           . have qE:∀ {r:List Prop},(∀ p∈r,p)->∀ p∈lhE X n r,p:=fun {r} hr=>qD (all_cons (decide_eq_true (by rw [hb]; omega)) hr)
             by_cases a3:beN X 8 8<=65536
             . have qF:∀ {r:List Prop},(∀ p∈r,p)->∀ p∈lhF X n r,p:=fun {r} hr=>qE (all_cons (by rw [decide_eq_true (by rw [hb]; omega)]; rfl) hr)
               by_cases a4:cntI X<=beN X 8 8
               . have qG:∀ {r:List Prop},(∀ p∈r,p)->∀ p∈lhG X n r,p:=fun {r} hr=>qF (all_cons (by rw [decide_eq_true (by rw [hb,hb]; unfold cntI at a4; omega)]; rfl) hr)
                 by_cases a5:beN X 16 8<=1099511627776
                 . have qH:∀ {r:List Prop},(∀ p∈r,p)->∀ p∈lhH X n r,p:=fun {r} hr=>qG (all_cons (by rw [decide_eq_true (by rw [hb]; omega)]; rfl) hr)
                   by_cases a6:beN X 24 8<=1099511627776+1048576+1
                   . refine hE 6 (qlb (q60 hn hz ⟨a1,a2,a3,a4,a5,a6⟩ h2) fun v H hd => ?_)
                     rcases hd with ⟨he,_⟩ | ⟨_,h4⟩
                     . exact absurd ⟨⟨a1,a2,a3,a4,a5,a6⟩,he⟩ h3
                     . exact h4
                   . exact hE 6 (q9g (lh_9 X n m) (qH (all_cons (by rw [decide_eq_false (by rw [hb]; omega)]; rfl) qba)))
                 . exact hE 6 (q9g (lh_8 X n m) (qG (all_cons (by rw [decide_eq_false (by rw [hb]; omega)]; rfl) qba)))
               . exact hE 6 (q9g (lh_7 X n m) (qF (all_cons (by rw [decide_eq_false (by rw [hb,hb]; unfold cntI at a4; omega)]; rfl) qba)))
             . exact hE 6 (q9g (lh_6 X n m) (qE (all_cons (by rw [decide_eq_false (by rw [hb]; omega)]; rfl) qba)))
           . exact hE 6 (q9g (lh_5 X n m) (qD (q2c (decide_eq_false (by rw [hb]; omega)) 3)))
         . exact hE 6 (q9g (lh_4 X n m) (qC (all_cons (by rw [decide_eq_false (by rw [hb]; omega)]; rfl) qba)))
 . refine ⟨fun _=>hE 4 (q9g (lh_1 X n m) (all_cons (by rw [decide_eq_false (by omega)]; rfl) qba)),fun h=>absurd (Or.inl (by omega)) (cB_f h)⟩
theorem loOK:qdb Tryd.prog 8 loSm:=by
 intro glob O w0 β H w base args vs hH hG ha
 refine qob fun v hv=>qzt fun nm n hs=>qid fun X k hX => ?_
 rintro ⟨rfl,hz⟩
 rw [hv] at ha
 obtain ⟨x,xs,hx,hxs,rfl⟩:=denL_cons.1 ha
 rw [denL_nil] at hxs; subst hxs
 obtain ⟨m,hm⟩:=hs β x hx
 have hF:(Ifc.mk [nm] [rowF X n] [.slice ⟨0,.lit 0⟩ (.sym n) (.sym m)]).FitsQ H:=by
  refine Ifc.fitsQ (by simp) rfl ⟨⟨?_,fun _=>rfl⟩,trivial⟩
  obtain ⟨e,he,hq⟩:=hX (Ifc.big ⟨[nm],[rowF X n],[.slice ⟨0,.lit 0⟩ (.sym n) (.sym m)]⟩)
  rw [qca] at he
  exact ⟨e,he,hq⟩
 have hA:SV.denL β (SV.renL (Ifc.mk [nm] [rowF X n] [.slice ⟨0,.lit 0⟩ (.sym n) (.sym m)]).big [.slice ⟨0,.lit 0⟩ (.sym n) (.sym m)])=some [x]:=denL_cons.2 ⟨x,[],hm,rfl,rfl⟩
 refine j0e (m:=m) hz (fun e hr => ?_) fun es c sk lm cl fe hr => ?_
 . refine qxc (c:=cfgLd) hH ⟨[nm],[rowF X n],[.slice ⟨0,.lit 0⟩ (.sym n) (.sym m)]⟩ (by intro g j hg; cases hg) hA hF [] (by simp) (by simp) (qlb hr fun v H2 h => ?_)
   subst h
   exact ⟨.refl _,rfl,trivial,trivial⟩
 . refine qxc (c:=cfgLd) hH ⟨[nm],[rowF X n],[.slice ⟨0,.lit 0⟩ (.sym n) (.sym m)]⟩ (by intro g j hg; cases hg) hA hF [4,3] (by simp) (by simp) (qlb hr fun v H2 h => ?_)
   obtain ⟨rfl,h3,h4⟩:=h
   exact ⟨.refl _,rfl,trivial,⟨.inl ⟨_,_,_,_,h4,rfl,.refl _,rfl⟩,.inr ⟨_,_,h3,rfl,fun _ _ h=>h,rfl⟩,trivial⟩⟩
end
noncomputable section
open Go.Sim
open Go.Proofs
variable {α:Type}
set_option maxRecDepth 1000000
theorem j1e (x:BitVec 64) (i:Nat):(be8 x i).toNat=x.toNat / 2 ^ (56 - 8 * i) % 256:=by
 unfold be8
 rw [BitVec.toNat_setWidth,BitVec.toNat_ushiftRight,Nat.shiftRight_eq_div_pow]
structure ImgAt (es:List MapEntry) (sk lm cl fe:Int) (X:Nat->BitVec 8):Prop where
 b0:bnI X 0=sk
 b8:bnI X 8=lm
 b16:bnI X 16=cl
 b24:bnI X 24=fe+1
 b32:bnI X 32=((lsM es).length:Int)
 mks:∀ i (h:i<(lsM es).length),mkX X i=(lsM es)[i]
section
variable {es:List MapEntry} {c:Nat} {sk lm cl fe:Int}
end
end
noncomputable section
open Go.Sim
open Go.Proofs
variable {α:Type}
set_option maxRecDepth 1000000
theorem qxq (X:Nat->BitVec 8) (a:Nat):∀ k,beN X a (k+1)=256 ^ k * (X a).toNat+beN X (a+1) k
 | 0=>by show 256 * 0+(X (a+0)).toNat=_; simp [beN]
 | k+1=>by
   rw [beN,qxq X a k,beN,Nat.pow_succ,show a+(k+1)=a+1+k by omega,Nat.mul_add,← Nat.mul_assoc,Nat.mul_comm 256 (256 ^ k),Nat.add_assoc]
def nuR (X:Nat->BitVec 8) (a:Nat):Int:=if 0<(X a).toNat then 72057594037927936 else ((beN X a 8:Nat):Int)
theorem qbl (X:Nat->BitVec 8) (a:Nat):0<=nuR X a/\nuR X a<=72057594037927936/\nuR X a<=bnI X a/\(nuR X a<72057594037927936->nuR X a=bnI X a):=by
 unfold nuR bnI
 rw [qxq]
 have h7:=qal X (a+1) 7
 have e7:(256:Nat) ^ 7=72057594037927936:=by decide
 rw [e7] at h7 ⊢
 split
 . exact ⟨by omega,by omega,by omega,by omega⟩
 . have:(X a).toNat=0:=by omega
   rw [this]
   exact ⟨by omega,by omega,by omega,by omega⟩
section
variable (X:Nat->BitVec 8) (n m a:Nat) (v:Int) (r:Nat) (J:Junk) (z:Nat->Nat->Nat)
def nrT (st:Option (Nat × Nat)):Tree:=qfa (cfgP0.at st) 20000 29 [.slice ⟨0,.lit 0⟩ (.sym n) (.sym m),.int .i64 (.sym (a:Int))] [rowF X n]
def nrC:Cut:=⟨qqd (qpd (nrT X n m a (some (1,3))) [false]).frames [[(0,.slice ⟨0,.lit 0⟩ (.sym n) (.sym m)),(1,.int .i64 (.sym (a:Int))),(5,.int .i64 (.sym v)),(6,.int .i64 (.sym ((a+1+r:Nat):Int)))]],[.ent (rowF X n)]⟩
def nr1 (st:Option (Nat × Nat)):Tree:=sim1 (cfgP0.at st) 20000 ((nrC X n m a v r).fill J)
def nrP (b:Bool) (q:List Prop):List Prop:=ixP a n::(0+a * 1<n)::(decide (((X (0+a * 1)).toNat:Int) > 0)=b)::q
def nrV:Int:=qyc .i64 (Int.mul 256 v)+((X (0+(a+1+r) * 1)).toNat:Int)
theorem nr_hi:outO [] (nrT X n m a none) [true]=(nrP X n a true [],some (.int .i64 (.lit 72057594037927936),[])):=by kernel_rfl
theorem nr_i:outL [] (nrC X n m a 0 0) [0] (nrT X n m a (some (1,3))) [false] z=(nrP X n a false [nxI a],some (.inr (qeb [(0,5,.int .i64 (.lit 0))] [] (qqa [0] 1 (nrC X n m a 0 0))))):=by kernel_rfl
theorem j2e:outL [] (nrC X n m a (nrV X a v r) (r+1)) [0] (nr1 X n m a v r J (some (1,3))) [true] z=([qpa ((a+8:Nat):Int),decide (((a+1+r:Nat):Int)<((a+8:Nat):Int))=true,ixP (a+1+r) n,0+(a+1+r) * 1<n,qpa (nrV X a v r),nxI (a+1+r)],some (.inr (qqa [0] 1 (nrC X n m a (nrV X a v r) (r+1))))):=by kernel_rfl
theorem juh:outL [] (nrC X n m a v r) [0] (nr1 X n m a v r J none) [false] z=([qpa ((a+8:Nat):Int),decide (((a+1+r:Nat):Int)<((a+8:Nat):Int))=false],some (.inl (.int .i64 (.sym v),[]))):=by kernel_rfl
theorem jvh:(((nrC X n m a v r).frames[0]?).bind fun p=>p.tmps[5]?)=some (some (.int .i64 (.sym v))):=by kernel_rfl
theorem nr_n:boolC (q5a 1 [0] (nrC X n m a v r) (nrC X n m a v r)) (allN qwa (nrC X n m a v r).heap) false=true:=by kernel_rfl
end
theorem j3e {X:Nat->BitVec 8} {n m a:Nat} (h:a+8<=n) (hz:n<=1152921504606846976):Runs cfgP0 29 [.slice ⟨0,.lit 0⟩ (.sym n) (.sym m),.int .i64 (.sym (a:Int))] [rowF X n] fun v _=>∃ w:SI,v=.int .i64 w/\w.den=nuR X a:=by
 by_cases h0:0<(X a).toNat
 . refine q8i cfgP0OK (n:=20000) (q2b (nr_hi X n m a) (all_cons ⟨by omega,by omega⟩ (all_cons (by omega) (all_cons (decide_eq_true (by rw [Nat.zero_add,Nat.mul_one]; omega)) qba))) fun H _=>⟨_,rfl,?_⟩)
   unfold nuR
   rw [if_pos h0]
   rfl
 have hX:(X a).toNat=0:=by omega
 have e8:beN X a 8=beN X (a+1) 7:=by rw [qxq,hX]; omega
 refine quc cfgP0OK (fun r=>nrC X n m a ((beN X (a+1) r:Nat):Int) r) (fun r=>r<=7) (fun r=>7 - r) (fun g nm hg=>by cases hg) ?_ fun r hr J => ?_
 . refine qwc (ms:=[(0,5,.int .i64 (.lit 0))]) (es:=[]) (ds:=[false]) (names:=[0]) (N:=1) (M:=nrC X n m a 0 0) (some (1,3)) 20000 0 (Nat.zero_le _) (fun z=>nr_i X n m a z) (nr_n X n m a 0 0) (fun q hq p v hp hv => ?_) (fun e he=>by cases he)
    (all_cons ⟨by omega,by omega⟩ (all_cons (by omega) (all_cons (decide_eq_false (by rw [Nat.zero_add,Nat.mul_one]; omega)) (all_cons ⟨by omega,by omega⟩ qba))))
   obtain rfl:=List.mem_singleton.1 hq
   exact qtd (jvh X n m a 0 0) hp hv (qza rfl)
 . have hr:r<=7:=hr
   have hb:=qal X (a+1) r
   by_cases h7:r<7
   . have hp:(256:Nat) ^ r<=256 ^ 6:=Nat.pow_le_pow_right (by omega) (by omega)
     have h6:(256:Nat) ^ 6=281474976710656:=by decide
     have hx:=(X (a+1+r)).isLt
     have ev:nrV X a ((beN X (a+1) r:Nat):Int) r=((beN X (a+1) (r+1):Nat):Int):=by
      unfold nrV
      rw [qzc,wrap_i64 ⟨by show _<=(256:Int) * _; omega,by show (256:Int) * _<=_; omega⟩,beN,Nat.zero_add,Nat.mul_one]
      show (256:Int) * _+_=_
      omega
     have hr1:=fun z=>j2e X n m a ((beN X (a+1) r:Nat):Int) r J z
     rw [ev] at hr1
     have hb1:=qal X (a+1) (r+1)
     have hp1:(256:Nat) ^ (r+1)<=256 ^ 7:=Nat.pow_le_pow_right (by omega) (by omega)
     have h77:(256:Nat) ^ 7=72057594037927936:=by decide
     exact qtc (some (1,3)) 20000 (r+1) ⟨h7,by omega⟩ hr1 (nr_n X n m a _ (r+1))
      (all_cons ⟨by omega,by omega⟩ (all_cons (decide_eq_true (by omega)) (all_cons ⟨by omega,by omega⟩ (all_cons (by omega) (all_cons ⟨by omega,by omega⟩ (all_cons ⟨by omega,by omega⟩ qba))))))
   . obtain rfl:r=7:=by omega
     refine q7b (js:=[]) (names:=[0]) (M:=nrC X n m a ((beN X (a+1) 7:Nat):Int) 7) none 20000 (fun z=>juh X n m a ((beN X (a+1) 7:Nat):Int) 7 J z) (all_cons ⟨by omega,by omega⟩ (all_cons (decide_eq_false (by omega)) qba)) fun H _=>⟨_,rfl,?_⟩
     unfold nuR
     rw [if_neg h0,e8]
     rfl
def j4c:Summ:=fun args H _=>qhe args fun v a=>slZ v fun nm n=>q2f (nth H nm) fun X k=>optC (i64V a) (.stuck 7999) fun a=>.need (n=k/\n<=1152921504606846976/\0<=a.den/\a.den+8<=n) (.ok ⟨.int .i64 (.sym (nuR X a.den.toNat)),[],[]⟩)
theorem nurOK:qdb Tryd.prog 29 j4c:=by
 intro glob O w0 β H w base args vs hH hG ha
 refine q6b fun v u hv=>qzt fun nm n hs=>qid fun X k hX=>qka fun a hu => ?_
 rintro ⟨rfl,hz,h0,h8⟩
 rw [hv,qgi hu] at ha
 obtain ⟨x,xs,hx,hxs,rfl⟩:=denL_cons.1 ha
 obtain ⟨y,ys,hy,hys,rfl⟩:=denL_cons.1 hxs
 rw [denL_nil] at hys; subst hys
 obtain ⟨m,hm⟩:=hs β x hx
 have ea:a.den=((a.den.toNat:Nat):Int):=by omega
 refine qxc (c:=cfgP0) hH ⟨[nm],[rowF X n],[.slice ⟨0,.lit 0⟩ (.sym n) (.sym m),.int .i64 (.sym ((a.den.toNat:Nat):Int))]⟩ (by intro g j hg; cases hg) ?_ (Ifc.fitsQ (by simp) rfl ⟨⟨?_,fun _=>rfl⟩,trivial⟩) [] (by simp) (by simp) (qlb (j3e (a:=a.den.toNat) (by omega) hz) fun v H2 ⟨w,hw,he⟩ => ?_)
 . exact denL_cons.2 ⟨x,[y],hm,denL_cons.2 ⟨y,[],(qza ea) _ _ hy,rfl,rfl⟩,rfl⟩
 . obtain ⟨e,he,hq⟩:=hX (Ifc.big ⟨[nm],[rowF X n],[.slice ⟨0,.lit 0⟩ (.sym n) (.sym m),.int .i64 (.sym ((a.den.toNat:Nat):Int))]⟩)
   rw [qca] at he
   exact ⟨e,he,hq⟩
 . subst hw
   exact ⟨qza he,rfl,trivial,trivial⟩
end
noncomputable section
open Go.Sim
open Go.Proofs
variable {α:Type}
set_option maxRecDepth 1000000
section
variable (sk lm:Int)
end
def nwP (sk lm:Int):Prop:=(0<=sk/\sk<=1048576)/\1<=lm/\lm<=65536
end
noncomputable section
open Go.Sim
open Go.Proofs
variable {α:Type}
set_option maxRecDepth 1000000
structure RfD where
 sk:SI
 lm:SI
 cl:SI
 fe:SI
 nm:Nat
 V:Nat->Value
 N:Nat
 n:SN
 nil:Bool
def RfD.l (d:RfD):List Mk:=mkL d.V d.n.den
def rfC (v:SV):Option ((SI × SI × SI × SI) × SV):=match v with
 | .agg [.int .i64 a,.int .i64 b,.int .i64 c,.int .i64 d,L]=>some ((a,b,c,d),L)
 | _=>none
theorem quy {v:SV} {r:(SI × SI × SI × SI) × SV} (h:rfC v=some r):v=.agg [.int .i64 r.1.1,.int .i64 r.1.2.1,.int .i64 r.1.2.2.1,.int .i64 r.1.2.2.2,r.2]:=by
 unfold rfC at h
 split at h
 . cases h; rfl
 . cases h
def nilB (v:SV):Bool:=match v with
 | .nilSlice=>true
 | _=>false
theorem qn7 {v:SV} (h:nilB v=true):v=.nilSlice:=by
 unfold nilB at h
 split at h
 . rfl
 . cases h
def slR (v:SV):Option (Nat × SN):=match v with
 | .slice a l (.rest b k)=>boolC (is0 a.off) (boolC (Nat.beq a.nm b) (boolC (Nat.beq k 0) (some (b,l)) none) none) none
 | _=>none
theorem jia {v:SV} {r:Nat × SN} (h:slR v=some r):v=.slice ⟨r.1,.lit 0⟩ r.2 (.rest r.1 0):=by
 unfold slR at h
 split at h
 . rename_i a l b k
   cases h0:is0 a.off with
   | false=>rw [h0] at h; cases h
   | true =>
     cases h1:Nat.beq a.nm b with
     | false=>rw [h0,h1] at h; cases h
     | true =>
       cases h2:Nat.beq k 0 with
       | false=>rw [h0,h1,h2] at h; cases h
       | true =>
         rw [h0,h1,h2] at h
         cases h
         obtain ⟨nm,off⟩:=a
         obtain rfl:=qjm h0
         obtain rfl:nm=b:=Nat.eq_of_beq_eq_true h1
         obtain rfl:k=0:=Nat.eq_of_beq_eq_true h2
         rfl
 . cases h
def rawR (e:SO):Option ((Nat->Value) × Nat):=match e with
 | .own (.raw V n) _ _=>some (V,n)
 | .row (.raw V n)=>some (V,n)
 | _=>none
theorem qo7 {e:SO} {r:(Nat->Value) × Nat} (h:rawR e=some r):e=.row (.raw r.1 r.2)\/∃ w el,e=.own (.raw r.1 r.2) w el:=by
 unfold rawR at h
 split at h
 . cases h; exact .inr ⟨_,_,rfl⟩
 . cases h; exact .inl rfl
 . cases h
def rfV (H:List SO) (v:SV) (f:RfD->R α):R α:=optC (rfC v) (.stuck 7985) fun r =>
 boolC (nilB r.2) (f ⟨r.1.1,r.1.2.1,r.1.2.2.1,r.1.2.2.2,0,fun _=>undef,0,.lit 0,true⟩)
  (optC (slR r.2) (.stuck 7986) fun s=>optC (nth H s.1) (.stuck 7987) fun e=>optC (rawR e) (.stuck 7988) fun q=>f ⟨r.1.1,r.1.2.1,r.1.2.2.1,r.1.2.2.2,s.1,q.1,q.2,s.2,false⟩)
def RfD.L (d:RfD):SV:=boolC d.nil .nilSlice (.slice ⟨d.nm,.lit 0⟩ d.n (.rest d.nm 0))
structure RfIn (H:List SO) (v:SV) (d:RfD):Prop where
 val:v=.agg [.int .i64 d.sk,.int .i64 d.lm,.int .i64 d.cl,.int .i64 d.fe,d.L]
 row:d.nil=false->∃ e,H[d.nm]? = some e/\(e=.row (.raw d.V d.N)\/∃ w el,e=.own (.raw d.V d.N) w el)
 nl:d.nil=true->d.n=.lit 0
theorem q70 {H:List SO} {v:SV} {f:RfD->R α} {φ:α->Prop} (h:∀ d,RfIn H v d->(f d).Sat φ):(rfV H v f).Sat φ:=by
 refine qka fun r hr=>R.Sat.boolC (fun hn => ?_) fun hn=>qka fun s hs=>qka fun e he=>qka fun q hq => ?_
 . refine h _ ⟨by rw [quy hr,qn7 hn]; rfl,fun h=>(by cases h),fun _=>rfl⟩
 . rw [qca] at he
   refine h _ ⟨?_,fun _=>⟨_,he,qo7 hq⟩,fun h=>(by cases h)⟩
   have h1:=quy hr
   rw [jia hs] at h1
   exact h1
structure RfD.w (d:RfD):Prop where
 row:d.nil=false->d.n.den * 33<=d.N/\MkV d.V d.n.den
 ls:LsW d.l d.sk.den d.lm.den d.cl.den d.fe.den
theorem RfD.len {d:RfD}:d.l.length=d.n.den:=qle _ _
def RfD.a (d:RfD) (L:SV):SV:=rfA d.sk.den d.lm.den d.cl.den d.fe.den L
theorem qvy {d:RfD} {L L':SV} (h:L.Imp L'):(SV.agg [.int .i64 d.sk,.int .i64 d.lm,.int .i64 d.cl,.int .i64 d.fe,L]).Imp (d.a L') :=
 q5o (qla (qza rfl) (qla (qza rfl) (qla (qza rfl) (qla (qza rfl) (qla h q3b)))))
def rfI (d:RfD) (ar:List SV):Ifc:=⟨[d.nm],[rfW (rowM d.l) d.l.length],d.a (rfL 0 d.l.length)::ar⟩
theorem jja {H:List SO} {v:SV} {d:RfD} (h:RfIn H v d) (hw:d.w) (hn:d.nil=false) {ar:List SV} (hu:SV.usesL (rfI d ar).known ar=true):(rfI d ar).FitsQ H:=by
 obtain ⟨e,he,ho⟩:=h.row hn
 obtain ⟨h1,h2⟩:=hw.row hn
 refine Ifc.fitsQ (by show [d.nm].Nodup; simp) (by show (true && SV.usesL (rfI d ar).known ar)=true; rw [hu]; rfl) ⟨⟨⟨_,he,_,ho,fun γ vs ⟨g1,g2⟩=>⟨d.l.length * 33,?_,fun i x hx => ?_⟩⟩,trivial⟩,trivial⟩
 . have:=RfD.len (d:=d)
   rw [List.length_take]; omega
 . have hi:i<d.l.length * 33:=by
    have:=(List.getElem?_eq_some_iff.1 hx).1
    rw [List.length_take] at this; omega
   rw [List.getElem?_take,if_pos hi] at hx
   rw [g2 i x hx]
   exact qaj h2 i (by rw [← RfD.len (d:=d)]; exact hi)
theorem jwh {H:List SO} {v:SV} {d:RfD} (_h:RfIn H v d) (hn:d.nil=false) {ar:List SV}:(SV.agg [.int .i64 d.sk,.int .i64 d.lm,.int .i64 d.cl,.int .i64 d.fe,d.L]).Imp ((d.a (rfL 0 d.l.length)).ren (rfI d ar).big):=by
 have e:(d.a (rfL 0 d.l.length)).ren (rfI d ar).big=d.a (.slice ⟨d.nm,.lit 0⟩ (.sym d.l.length) (.rest d.nm 0)):=rfl
 rw [e]
 refine qvy ?_
 unfold RfD.L
 rw [hn]
 exact qre (RfD.len (d:=d)).symm
theorem qp7 {H:List SO} {v:SV} {d:RfD} (h:RfIn H v d) (hn:d.nil=true):v.Imp (d.a .nilSlice)/\d.l=[]:=by
 refine ⟨?_,?_⟩
 . rw [h.val]
   refine qvy ?_
   unfold RfD.L
   rw [hn]
   exact .refl _
 . unfold RfD.l
   rw [h.nl hn]; rfl
def rfOk (d:RfD) (base:Nat) (k fe:Int) (f:List Mk) (e:Int):R SumRes :=
 .fork f.isEmpty (.ok ⟨tup2 (rfA d.sk.den d.lm.den k fe .nilSlice) e,[],[]⟩) (.ok ⟨tup2 (rfA d.sk.den d.lm.den k fe (rfL base f.length)) e,[],[rfR (rowM f) f.length]⟩)
theorem q80 {l m:List SV} (h:SV.ImpL l m):(SV.tuple l).Imp (.tuple m):=fun β x hx=>by
 simp only [SV.den] at hx ⊢
 cases hl:SV.denL β l with
 | none=>rw [hl] at hx; cases hx
 | some vs=>rw [h β _ hl]; rw [hl] at hx; exact hx
theorem j4e {P:Program} {H:List SO} {O:Nat->Prop} {w0 w:World} {β:Val} {base:Nat} {f:FuncId} {vs:List Value} {c:Cfg} (hc:c.P=P) (hH:HeapRel0 c.P O w0 β H w) {I:Ifc} (hgl:∀ g j,c.glob g=some j->I.known j=true/\∃ l,β (I.big j)=some l/\l.blk=g/\l.off=0) (ha:SV.denL β (SV.renL I.big I.args)=some vs) (hI:I.FitsQ H) (ho:q1c I.ents 0=[]) {d:RfD} {k fe e:Int} {l:List Mk}
  (hr:Runs c f I.args I.ents fun v H=>∃ b,I.names.length<=b/\qa4 d.sk.den d.lm.den fe k l e b v H):(rfOk d base k fe l e).Sat (SumSem P H β w base f vs):=by
 subst hc
 refine ⟨fun hn => ?_,fun hn => ?_⟩
 . refine qxc hH I hgl ha hI [] (by simp) (by simp) (qlb hr fun v H2 ⟨b,_,h⟩ => ?_)
   rcases h with ⟨_,rfl⟩ | ⟨h,_⟩
   . exact ⟨.refl _,rfl,by rw [ho]; trivial,trivial⟩
   . exact absurd (by simpa using hn) h
 . refine qa7 hH I hgl ha hI (qlb hr fun v H2 ⟨b,hb,h⟩=>⟨[b],by simpa using hb,by simp,?_⟩)
   rcases h with ⟨h,_⟩ | ⟨h,nl,hnl,rfl,cl,h1,h2,h3⟩
   . rw [h] at hn; cases hn
   . refine ⟨?_,?_,by rw [ho]; trivial,⟨.inl ⟨_,_,_,_,h1,h2 _,h3 _,rfl⟩,trivial⟩⟩
     . have e1:(tup2 (rfA d.sk.den d.lm.den k fe (.slice ⟨b,.lit 0⟩ nl (.rest b 0))) e).ren (I.out base [b])=tup2 (rfA d.sk.den d.lm.den k fe (.slice ⟨I.out base [b] b,.lit 0⟩ nl (.rest (I.out base [b] b) 0))) e:=rfl
       rw [e1,out1 hb]
       exact q80 (qla (q5o (qla (.refl _) (qla (.refl _) (qla (.refl _) (qla (.refl _) (qla (qre hnl) q3b)))))) (qla (.refl _) q3b))
     . show ((true && (true && (true && (true && ((I.seen [b] b && (true && I.seen [b] b)) && true))))) && (true && true))=true
       rw [qhw]; rfl
end
noncomputable section
open Go.Sim
open Go.Proofs
variable {α:Type}
set_option maxRecDepth 1000000
end
noncomputable section
open Go.Sim
open Go.Proofs
variable {α:Type}
set_option maxRecDepth 1000000
section
variable (sk lm:Int)
def rnT:Tree:=qfa cfgP0 20000 19 [.int .i64 (.sym sk),.int .i64 (.sym lm)] []
def rnZ:SV:=.agg [.int .i64 (.lit 0),.int .i64 (.lit 0),.int .i64 (.lit 0),.int .i64 (.lit 0),.nilSlice]
def rnX:Option (SV × List (Option SO)):=some (.tuple [rnZ,.int .i64 (.lit 2)],[])
def rnV:SV:=.agg [.int .i64 (.sym sk),.int .i64 (.sym lm),.int .i64 (.lit 0),.int .i64 (.lit (-1)),.nilSlice]
theorem rn_1:outO [] (rnT sk lm) [true,true,true]=(repN (decide (sk<0)=true) 3,rnX):=by kernel_rfl
theorem rn_2:outO [] (rnT sk lm) [false,true,true,true]=((decide (sk<0)=false)::repN (decide (sk > 1048576)=true) 3,rnX):=by kernel_rfl
theorem rn_3:outO [] (rnT sk lm) [false,false,true,true,true]=((decide (sk<0)=false)::(decide (sk > 1048576)=false)::repN (decide (lm<1)=true) 3,rnX):=by kernel_rfl
theorem rn_4:outO [] (rnT sk lm) [false,false,false,true]=([decide (sk<0)=false,decide (sk > 1048576)=false,decide (lm<1)=false,decide (lm > 65536)=true],rnX):=by kernel_rfl
theorem rn_ok:outO [] (rnT sk lm) [false,false,false,false]=([decide (sk<0)=false,decide (sk > 1048576)=false,decide (lm<1)=false,decide (lm > 65536)=false],some (.tuple [rnV sk lm,.int .i64 (.lit 0)],[])):=by kernel_rfl
end
def j5c:Summ:=fun args _ _=>qhe args fun a b=>optC (i64V a) (.stuck 7931) fun a=>optC (i64V b) (.stuck 7931) fun b =>
 .fork (cB (nwP a.den b.den)) (.ok ⟨.tuple [rfA a.den b.den 0 (-1) .nilSlice,.int .i64 (.lit 0)],[],[]⟩) (.ok ⟨.tuple [rnZ,.int .i64 (.lit 2)],[],[]⟩)
theorem rnwOK:qdb Tryd.prog 19 j5c:=by
 intro glob O w0 β H w base args vs hH hG ha
 refine q6b fun p q hv=>qka fun a hp=>qka fun b hq => ?_
 rw [hv,qgi hp,qgi hq] at ha
 have hA:SV.denL β (SV.renL (Ifc.mk [] [] [.int .i64 (.sym a.den),.int .i64 (.sym b.den)]).big [.int .i64 (.sym a.den),.int .i64 (.sym b.den)])=some vs:=qla (qza rfl) (qla (qza rfl) q3b) _ _ ha
 have hF:(Ifc.mk [] [] [.int .i64 (.sym a.den),.int .i64 (.sym b.den)]).FitsQ H:=Ifc.fitsQ (by simp) rfl trivial
 have go:∀ {ds ps v v'},outO [] (rnT a.den b.den) ds=(ps,some (v,[]))->(∀ p∈ps,p)->(∀ g,(v.ren g).Imp v')->(∀ p,v.uses p=true)->SumSem Tryd.prog H β w base 19 vs ⟨v',[],[]⟩:=fun {ds ps v v'} hr hp hi hu =>
  qqc cfgP0OK 20000 hH ⟨[],[],[.int .i64 (.sym a.den),.int .i64 (.sym b.den)]⟩ (by intro g j hg; cases hg) hA hF [] (by simp) (by simp) (q2b hr hp fun _ _=>⟨hi _,hu _,trivial,trivial⟩)
 refine ⟨fun hc => ?_,fun hc => ?_⟩
 . obtain ⟨⟨h1,h2⟩,h3,h4⟩:=cBi.1 hc
   exact go (rn_ok a.den b.den) (all_cons (decide_eq_false (by omega)) (all_cons (decide_eq_false (by omega)) (all_cons (decide_eq_false (by omega)) (all_cons (decide_eq_false (by omega)) qba)))) (fun _=>q80 (qla (q5o (qla (.refl _) (qla (.refl _) (qla (qza rfl) (qla (qza rfl) (qla (.refl _) q3b)))))) (qla (.refl _) q3b))) (fun _=>rfl)
 . have hc:¬ nwP a.den b.den:=fun h=>by rw [q3c h] at hc; cases hc
   have gx:∀ {ds ps},outO [] (rnT a.den b.den) ds=(ps,rnX)->(∀ p∈ps,p)->SumSem Tryd.prog H β w base 19 vs ⟨.tuple [rnZ,.int .i64 (.lit 2)],[],[]⟩:=fun {ds ps} hr hp=>go hr hp (fun _=>.refl _) (fun _=>rfl)
   by_cases h1:a.den<0
   . exact gx (rn_1 a.den b.den) (q2c (decide_eq_true h1) 3)
   by_cases h2:a.den > 1048576
   . exact gx (rn_2 a.den b.den) (all_cons (decide_eq_false h1) (q2c (decide_eq_true h2) 3))
   by_cases h3:b.den<1
   . exact gx (rn_3 a.den b.den) (all_cons (decide_eq_false h1) (all_cons (decide_eq_false h2) (q2c (decide_eq_true h3) 3)))
   by_cases h4:b.den > 65536
   . exact gx (rn_4 a.den b.den) (all_cons (decide_eq_false h1) (all_cons (decide_eq_false h2) (all_cons (decide_eq_false h3) (all_cons (decide_eq_true h4) qba))))
   . exact absurd ⟨⟨by omega,by omega⟩,by omega,by omega⟩ hc
end
noncomputable section
open Go.Sim
open Go.Proofs
open Go.Shelf Go.Sort
variable {α:Type}
set_option maxRecDepth 1000000
section
variable (m n:Mk)
def leT:Tree:=qfa cfgP0 20000 31 [mkS m,mkS n] []
def dgBs:List UInt8:=(bytesOf (mapN (fun j=>SI.b8 (m.2.at j)) (qra 32 0))).data.toList
theorem le_ne:outO [] (leT m n) [true]=([(m.1 != n.1)=true],some (.bool (.sym (decide (m.1<n.1))),[])):=by kernel_rfl
theorem le_eq:outO [] (leT m n) [false]=([(m.1 != n.1)=false],some (.bool (.sym (Op.bytesLess (dgBs m) (dgBs n))),[])):=by kernel_rfl
end
theorem q90 (m:Mk):dgBs m=m.2.1.data.toList:=by
 have h:=q8u m.2
 have e:(dgOf m.2.at).1.data.toList=(List.range 32).map fun j=>UInt8.ofBitVec (m.2.at j):=by
  unfold dgOf
  simp
 rw [← h,e]
 unfold dgBs bytesOf
 rw [qja,qya,← List.range_eq_range',List.map_map]
 show ((List.range 32).map _).toArray.toList=_
 rw [List.toList_toArray]
 refine List.map_congr_left fun j _ => ?_
 show UInt8.ofNat ((((m.2.at j).toNat:Nat):Int).toNat)=_
 exact qly _
def leSm:Summ:=fun args _ _=>qhe args fun a b=>optC (mkV a) (.stuck 7991) fun m=>optC (mkV b) (.stuck 7991) fun n=>.ok ⟨.bool (.sym (cB (mkLt m n))),[],[]⟩
theorem j5e (m n:Mk):Op.bytesLess (dgBs m) (dgBs n)=decide (m.2.1.data.toList<n.2.1.data.toList):=by
 rw [q90,q90]; exact bytesLess_eq _ _
theorem leOK:qdb Tryd.prog 31 leSm:=by
 intro glob O w0 β H w base args vs hH hG ha
 refine q6b fun a b hv=>qka fun m hm=>qka fun n hn => ?_
 rw [hv] at ha
 have ha:=qla (qph hm) (qla (qph hn) q3b) _ _ ha
 have hr:∀ (f:Nat->Nat) (m:Mk),(mkS m).ren f=mkS m:=fun f m=>by kernel_rfl
 have hu:∀ (p:Nat->Bool) (m:Mk),(mkS m).uses p=true:=fun p m=>by kernel_rfl
 have go:∀ {ds ps} {b:Bool},outO [] (leT m n) ds=(ps,some (.bool (.sym b),[]))->(∀ p∈ps,p)->b=cB (mkLt m n)->SumSem Tryd.prog H β w base 31 vs ⟨.bool (.sym (cB (mkLt m n))),[],[]⟩:=fun {ds ps b} hrun hp hb=>by
  refine qqc cfgP0OK 20000 hH ⟨[],[],[mkS m,mkS n]⟩ (by intro g j hg; cases hg) ?_ (Ifc.fitsQ (by simp) (by show ((mkS m).uses _ && ((mkS n).uses _ && true))=true; rw [hu,hu]; rfl) trivial) [] (by simp) (by simp) (q2b hrun hp fun H2 _=>⟨?_,rfl,trivial,trivial⟩)
  . show SV.denL β [(mkS m).ren _,(mkS n).ren _]=_
    rw [hr,hr]; exact ha
  . rw [← hb]; exact .refl _
 by_cases c:m.1=n.1
 . refine go (le_eq m n) (all_cons (by simp [c]) qba) ?_
   rw [j5e,Bool.eq_iff_iff,cBi,decide_eq_true_iff]
   unfold mkLt
   exact ⟨fun h=>.inr ⟨c,h⟩,fun h=>by
    rcases h with h | h
    . omega
    . exact h.2⟩
 . refine go (le_ne m n) (all_cons (by simp [c]) qba) ?_
   rw [Bool.eq_iff_iff,cBi,decide_eq_true_iff]
   unfold mkLt
   exact ⟨fun h=>.inl h,fun h=>by
    rcases h with h | h
    . exact h
    . exact absurd h.1 c⟩
end
noncomputable section
open Go.Sim
open Go.Proofs
variable {α:Type}
set_option maxRecDepth 1000000
def rtT (t:Int):Tree:=qfa cfgP0 20000 30 [.int .i64 (.sym t)] []
theorem rt_1 (t:Int):outO [] (rtT t) [true]=([decide (t>=0)=true],some (.bool (.sym (decide (t<=1099511627776))),[])):=by kernel_rfl
theorem rt_0 (t:Int):outO [] (rtT t) [false,false,false]=(repN (decide (t>=0)=false) 3,some (.bool (.lit false),[])):=by kernel_rfl
def rtSm:Summ:=fun args _ _=>qad args fun v=>optC (i64V v) (.stuck 8001) fun t=>.ok ⟨.bool (.sym (cB (vTm t.den))),[],[]⟩
theorem rtOK:qdb Tryd.prog 30 rtSm:=by
 intro glob O w0 β H w base args vs hH hG ha
 refine qob fun v hv=>qka fun t ht => ?_
 rw [hv,qgi ht] at ha
 have hA:SV.denL β (SV.renL (Ifc.mk [] [] [.int .i64 (.sym t.den)]).big [.int .i64 (.sym t.den)])=some vs:=qla (qza rfl) q3b _ _ ha
 have go:∀ {ds ps b},outO [] (rtT t.den) ds=(ps,some (.bool b,[]))->(∀ p∈ps,p)->b.den=cB (vTm t.den)->SumSem Tryd.prog H β w base 30 vs ⟨.bool (.sym (cB (vTm t.den))),[],[]⟩:=fun {ds ps b} hr hp hb =>
  qqc cfgP0OK 20000 hH ⟨[],[],[.int .i64 (.sym t.den)]⟩ (by intro g j hg; cases hg) hA (q6j rfl).q [] (by simp) (by simp) (q2b hr hp fun H2 _=>q86 rfl ⟨_,rfl,hb⟩)
 by_cases h0:t.den>=0
 . refine go (rt_1 t.den) (all_cons (decide_eq_true h0) qba) ?_
   by_cases h1:t.den<=1099511627776
   . rw [q3c (show vTm t.den from ⟨h0,h1⟩)]; exact decide_eq_true h1
   . rw [qtb (show ¬ vTm t.den from fun h=>h1 h.2)]; exact decide_eq_false h1
 . refine go (rt_0 t.den) (q2c (decide_eq_false h0) 3) ?_
   rw [qtb (show ¬ vTm t.den from fun h=>h0 h.1)]; rfl
end
noncomputable section
open Go.Sim
open Go.Proofs
variable {α:Type}
set_option maxRecDepth 1000000
section
variable (W:Nat->Value) (n:Nat) (sk lm cl k fe t now:Int) (d:Dg) (U:Nat->Value) (q:Nat) (i:Nat) (V:Nat->Value) (m:Nat) (J:Junk) (z:Nat->Nat->Nat)
end
end
noncomputable section
open Go.Sim
open Go.Proofs
variable {α:Type}
set_option maxRecDepth 1000000
def seeW (W:Nat->Value) (o:Nat):List SV:=.int .i64 (.sym (vNum (W (o+0))))::mapN (fun j=>.int .u8 (.b8 (BitVec.ofInt 8 (vNum (W (o+(j+1))))))) (qra 32 0)
def keyC (x:Mk):List Value:=.int .i64 x.1::mapN (fun j=>.int .u8 ((x.2.at j).toNat:Int)) (qra 32 0)
def catX (V:Nat->Value) (m:Nat) (x:Mk):Nat->Value:=catV (fun j=>V (0+j)) (m * 33) fun j=>atV (keyC x) (0+j)
section
variable (W:Nat->Value) (n:Nat) (sk lm cl k fe t now:Int) (d:Dg) (U:Nat->Value) (q:Nat) (i:Nat) (V:Nat->Value) (m:Nat) (J:Junk) (z:Nat->Nat->Nat)
end
end
noncomputable section
open Go.Sim
open Go.Proofs
variable {α:Type}
set_option maxRecDepth 1000000
theorem jxh (x y:SB):(andS x y).den=(x.den && y.den):=by
 cases x with
 | lit a=>cases a <;> cases y <;> rfl
 | sym a =>
   cases y with
   | lit b =>
     cases b
     . show false=(a && false); simp
     . show a=(a && true); simp
   | sym b=>rfl
theorem qwy (f g:Nat->BitVec 8):∀ l:List Nat,∃ s,q8c (List.replicate l.length .i) (l.map fun j=>SV.int .u8 (.b8 (f j))) (l.map fun j=>SV.int .u8 (.b8 (g j)))=some s/\(s.den=true↔∀ j∈l,f j=g j)
 | []=>⟨.lit true,rfl,by simp [SB.den]⟩
 | a::l=>by
   obtain ⟨s,h1,h2⟩:=qwy f g l
   refine ⟨andS (.sym (((f a).toNat:Int) == ((g a).toNat:Int))) s,?_,?_⟩
   . show ((some (SB.sym (((f a).toNat:Int) == ((g a).toNat:Int)))).bind fun x=>(q8c (List.replicate l.length .i) (l.map fun j=>SV.int .u8 (.b8 (f j))) (l.map fun j=>SV.int .u8 (.b8 (g j)))).map fun y=>andS x y)=_
     rw [h1]; rfl
   . rw [jxh,Bool.and_eq_true,h2]
     show ((((f a).toNat:Int) == ((g a).toNat:Int))=true/\_)↔_
     rw [beq_iff_eq]
     constructor
     . rintro ⟨k1,k2⟩ j hj
       rcases List.mem_cons.1 hj with rfl | hj
       . exact BitVec.eq_of_toNat_eq (by omega)
       . exact k2 j hj
     . intro k
       exact ⟨by rw [k a (by simp)],fun j hj=>k j (by simp [hj])⟩
theorem qc4 {β γ:Type} {x:β} {n:γ} {f:β->γ}:optC (some x) n f=f x:=rfl
theorem qa1 (m:Mk):mkV (mkS m)=some m:=by
 have:mkV (mkS m)=some (m.1,dgOf (q4a ((List.range 32).map fun j=>m.2.at j))):=by kernel_rfl
 rw [this]
 congr 1
 refine Prod.ext rfl (q3f fun j hj => ?_)
 show (dgOf _).at j=_
 rw [qjc _ hj]
 unfold q4a
 simp [hj]
theorem qb1 (x:Mk):keyC x=mkC x:=by
 unfold keyC mkC
 rw [qja,qya,← List.range_eq_range']
theorem j6e {V:Nat->Value} {m:Nat} {x:Mk}:(∀ j,j<m * 33->catX V m x j=V j)/\∀ j,j<33->catX V m x (m * 33+j)=(mkC x).getD j undef:=by
 unfold catX catV
 refine ⟨fun j hj => ?_,fun j hj => ?_⟩
 . rw [if_pos hj]; show V (0+j)=_; rw [Nat.zero_add]
 . rw [if_neg (by omega)]
   show ((keyC x)[0+(m * 33+j - m * 33)]?).getD undef=_
   rw [qb1,List.getD_eq_getElem?_getD,show 0+(m * 33+j - m * 33)=j by omega]
theorem jka {x:Mk} {i:Nat} (h:i<33):(((keyC x)[0+i]?).getD undef).oneCell'=true:=by
 rw [qb1,Nat.zero_add]
 rcases (show i=0\/∃ t,i=t+1/\t<32 by
  cases i with
  | zero=>exact .inl rfl
  | succ t=>exact .inr ⟨t,rfl,by omega⟩) with rfl | ⟨t,rfl,ht⟩
 . rw [qdf]; rfl
 . rw [qje _ ht]; rfl
end
noncomputable section
open Go.Sim
open Go.Proofs
variable {α:Type}
set_option maxRecDepth 1000000
inductive XpS
 | z
 | b (i m:Nat) (V:Nat->Value) (pl:Bool)
section
variable (W:Nat->Value) (n:Nat) (sk lm k fe t:Int) (d:Dg) (u:List Mk)
variable {W n sk lm k fe t d u}
theorem jyh {f:List Mk} {e:Int} {b m:Nat} {V:Nat->Value} {H:List SO} (hf:f≠[]) (hm:m=f.length) (hV:MkV V m) (hL:mkL V m=f) (h:H[b]? = some (rfR V m)):qa4 sk lm fe k f e b (tup2 (rfA sk lm k fe (rfL b m)) e) H :=
 .inr ⟨hf,.sym m,hm,rfl,.raw V (m * 33),h,fun _=>trivial,jha hm hV hL⟩
end
end
end Go.Proofs.YthkgcljngalafaaDoor.Aes
