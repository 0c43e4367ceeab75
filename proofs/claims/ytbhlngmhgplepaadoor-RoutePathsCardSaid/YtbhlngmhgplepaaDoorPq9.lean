/-
  zda behind one another: the symbolic simulator and what it is told of the program.
-/
import Derived.Test.YtbhlngmhgplepaaDoorPq7
import Derived.Test.YtbhlngmhgplepaaDoorZqRtc6
import Derived.Shelf.SlMaps.Clone
import Derived.Ground.SlmcProg
import Derived.Test.YtbhlngmhgplepaaDoorPq3
set_option maxRecDepth 1000000
namespace Go.Proofs.YtbhlngmhgplepaaDoor.Aes
noncomputable section
open Go.Sim
open Go.Proofs
open Go.Shelf Go.Sort
variable {α:Type}
theorem zbp {l:List Pr}:(zbW zbB l).Perm l:=List.mergeSort_perm _ _
theorem qf6 (l:List Pr):SortedIn (ltOf zbB) 0 (zbW zbB l).toArray.size (zbW zbB l).toArray:=by
 have h:=List.pairwise_mergeSort (le:=fun x y:Pr => !(ltOf zbB) y x) (fun a b c h1 h2=>by
  simp only [Bool.not_eq_true'] at h1 h2 ⊢;exact zfy.ntrans _ _ _ h2 h1) (fun a b=>by
  simp only [Bool.or_eq_true,Bool.not_eq_true'];by_cases c:ltOf zbB b a=false
  . exact .inl c
  . refine .inr ?_
    rw [zfV] at c ⊢;have c:zcj b a:=by simpa using c
    exact decide_eq_false fun k=>qth _ (qof c k)) l
 intro i j _ hij hj;have hj:j<(zbW zbB l).length:=by simpa using hj
 have:=List.pairwise_iff_getElem.1 h i j (by have:i<(zbW zbB l).length:=by omega
                                             exact this) hj hij
 have e1:(zbW zbB l).toArray[i]! = (zbW zbB l)[i]'(by omega):=by simp [show i<(zbW zbB l).length by omega]
 have e2:(zbW zbB l).toArray[j]! = (zbW zbB l)[j]'hj:=by simp [hj]
 rw [e1,e2];rw [Bool.not_eq_true'] at this;exact this
theorem qoo {l l':List Pr} (h:l.Perm l'):zbW zbB l=zbW zbB l':=by
 have hs:(zbW zbB l).length=l'.length:=zbp.length_eq.trans h.length_eq;have:=Go.Sort.sorted_unique_holds zfy jhe l'.toArray (zbW zbB l).toArray ⟨by simpa using hs,fun i hi => ?_,?_⟩ (by
  have:=qf6 l
  rwa [show (zbW zbB l).toArray.size=l'.toArray.size by simpa using hs] at this)
 . exact this
 . rcases hi with hi | hi
   . omega
   . have hi:l'.length<=i:=by simpa using hi
     have e1:(zbW zbB l).toArray[i]! = default:=by simp [show ¬ i<(zbW zbB l).length by omega]
     have e2:l'.toArray[i]! = default:=by simp [show ¬ i<l'.length by omega]
     rw [e1,e2]
 . have e1:((zbW zbB l).toArray.extract 0 l'.toArray.size).toList=zbW zbB l:=by simp [hs.symm]
   have e2:(l'.toArray.extract 0 l'.toArray.size).toList=l':=by simp
   rw [e1,e2];exact zbp.trans h
def qxc (es:List MapEntry):List Pr:=es.map fun e=>prK e.key
def kyP (p:Pr):Value:=.agg #[.string p.1,.string p.2]
theorem zcn {V:Nat->Value} {n:Nat} {p:Pr}:(∀ i,i<n->zeu n V p (i * 2)=V (i * 2)/\zeu n V p (i * 2+1)=V (i * 2+1))/\zeu n V p (n * 2)=.string p.1/\zeu n V p (n * 2+1)=.string p.2:=by
 unfold zeu zb5;refine ⟨fun i hi=>⟨?_,?_⟩,?_,?_⟩
 . rw [if_pos (by omega)]; show V (0+i * 2)=_; rw [Nat.zero_add]
 . rw [if_pos (by omega)]; show V (0+(i * 2+1))=_; rw [Nat.zero_add]
 . rw [if_neg (by omega),Nat.sub_self]; rfl
 . rw [if_neg (by omega),show n * 2+1 - n * 2=1 by omega]; rfl
theorem qpo {V:Nat->Value} {n i:Nat} {p:Pr} (h:i<n):zbL (zeu n V p) i=zbL V i:=by
 unfold zbL;rw [(zcn.1 i h).1,(zcn.1 i h).2]
theorem qqo {V:Nat->Value} {n:Nat} {p:Pr}:zbL (zeu n V p) n=p:=by
 unfold zbL;rw [zcn.2.1,zcn.2.2];rfl
theorem jog {V:Nat->Value} {n:Nat} {p:Pr} (h:PrV V n):PrV (zeu n V p) (n+1):=by
 intro i hi;by_cases c:i<n
 . rw [qpo c,(zcn.1 i c).1,(zcn.1 i c).2]; exact h i c
 . obtain rfl:i=n:=by omega
   rw [qqo]; exact zcn.2
theorem jpg {V:Nat->Value} {n:Nat} {p:Pr}:prL (zeu n V p) (n+1)=prL V n++[p]:=by
 unfold prL;rw [List.range_succ,List.map_append,List.map_singleton,qqo];congr 1;exact List.map_congr_left fun i hi=>qpo (List.mem_range.1 hi)
def zfm (p:Pr):Nat->Value:=atV [.string p.1,.string p.2]
theorem q68 (p:Pr):PrV (zfm p) 1/\prL (zfm p) 1=[p]:=by
 refine ⟨fun i hi => ?_,rfl⟩;obtain rfl:i=0:=by omega
 exact ⟨rfl,rfl⟩
section
variable (vS:MSh) {es:List MapEntry} {c:Nat}
def soC (es:List MapEntry) (c:Nat):Option (List Nat × (Nat->Value))->Cut
 | none=>zfz vS es c
 | some a=>zeX vS es c a.1 a.1.length a.2
def soQ (es:List MapEntry):Option (List Nat × (Nat->Value))->Prop
 | none=>True
 | some a=>zev es a.1/\a.1≠[]/\PrV a.2 a.1.length/\prL a.2 a.1.length=a.1.map fun b=>prK (zeA es b).key
def soM (es:List MapEntry):Option (List Nat × (Nat->Value))->Nat
 | none=>(q3a es []).length+1
 | some a=>(q3a es a.1).length
def soD (es:List MapEntry) (c:Nat) (v:SV) (H:List SO):Prop :=
 H[0]? = some (.obj (.za6 kPr vS es c))/\((es=[]/\v=.zac)\/(es≠[]/\v=.slice ⟨6,.lit 0⟩ (.sym es.length) (.rest 6 0)/\H[6]? = some (.own (.raw (qoc qwc 2 (zbW zbB (qxc es))) (es.length * 2)) false 71)))
theorem qp2 (hm:zd4 es c) (hz:es.length<=1000000):Runs zdn 68 [.map 0] [.obj (.za6 kPr vS es c)] (soD vS es c):=by
 have hG:∀ seen,nxG es c seen:=fun seen=>⟨j1b hm,hm.lt⟩;have hE:∀ (seen:List Nat) {e:MapEntry},e∈q3a es seen->nxE es c seen e.born:=fun seen e he=>⟨rfl,by rw [qbb]; simp,e,(zcg.1 he).1,(qiv _ _).symm⟩
 have hK:∀ (seen:List Nat) {e:MapEntry},e∈q3a es seen->nxK es seen e.born=prK e.key:=fun seen e he=>by unfold nxK; rw [qiv,qlp hm.nd (zcg.1 he).1]
 have hnd:∀ seen,zev es seen->seen.length<=1000000:=fun seen hv=>by
  have h2:seen.length<=es.length:=by
   have:=List.Nodup.length_le_of_subset (l₁:=seen) (l₂:=es.map fun e=>e.born) hv.nd fun b hb=>by
    obtain ⟨e,he,rfl⟩:=hv.mem b hb;exact List.mem_map.2 ⟨e,he,rfl⟩
   simpa using this
  omega
 refine q7c qo2 (soC vS es c) (soQ es) (soM es) (fun g nm hg=>by cases hg) ?_ fun a ha J => ?_
 . exact qqm (some (5,2)) 20000 none trivial (fun z=>jhg vS es c z) (ziJ vS es c) qaa
 cases a with
 | none =>
   show qgb zdn _ (soC vS es c) _ _ ((zfz vS es c).fill J);cases hl:(q3a es []).isEmpty with
   | true =>
     refine qta none 20000 (fun z=>jig vS es c J z) (zaa (hG _) (zaa hl qaa)) fun H hH=>⟨(List.cons.inj hH).1,.inl ⟨?_,rfl⟩⟩;cases es with
     | nil=>rfl
     | cons e es=>exact absurd (qjv hl e (by simp)) (by simp)
   | false =>
     have hp:∀ z,q6d (q3a es []) z∈q3a es []:=fun z=>qmz hl z;refine q4d (js:=[]) (K:=fun _=>False) (some (5,2)) 20000 (M:=zgG vS es c) (names:=[0,1,2,3,4,5,9]) (fun z => ?_) (fun v es h=>h.elim);have hb:=hp (z 0 0);have hk:nxK es [] (nxB es [] (z 0 0))=prK (q6d (q3a es []) (z 0 0)).key:=hK [] hb;refine ⟨_,_,_,j2b vS es c (zfm (nxK es [] (nxB es [] (z 0 0)))) J z,zaa (hG _) (zaa hl (zaa (hE _ hb) qaa)),?_⟩;show zbf _ _ _ _ _ _;refine ⟨some ([nxB es [] (z 0 0)],zfm (nxK es [] (nxB es [] (z 0 0)))),10,[],fsM (nxK es [] (nxB es [] (z 0 0))),⟨⟨qnz (jfg es) hb,by simp,(q68 _).1,?_⟩,?_⟩,rfl,ziI vS es c _ _ _,by simp,fun e he E0 hE0 => ?_⟩
     . show prL (zfm _) 1=[prK (zeA es (nxB es [] (z 0 0))).key];rw [(q68 _).2,hk];unfold nxB;rw [qlp hm.nd (zcg.1 hb).1]
     . show (q3a es (app [] [nxB es [] (z 0 0)])).length<(q3a es []).length+1;exact Nat.lt_succ_of_lt (qn2 hb)
     . rcases List.mem_cons.1 he with rfl | he
       . cases hE0;exact ⟨_,rfl,fun _ _ h=>h⟩
       . obtain rfl:=List.mem_singleton.1 he;cases hE0;refine ⟨_,rfl,fun γ vs h => ?_⟩;have h:some [Value.string (nxK es [] (nxB es [] (z 0 0))).1,Value.string (nxK es [] (nxB es [] (z 0 0))).2]=some vs:=h;cases h;refine ⟨rfl,fun i x hx => ?_⟩;match i,hx with
         | 0,hx=>exact (Option.some.inj hx).symm
         | 1,hx=>exact (Option.some.inj hx).symm
 | some a =>
   obtain ⟨seen,V⟩:=a;obtain ⟨hv,hne,hV,hL⟩:zev es seen/\seen≠[]/\PrV V seen.length/\prL V seen.length=seen.map fun b=>prK (zeA es b).key:=ha;show qgb zdn _ (soC vS es c) _ _ ((zeX vS es c seen seen.length V).fill J);have hle:=hnd seen hv;cases hl:(q3a es seen).isEmpty with
   | true =>
     have hp:=jgg hm hv hl;have hlen:seen.length=es.length:=by have:=hp.length_eq; simpa using this
     refine qta none 20000 (fun z=>j5k vS es c seen seen.length V J z) (zaa (hG _) (zaa hl (zaa ⟨rfl,hV,by omega⟩ qaa))) fun H hH => ?_
     obtain ⟨h0,h1⟩:=List.cons.inj (show [H[0]?,H[6]?]=[some (.obj (.za6 kPr vS es c)),some (.own (.raw (qoc qwc 2 (zbW zbB (prL V seen.length))) (seen.length * 2)) false 71)] from hH)
     have h1:=(List.cons.inj h1).1;refine ⟨h0,.inr ⟨fun he => ?_,?_,?_⟩⟩
     . subst he;exact hne (List.length_eq_zero_iff.1 hlen)
     . rw [hlen]
     . rw [h1,hL,hlen];have:(seen.map fun b=>prK (zeA es b).key).Perm (qxc es):=by
        have:=hp.map fun e:MapEntry=>prK e.key
        rwa [List.map_map] at this
       rw [qoo this]
   | false =>
     have hp:∀ z,q6d (q3a es seen) z∈q3a es seen:=fun z=>qmz hl z;refine q4d (js:=[]) (K:=fun _=>False) (some (5,2)) 20000 (M:=zgG vS es c) (names:=[0,1,2,3,4,5,10]) (fun z => ?_) (fun v es h=>h.elim);have hb:=hp (z 0 0);have hk:nxK es seen (nxB es seen (z 0 0))=prK (q6d (q3a es seen) (z 0 0)).key:=hK seen hb;have hl1:(app seen [nxB es seen (z 0 0)]).length=seen.length+1:=by rw [qbb]; simp
     refine ⟨_,_,_,jjg vS es c seen seen.length V J z,zaa (hG _) (zaa hl (zaa (hE _ hb) (zaa (Nat.le_refl 2) (zaa (by omega) (zaa ⟨⟨by omega,by omega⟩,fun i hi => ?_⟩ qaa))))),?_⟩
     . rcases (show i=0\/i=1 by omega) with rfl | rfl <;> rfl
     show zbf _ _ _ _ _ _;rw [← hl1];refine zbf.of (some (app seen [nxB es seen (z 0 0)],zeu seen.length V (nxK es seen (nxB es seen (z 0 0))))) ⟨⟨qnz hv hb,by rw [qbb]; simp,?_,?_⟩,qn2 hb⟩ (j6k vS es c _ _ _)
     . show PrV _ (app seen [nxB es seen (z 0 0)]).length;rw [hl1]; exact jog hV
     . show prL _ (app seen [nxB es seen (z 0 0)]).length=_;rw [hl1,jpg,hL,hk,qbb,List.map_append,List.map_singleton];unfold nxB;rw [qlp hm.nd (zcg.1 hb).1]
end
def prF (P:Nat->Pr):Nat->SV:=fun j=>.str (.sym (zab (Nat.beq (j % 2) 0) (P (j / 2)).1 (P (j / 2)).2))
def prN (l:List Pr) (i:Nat):Pr:=(l[i]?).getD default
theorem j9b (l:List Pr):(Cells.raw (qoc qwc 2 l) (l.length * 2)).Imp (.fn (prF (prN l)) (l.length * 2)):=fun γ vs hv=>by
 obtain ⟨h1,h2⟩:vs.length=l.length * 2/\∀ (i:Nat) (x:Value),vs[i]? = some x->x=qoc qwc 2 l i:=hv;refine ⟨h1,fun j x hx => ?_⟩;have hj:j<vs.length:=(List.getElem?_eq_some_iff.1 hx).1;have hi:j / 2<l.length:=by omega
 obtain ⟨h3,h4⟩:=qkp l hi;have e:prN l (j / 2)=l[j / 2]:=by unfold prN; rw [List.getElem?_eq_getElem hi]; rfl
 rw [h2 j x hx];unfold prF;rcases (show j=j / 2 * 2\/j=j / 2 * 2+1 by omega) with c | c
 . have hb:Nat.beq (j % 2) 0=true:=by
    have:j % 2=0:=by omega
    rw [this]; rfl
   rw [hb,e,show qoc qwc 2 l j=.string l[j / 2].1 by rw [← h3,← c]]
   rfl
 . have hb:Nat.beq (j % 2) 0=false:=by
    have:j % 2=1:=by omega
    rw [this]; rfl
   rw [hb,e,show qoc qwc 2 l j=.string l[j / 2].2 by rw [← h4,← c]]
   rfl
theorem zge {I:Ifc} {base nm:Nat} (h:I.names.length<=nm):I.out base [nm] nm=base:=by
 unfold Ifc.out;have hk:I.known nm=false:=by
  unfold Ifc.known;rw [qha];cases hb:Nat.blt nm I.names.length with
  | false=>rfl
  | true=>have:nm<I.names.length:=Nat.le_of_ble_eq_true hb; omega
 rw [hk];show base+zab (Nat.beq nm nm) 0 _=base;rw [Nat.beq_refl]; rfl
theorem zki (q:Nat):zbM q [q]=true:=by
 show zab (Nat.beq q q) true _=true;rw [Nat.beq_refl]; rfl
theorem qxm (I:Ifc) (nm:Nat):I.seen [nm] nm=true:=by
 unfold Ifc.seen;cases I.known nm with
 | true=>rfl
 | false=>exact zki nm
def qnp (k:MSh):Bool:=match k with
 | ⟨true,[.s,.s]⟩=>true
 | _=>false
theorem qni {k:MSh} (h:qnp k=true):k=kPr:=by
 unfold qnp at h;split at h
 . rfl
 . cases h
def qpz (e:SO):Option ((MSh × MSh) × List MapEntry × Nat):=match e with
 | .obj (.za6 k v es c)=>some ((k,v),es,c)
 | _=>none
theorem qt1 {e:SO} {r:(MSh × MSh) × List MapEntry × Nat} (h:qpz e=some r):e=.obj (.za6 r.1.1 r.1.2 r.2.1 r.2.2):=by
 unfold qpz at h;split at h
 . cases h; rfl
 . cases h
def zfo (es:List MapEntry):Bool:=es.isEmpty
def soR (base m:Nat) (vS:MSh) (es:List MapEntry) (c:Nat):R zaz :=
 .need (zd4 es c/\es.length<=1000000) (.fork (zfo es) (.ok ⟨.zac,[(m,.obj (.za6 kPr vS es c))],[]⟩) (.ok ⟨.slice ⟨base,.lit 0⟩ (.sym es.length) (.rest base 0),[(m,.obj (.za6 kPr vS es c))],[.own (.fn (prF (prN (zbW zbB (qxc es)))) (es.length * 2)) false 71]⟩))
def qdl (v:SV):Bool:=match v with
 | .zaD=>true
 | _=>false
theorem quh {v:SV} (h:qdl v=true):v=.zaD:=by
 unfold qdl at h;split at h
 . rfl
 . cases h
def soSm:zaR:=fun args H base=>q2f args fun v=>zab (qdl v) (.ok ⟨.zac,[],[]⟩) (zah (qmp v) (.stuck 7840) fun m=>zah (nth H m) (.stuck 7841) fun e=>zah (qpz e) (.stuck 7842) fun r=>zab (qnp r.1.1) (soR base m r.1.2 r.2.1 r.2.2) (.stuck 7843))
theorem j9k:zaP [] (qla zdn 20000 68 [.zaD] []) []=([],some (.zac,[])):=by kernel_rfl
theorem soOK:q2a Tryd.prog 68 soSm:=by
 intro glob O w0 β H w base args vs hH hG ha;refine qed fun v hv=>R.Sat.zab (fun hnl => ?_) fun _=>qca fun m hm=>qca fun e he=>qca fun r hr=>qcb fun hk => ?_
 . rw [hv,quh hnl] at ha;exact qmb qo2 20000 hH ⟨[],[],[.zaD]⟩ (by intro g j hg; cases hg) ha (qfd rfl).q [] (by simp) (by simp) (q5a j9k qaa fun H2 _=>⟨.refl _,rfl,trivial,trivial⟩)
 rw [hv,qyg hm] at ha;rw [qea,qt1 hr,qni hk] at he;generalize r.1.2=vS at he ⊢;generalize r.2.1=es at he ⊢;generalize r.2.2=c at he ⊢
 let I:Ifc:=⟨[m],[.obj (.za6 kPr vS es c)],[.map 0]⟩
 rintro ⟨hok,hz⟩;have hF:I.zbS H:=Ifc.zbD (by simp [I]) rfl ⟨⟨⟨_,he,_,rfl,fun _ _ h=>h⟩,rfl⟩,trivial⟩
 have hS:∀ (keep:List Nat) {H2:List SO},H2[0]? = some (.obj (.za6 kPr vS es c))->zdd I.big (I.seen keep) (I.out base keep) H2 (q4b I.ents 0) [(m,.obj (.za6 kPr vS es c))]:=fun keep H2 h0=>⟨⟨rfl,.inr ⟨_,_,h0,rfl,fun _ _ h=>h,rfl⟩⟩,trivial⟩;refine ⟨fun hn => ?_,fun hn => ?_⟩
 . have hn:es=[]:=by unfold zfo at hn; simpa using hn
   refine qzb (c:=zdn) hH I (by intro g j hg; cases hg) ha hF [] (by simp) (by simp) (qjb (qp2 vS hok hz) fun v H2 ⟨h0,h⟩ => ?_)
   rcases h with ⟨_,rfl⟩ | ⟨h,_⟩
   . exact ⟨.refl _,rfl,hS _ h0,trivial⟩
   . exact absurd hn h
 . have hn:es≠[]:=by unfold zfo at hn; simpa using hn
   refine qzb (c:=zdn) hH I (by intro g j hg; cases hg) ha hF [6] (by simp [I]) (by simp) (qjb (qp2 vS hok hz) fun v H2 ⟨h0,h⟩ => ?_)
   rcases h with ⟨h,_⟩ | ⟨_,rfl,h⟩
   . exact absurd h hn
   . have hl:(zbW zbB (qxc es)).length=es.length:=by
      rw [zbp.length_eq]; simp [qxc]
     refine ⟨?_,?_,hS _ h0,⟨.inl ⟨_,_,_,_,h,trivial,?_,rfl⟩,trivial⟩⟩
     . show SV.Imp (.slice ⟨I.out base [6] 6,.lit 0⟩ (.sym es.length) (.rest (I.out base [6] 6) 0)) _;rw [zge (by simp [I])]
       exact .refl _
     . show (I.seen [6] 6 && I.seen [6] 6)=true;rw [qxm]; rfl
     . have:=j9b (zbW zbB (qxc es));rw [hl] at this;exact this
end
noncomputable section
open Go.Sim
open Go.Proofs
variable {α:Type}
def zaI (s:ByteArray) (i:Nat):Int:=((s.data.getD i 0).toBitVec.toNat:Int)
theorem q5d (s:ByteArray) (a b:Nat):(s.extract a b).size=min b s.size - a:=by
 show (s.extract a b).data.size=_;rw [ByteArray.data_extract,Array.size_extract];rfl
theorem qel {s:ByteArray} {a b i:Nat} (h:a+i<min b s.size):zaI (s.extract a b) i=zaI s (a+i):=by
 have h2:min b s.data.size=min b s.size:=rfl;unfold zaI;rw [ByteArray.data_extract,Array.getD_eq_getD_getElem?,Array.getD_eq_getD_getElem?,Array.getElem?_extract,if_pos (by omega)]
theorem jqg {s:ByteArray} {k a:Nat} (hk:k<=s.size):(s.extract k s.size).extract a (s.extract k s.size).size=s.extract (k+a) s.size:=by
 apply ByteArray.ext;rw [ByteArray.data_extract,ByteArray.data_extract,ByteArray.data_extract,Array.extract_extract,q5d];congr 1;omega
theorem zdy (s:ByteArray):s.extract 0 s.size=s:=by
 apply ByteArray.ext;rw [ByteArray.data_extract];show s.data.extract 0 s.data.size=_;rw [Array.extract_size]
theorem qqz {s:ByteArray} {i:Nat} (h:i<s.size) (c:UInt8):(s[i]! == c)=true↔zaI s i=(c.toNat:Int):=by
 have hd:i<s.data.size:=h;have e1:s[i]! = s.data[i]:=by
  rw [getElem!_pos s i h]; rfl
 have e2:s.data.getD i 0=s.data[i]:=by
  rw [Array.getD_eq_getD_getElem?,Array.getElem?_eq_getElem hd]; rfl
 unfold zaI;rw [e1,e2];constructor
 . intro he;rw [eq_of_beq he]; rfl
 . intro he;have:(s.data[i]).toNat=c.toNat:=by
    have he:(((s.data[i]).toNat:Nat):Int)=(c.toNat:Int):=he;omega
   rw [UInt8.toNat_inj.1 this];exact beq_self_eq_true c
theorem qqj (r:ByteArray) (c:UInt8):(firstIdx r c = -1/\∀ i,i<r.size->zaI r i≠(c.toNat:Int))\/∃ m:Nat,firstIdx r c=(m:Int)/\m<r.size/\zaI r m=(c.toNat:Int)/\∀ j:Nat,j<m->zaI r j≠(c.toNat:Int):=by
 unfold firstIdx;cases h:(List.range r.size).find? fun i=>r[i]! == c with
 | none =>
   refine .inl ⟨rfl,fun i hi he => ?_⟩;have:=List.find?_eq_none.1 h i (List.mem_range.2 hi);exact this ((qqz hi c).2 he)
 | some m =>
   obtain ⟨h1,h2,h3⟩:=List.find?_range_eq_some.1 h;have h2:=List.mem_range.1 h2;refine .inr ⟨m,rfl,h2,(qqz h2 c).1 h1,fun j hj he => ?_⟩;have h4:=h3 j hj;rw [(qqz (by omega) c).2 he] at h4
   cases h4
theorem qro {s:ByteArray} (h:s.size=0):s=⟨#[]⟩:=by
 apply ByteArray.ext;exact Array.eq_empty_of_size_eq_zero h
end
noncomputable section
open Go.Sim
open Go.Proofs
variable {α:Type}
def rmT (st:Option (Nat × Nat)) (s:ByteArray):Tree:=qla (zcb.at st) 20000 51 [.str (.sym s)] []
def rmS1 (s:ByteArray):SS:=qvb (rmT (some (2,3)) s) [true,false]
def rmS2 (s:ByteArray):SS:=qvb (rmT (some (3,3)) s) [true,false,false,false,false]
def rmS3 (s:ByteArray):SS:=qvb (rmT (some (3,3)) s) [true,false,false,true,false]
def zdI:ByteArray:=⟨#[46]⟩
def zfB:ByteArray:=⟨#[]⟩
def rmB (s lab:ByteArray) (i:Nat):List (Nat × SV):=[(0,.str (.sym s)),(2,.ptr ⟨0,.lit 0⟩),(3,.str (.sym lab)),(15,.int .i64 (.sym (lab.size:Int))),(16,.int .i64 (.sym i))]
def rmO:List (Nat × SV):=[(0,.func (.yield 5) [] []),(1,.ptr ⟨2,.lit 0⟩),(2,.ptr ⟨1,.lit 0⟩),(3,.ptr ⟨3,.lit 0⟩),(9,.str (.lit zdI)),(10,.int .i64 (.lit 1)),(11,.bool (.lit false))]
def rmR (s:ByteArray):List (Nat × SV):=[(0,.str (.sym s)),(2,.ptr ⟨0,.lit 0⟩)]
def rmE (S:SS) (j:Nat):HP:=zah (nth S.heap j) (.ent .gone) HP.ent
def rmH (S:SS) (s r:ByteArray):List HP:=[rmE S 0,.ent (.own (.lst [.str (.sym r)]) true 9),rmE S 2,rmE S 3,rmE S 4,qzs (nth S.heap 5) (rmR s)]
def zdL (s r:ByteArray):Cut:=⟨q0b (rmS1 s).frames [rmO,rmR s],rmH (rmS1 s) s r⟩
def zcD (s r lab:ByteArray) (n:Int) (i:Nat):Cut:=⟨q0b (rmS2 s).frames [rmB s lab i,(7,.int .i64 (.sym n))::rmO,rmR s],rmH (rmS2 s) s r⟩
def zcR (s r:ByteArray) (i:Nat):Cut:=⟨q0b (rmS3 s).frames [rmB s r i,rmO,rmR s],rmH (rmS3 s) s r⟩
def rmN:List Nat:=[0,1,2,3,4,5]
def fiI (r:ByteArray):Int:=firstIdx r 46
def zfp (r:ByteArray):ByteArray:=r.extract 0 (fiI r+0).toNat
def noR:Option ((SV × List (Option SO)) ⊕ Seen):=some (.inl (.bool (.lit false),[]))
def zfN:Option ((SV × List (Option SO)) ⊕ Seen):=some (.inl (.bool (.lit true),[]))
def chC (c:Int) (k:Nat):List Prop:=match k with
 | 0=>(decide (c<65)=false)::zaX (decide (c > 90)=false) 5
 | 1=>app (zaX (decide (c<65)=true) 3) ((decide (c<48)=false)::zaX (decide (c > 57)=false) 3)
 | 2=>app (zaX (decide (c<65)=true) 3) (app (zaX (decide (c<48)=true) 3) [(c != 45)=false])
 | 3=>app (zaX (decide (c<65)=true) 3) (app (zaX (decide (c<48)=true) 3) [(c != 45)=true])
 | 4=>app (zaX (decide (c<65)=true) 3) [decide (c<48)=false,decide (c > 57)=true,(c != 45)=true]
 | _=>[decide (c<65)=false,decide (c > 90)=true,decide (c<48)=false,decide (c > 57)=true,(c != 45)=true]
def chD (k:Nat):List Bool:=match k with
 | 0=>[false,false,false,false,false,false]
 | 1=>[true,true,true,false,false,false,false]
 | 2=>[true,true,true,true,true,true,false]
 | 3=>[true,true,true,true,true,true,true]
 | 4=>[true,true,true,false,true,true]
 | _=>[false,true,false,true,true]
def inC (r:ByteArray) (i:Nat) (q:List Prop):List Prop:=(decide ((i:Int)<(r.size:Int))=true)::((0:Int)<=(i:Int)/\(i:Int)<(r.size:Int))::q
def nxC (r:ByteArray) (b:Bool):List Prop:=[decide (zdI=r)=false,decide (fiI r<0)=false,qra (fiI r+0),0<=fiI r+0/\fiI r+0<=(r.size:Int),decide (zfp r=zfB)=b]
section
variable (s r lab:ByteArray) (n:Int) (i:Nat)
theorem jal:zaP [] (rmT none s) (zaX false 4)=(zaX (decide ((s.size:Int)>=1)=false) 4,some (.bool (.lit false),[])):=by kernel_rfl
theorem jrg:zaP [] (rmT none s) [true,true]=([decide ((s.size:Int)>=1)=true,(!decide ((s.size:Int)<=32))=true],some (.bool (.lit false),[])):=by kernel_rfl
theorem jsg (z:Nat->Nat->Nat):zaq [] (zdL s s) rmN (rmT (some (2,3)) s) [true,false] z=([decide ((s.size:Int)>=1)=true,(!decide ((s.size:Int)<=32))=false],some (.inr (qia rmN 6 (zdL s s)))):=by kernel_rfl
theorem zja (J:zaW) (z:Nat->Nat->Nat):zaq [] (zcD s r (zfp r) (fiI r) 0) rmN (zaY (zcb.at (some (3,3))) 20000 ((zdL s r).fill J)) [false,false,false] z=(nxC r false,some (.inr (qva [(0,16,.int .i64 (.lit 0))] [] (qia rmN 6 (zcD s r (zfp r) (fiI r) 0))))):=by kernel_rfl
theorem jbl (J:zaW) (z:Nat->Nat->Nat):zaq [] (zcR s r 0) rmN (zaY (zcb.at (some (3,3))) 20000 ((zdL s r).fill J)) [false,true,false] z=([decide (zdI=r)=false,decide (fiI r<0)=true,decide (r=zfB)=false],some (.inr (qva [(0,16,.int .i64 (.lit 0))] [] (qia rmN 6 (zcR s r 0))))):=by kernel_rfl
theorem jcl (J:zaW) (z:Nat->Nat->Nat):zaq [] (zdL s r) rmN (zaY (zcb.at none) 20000 ((zdL s r).fill J)) [true,true] z=([decide (zdI=r)=true,0<=r.size,decide (r.extract 0 (0+0)=zfB)=true],noR):=by kernel_rfl
theorem jac (J:zaW) (z:Nat->Nat->Nat):zaq [] (zdL s r) rmN (zaY (zcb.at none) 20000 ((zdL s r).fill J)) [false,false,true] z=(nxC r true,noR):=by kernel_rfl
theorem jtg (J:zaW) (z:Nat->Nat->Nat):zaq [] (zdL s r) rmN (zaY (zcb.at none) 20000 ((zdL s r).fill J)) [false,true,true] z=([decide (zdI=r)=false,decide (fiI r<0)=true,decide (r=zfB)=true],noR):=by kernel_rfl
theorem zjg (J:zaW) (z:Nat->Nat->Nat):zaq [] (zcD s r lab n i) rmN (zaY (zcb.at (some (3,3))) 20000 ((zcD s r lab n i).fill J)) (true::chD 0) z=(inC lab i (app (chC (zaI lab i) 0) [qra ((i:Int)+1)]),some (.inr (qia rmN 6 (zcD s r lab n (i+1))))):=by kernel_rfl
theorem zjf (J:zaW) (z:Nat->Nat->Nat):zaq [] (zcD s r lab n i) rmN (zaY (zcb.at (some (3,3))) 20000 ((zcD s r lab n i).fill J)) (true::chD 1) z=(inC lab i (app (chC (zaI lab i) 1) [qra ((i:Int)+1)]),some (.inr (qia rmN 6 (zcD s r lab n (i+1))))):=by kernel_rfl
theorem zje (J:zaW) (z:Nat->Nat->Nat):zaq [] (zcD s r lab n i) rmN (zaY (zcb.at (some (3,3))) 20000 ((zcD s r lab n i).fill J)) (true::chD 2) z=(inC lab i (app (chC (zaI lab i) 2) [qra ((i:Int)+1)]),some (.inr (qia rmN 6 (zcD s r lab n (i+1))))):=by kernel_rfl
theorem zjd (J:zaW) (z:Nat->Nat->Nat):zaq [] (zcD s r lab n i) rmN (zaY (zcb.at none) 20000 ((zcD s r lab n i).fill J)) (true::chD 3) z=(inC lab i (chC (zaI lab i) 3),noR):=by kernel_rfl
theorem zjc (J:zaW) (z:Nat->Nat->Nat):zaq [] (zcD s r lab n i) rmN (zaY (zcb.at none) 20000 ((zcD s r lab n i).fill J)) (true::chD 4) z=(inC lab i (chC (zaI lab i) 4),noR):=by kernel_rfl
theorem zjb (J:zaW) (z:Nat->Nat->Nat):zaq [] (zcD s r lab n i) rmN (zaY (zcb.at none) 20000 ((zcD s r lab n i).fill J)) (true::chD 5) z=(inC lab i (chC (zaI lab i) 5),noR):=by kernel_rfl
theorem zi9 (J:zaW) (z:Nat->Nat->Nat):zaq [] (zdL s (r.extract (n+1).toNat r.size)) rmN (zaY (zcb.at (some (2,3))) 20000 ((zcD s r lab n i).fill J)) [false] z=([decide ((i:Int)<(lab.size:Int))=false,qra (n+1),0<=n+1/\n+1<=(r.size:Int)],some (.inr (qia rmN 6 (zdL s (r.extract (n+1).toNat r.size))))):=by kernel_rfl
theorem zjm (J:zaW) (z:Nat->Nat->Nat):zaq [] (zcR s r i) rmN (zaY (zcb.at (some (3,3))) 20000 ((zcR s r i).fill J)) (true::chD 0) z=(inC r i (app (chC (zaI r i) 0) [qra ((i:Int)+1)]),some (.inr (qia rmN 6 (zcR s r (i+1))))):=by kernel_rfl
theorem zjl (J:zaW) (z:Nat->Nat->Nat):zaq [] (zcR s r i) rmN (zaY (zcb.at (some (3,3))) 20000 ((zcR s r i).fill J)) (true::chD 1) z=(inC r i (app (chC (zaI r i) 1) [qra ((i:Int)+1)]),some (.inr (qia rmN 6 (zcR s r (i+1))))):=by kernel_rfl
theorem zjk (J:zaW) (z:Nat->Nat->Nat):zaq [] (zcR s r i) rmN (zaY (zcb.at (some (3,3))) 20000 ((zcR s r i).fill J)) (true::chD 2) z=(inC r i (app (chC (zaI r i) 2) [qra ((i:Int)+1)]),some (.inr (qia rmN 6 (zcR s r (i+1))))):=by kernel_rfl
theorem zjj (J:zaW) (z:Nat->Nat->Nat):zaq [] (zcR s r i) rmN (zaY (zcb.at none) 20000 ((zcR s r i).fill J)) (true::chD 3) z=(inC r i (chC (zaI r i) 3),noR):=by kernel_rfl
theorem zji (J:zaW) (z:Nat->Nat->Nat):zaq [] (zcR s r i) rmN (zaY (zcb.at none) 20000 ((zcR s r i).fill J)) (true::chD 4) z=(inC r i (chC (zaI r i) 4),noR):=by kernel_rfl
theorem zjh (J:zaW) (z:Nat->Nat->Nat):zaq [] (zcR s r i) rmN (zaY (zcb.at none) 20000 ((zcR s r i).fill J)) (true::chD 5) z=(inC r i (chC (zaI r i) 5),noR):=by kernel_rfl
theorem jdl (J:zaW) (z:Nat->Nat->Nat):zaq [] (zcR s r i) rmN (zaY (zcb.at none) 20000 ((zcR s r i).fill J)) [false] z=([decide ((i:Int)<(r.size:Int))=false],zfN):=by kernel_rfl
theorem jke:zab (qna 0 rmN (zdL s r) (zdL s r)) (zaG qma (zdL s r).heap) false=true:=by kernel_rfl
theorem zi8:zab (qna 0 rmN (zcD s r lab n i) (zcD s r lab n i)) (zaG qma (zcD s r lab n i).heap) false=true:=by kernel_rfl
theorem qrz (j:Nat):zab (qna 0 rmN (zcD s r lab n i) (zcD s r lab n j)) (zaG qma (zcD s r lab n j).heap) false=true:=by kernel_rfl
theorem q1w (j:Nat):zab (qna 0 rmN (zcR s r i) (zcR s r j)) (zaG qma (zcR s r j).heap) false=true:=by kernel_rfl
theorem zi6:(((zcD s r lab n i).frames[0]?).bind fun p=>p.tmps[16]?)=some (some (.int .i64 (.sym i))):=by kernel_rfl
theorem zi7:(((zcR s r i).frames[0]?).bind fun p=>p.tmps[16]?)=some (some (.int .i64 (.sym i))):=by kernel_rfl
end
end
noncomputable section
open Go.Sim
open Go.Proofs
variable {α:Type}
def okc (c:Int):Prop:=(65<=c/\c<=90)\/(48<=c/\c<=57)\/c=45
def chP (s:ByteArray) (i:Nat):Prop:=okc (zaI s i)\/(zaI s i=46/\i≠0/\i+1≠s.size/\zaI s (i - 1)≠46)
def zbl (s:ByteArray):Prop:=1<=s.size/\s.size<=32/\∀ i,i<s.size->chP s i
def zaH (s:ByteArray):Bool:=@decide (zbl s) (Classical.propDecidable _)
theorem qgg {s:ByteArray} (h:zbl s):zaH s=true:=@decide_eq_true _ (Classical.propDecidable _) h
theorem qpf {s:ByteArray} (h:¬ zbl s):zaH s=false:=@decide_eq_false _ (Classical.propDecidable _) h
theorem qfl {c:Int} (h:okc c):c≠46:=by rcases h with h | h | h <;> omega
def qak (s:ByteArray) (k:Nat):Prop:=k<=s.size/\(k=0\/(1<=k/\zaI s (k - 1)=46))/\∀ i,i<k->okc (zaI s i)\/(zaI s i=46/\i≠0/\zaI s (i - 1)≠46)
theorem qq2 {s:ByteArray} {k:Nat} (h:qak s k) (hk:k<s.size) (hd:zaI s k=46):¬ zbl s:=by
 rintro ⟨_,_,ha⟩;rcases ha k hk with h1 | ⟨_,h2,_,h4⟩
 . exact qfl h1 hd
 . rcases h.2.1 with h5 | ⟨_,h5⟩
   . exact h2 h5
   . exact h4 h5
theorem jug {s:ByteArray} (h1:1<=s.size) {k:Nat} (h:qak s k) (hk:k=s.size):¬ zbl s:=by
 rintro ⟨_,_,ha⟩;rcases h.2.1 with h5 | ⟨h6,h5⟩
 . omega
 . rcases ha (k - 1) (by omega) with h7 | ⟨_,_,h7,_⟩
   . exact qfl h7 h5
   . exact h7 (by omega)
theorem q78 {s:ByteArray} {i:Nat} (hi:i<s.size) (h1:¬ okc (zaI s i)) (h2:zaI s i≠46):¬ zbl s:=fun h=>by
 rcases h.2.2 i hi with h3 | ⟨h3,_⟩
 . exact h1 h3
 . exact h2 h3
theorem jbc {s:ByteArray} {k m:Nat} (h:qak s k) (hm:1<=m) (hk:k+m<s.size) (hd:zaI s (k+m)=46) (ho:∀ j,j<m->okc (zaI s (k+j))):qak s (k+(m+1)):=by
 refine ⟨by omega,.inr ⟨by omega,by rw [show k+(m+1) - 1=k+m by omega]; exact hd⟩,fun i hi => ?_⟩
 by_cases c1:i<k
 . exact h.2.2 i c1
 . by_cases c2:i<k+m
   . have:=ho (i - k) (by omega)
     rw [show k+(i - k)=i by omega] at this
     exact .inl this
   . have e:i=k+m:=by omega
     subst e;refine .inr ⟨hd,by omega,?_⟩
     have:=ho (m - 1) (by omega)
     rw [show k+(m - 1)=k+m - 1 by omega] at this
     exact qfl this
theorem jcc {s:ByteArray} {k:Nat} (h1:1<=s.size) (h32:s.size<=32) (h:qak s k) (hk:k<s.size) (ho:∀ j,j<s.size - k->okc (zaI s (k+j))):zbl s:=by
 refine ⟨h1,h32,fun i hi => ?_⟩;by_cases c1:i<k
 . rcases h.2.2 i c1 with h2 | ⟨h2,h3,h4⟩
   . exact .inl h2
   . exact .inr ⟨h2,h3,by omega,h4⟩
 . have:=ho (i - k) (by omega)
   rw [show k+(i - k)=i by omega] at this
   exact .inl this
inductive Rm where
 | out (r:ByteArray)
 | inn (r lab:ByteArray) (n:Int) (i:Nat)
 | fin (r:ByteArray) (i:Nat)
def rmC (s:ByteArray):Rm->Cut
 | .out r=>zdL s r
 | .inn r lab n i=>zcD s r lab n i
 | .fin r i=>zcR s r i
def rmQ (s:ByteArray):Rm->Prop
 | .out r=>∃ k,qak s k/\r=s.extract k s.size
 | .inn r lab n i=>∃ k m:Nat,qak s k/\r=s.extract k s.size/\1<=m/\k+m<s.size/\n=m/\lab=r.extract 0 m/\zaI s (k+m)=46/\(∀ j,j<m->zaI s (k+j)≠46)/\(∀ j,j<i->okc (zaI s (k+j)))/\i<=m
 | .fin r i=>∃ k,qak s k/\r=s.extract k s.size/\1<=r.size/\(∀ j,j<r.size->zaI s (k+j)≠46)/\(∀ j,j<i->okc (zaI s (k+j)))/\i<=r.size
def zg7:Rm->Nat
 | .out r=>100 * r.size+99
 | .inn r lab _ i=>100 * r.size+(lab.size - i)
 | .fin r i=>100 * r.size+(r.size - i)
theorem qsz {c:Int} (h:65<=c/\c<=90):∀ p∈chC c 0,p:=zaa (decide_eq_false (by omega)) (qtb (decide_eq_false (by omega)) 5)
theorem qtz {c:Int} (h:48<=c/\c<=57):∀ p∈chC c 1,p:=qpa (qtb (decide_eq_true (by omega)) 3) (zaa (decide_eq_false (by omega)) (qtb (decide_eq_false (by omega)) 3))
theorem quz {c:Int} (h:c=45):∀ p∈chC c 2,p:=qpa (qtb (decide_eq_true (by omega)) 3) (qpa (qtb (decide_eq_true (by omega)) 3) (zaa (by subst h; rfl) qaa))
theorem qvz {c:Int} (h:c<48) (h2:c≠45):∀ p∈chC c 3,p:=qpa (qtb (decide_eq_true (by omega)) 3) (qpa (qtb (decide_eq_true (by omega)) 3) (zaa (bne_iff_ne.2 h2) qaa))
theorem qwz {c:Int} (h:57<c) (h2:c<65):∀ p∈chC c 4,p:=qpa (qtb (decide_eq_true (by omega)) 3) (zaa (decide_eq_false (by omega)) (zaa (decide_eq_true (by omega)) (zaa (bne_iff_ne.2 (by omega)) qaa)))
theorem qxz {c:Int} (h:90<c):∀ p∈chC c 5,p:=zaa (decide_eq_false (by omega)) (zaa (decide_eq_true (by omega)) (zaa (decide_eq_false (by omega)) (zaa (decide_eq_true (by omega)) (zaa (bne_iff_ne.2 (by omega)) qaa))))
theorem qr2 {r:ByteArray} {i:Nat} (h:i<r.size) {q:List Prop} (hq:∀ p∈q,p):∀ p∈inC r i q,p:=zaa (decide_eq_true (by omega)) (zaa ⟨by omega,by omega⟩ hq)
theorem jvg (s:ByteArray) (h1:1<=s.size) (h32:s.size<=32):Runs zcb 51 [.str (.sym s)] [] fun v _=>∃ b,v=.bool b/\b.den=zaH s:=by
 have hno:¬ zbl s->∀ H:List SO,(fun (v:SV) (_:List SO)=>∃ b,v=.bool b/\b.den=zaH s) (.bool (.lit false)) H:=fun hn _=>⟨_,rfl,(qpf hn).symm⟩;refine q7c q7h (rmC s) (rmQ s) zg7 (fun g nm hg=>by cases hg) ?_ fun a ha J => ?_
 . exact qqm (some (2,3)) 20000 (.out s) ⟨0,⟨by omega,.inl rfl,fun i hi=>by omega⟩,(zdy s).symm⟩ (jsg s) (jke s s) (zaa (decide_eq_true (by omega)) (zaa (by rw [decide_eq_true (show ((s.size:Nat):Int)<=32 by omega)]; rfl) qaa))
 cases a with
 | out r =>
   obtain ⟨k,hI,hr⟩:=ha;have hk:=hI.1;have hsz:r.size=s.size - k:=by rw [hr,q5d]; omega
   have hb:∀ j,j<r.size->zaI r j=zaI s (k+j):=fun j hj=>by rw [hr]; exact qel (by omega)
   show qgb zcb _ (rmC s) _ _ ((zdL s r).fill J);by_cases hd:zdI=r
   . have hs1:r.size=1:=by rw [← hd]; rfl
     have hb0:zaI s k=46:=by
      have:=hb 0 (by omega)
      rw [Nat.add_zero] at this;rw [← this,← hd]; rfl
     exact qta none 20000 (jcl s r J) (zaa (decide_eq_true hd) (zaa (Nat.zero_le _) (zaa (decide_eq_true (qro (by rw [q5d]; omega))) qaa))) fun H _=>hno (qq2 hI (by omega) hb0) H
   . have hd':decide (zdI=r)=false:=decide_eq_false hd;rcases qqj r 46 with ⟨h0,hnd⟩ | ⟨m,hm,hlt,hdot,hmin⟩
     . have h0':fiI r = -1:=h0;have hneg:decide (fiI r<0)=true:=decide_eq_true (by omega)
       by_cases hr0:r.size=0
       . exact qta none 20000 (jtg s r J) (zaa hd' (zaa hneg (zaa (decide_eq_true (qro hr0)) qaa))) fun H _=>hno (jug h1 hI (by omega)) H
       . refine qsc (some (3,3)) 20000 (.fin r 0) ⟨⟨k,hI,hr,by omega,fun j hj=>by rw [← hb j hj]; exact hnd j hj,fun j hj=>by omega,by omega⟩,by show 100 * r.size+(r.size - 0)<100 * r.size+99; omega⟩ (jbl s r J) (q1w s r 0 0) (fun q hq p u hp hu => ?_) (fun e he=>by cases he) (zaa hd' (zaa hneg (zaa (decide_eq_false (fun e=>hr0 (by rw [e]; rfl))) qaa)))
         obtain rfl:q=(0,16,.int .i64 (.lit 0)):=by simpa using hq
         exact q6a (zi7 s r 0) hp hu (qab rfl)
     . have hm':fiI r=(m:Int):=hm;have hle:(fiI r+0).toNat=m:=by omega
       have hlab:zfp r=r.extract 0 m:=by unfold zfp; rw [hle]
       have hdm:zaI s (k+m)=46:=by rw [← hb m hlt]; exact hdot
       have c1:decide (fiI r<0)=false:=decide_eq_false (by omega)
       have c2:qra (fiI r+0):=⟨by omega,by omega⟩
       have c3:0<=fiI r+0/\fiI r+0<=(r.size:Int):=⟨by omega,by omega⟩
       have hls:(zfp r).size=m:=by rw [hlab,q5d]; omega
       by_cases hm0:m=0
       . exact qta none 20000 (jac s r J) (zaa hd' (zaa c1 (zaa c2 (zaa c3 (zaa (decide_eq_true (qro (by omega))) qaa))))) fun H _=>hno (qq2 hI (by omega) (by rw [hm0,Nat.add_zero] at hdm; exact hdm)) H
       . refine qsc (some (3,3)) 20000 (.inn r (zfp r) (fiI r) 0) ⟨⟨k,m,hI,hr,by omega,by omega,hm',hlab,hdm,fun j hj=>by rw [← hb j (by omega)]; exact hmin j hj,fun j hj=>by omega,by omega⟩,by show 100 * r.size+((zfp r).size - 0)<100 * r.size+99; omega⟩ (zja s r J) (zi8 s r (zfp r) (fiI r) 0) (fun q hq p u hp hu => ?_) (fun e he=>by cases he)
          (zaa hd' (zaa c1 (zaa c2 (zaa c3 (zaa (decide_eq_false (fun e=>hm0 (by rw [← hls,e]; rfl))) qaa)))))
         obtain rfl:q=(0,16,.int .i64 (.lit 0)):=by simpa using hq
         exact q6a (zi6 s r (zfp r) (fiI r) 0) hp hu (qab rfl)
 | inn r lab n i =>
   obtain ⟨k,m,hI,hr,hm1,hkm,hn,hlab,hdm,hmin,ho,him⟩:=ha;have hk:=hI.1;have hsz:r.size=s.size - k:=by rw [hr,q5d]; omega
   have hls:lab.size=m:=by rw [hlab,q5d]; omega
   have hb:∀ j,j<m->zaI lab j=zaI s (k+j):=fun j hj=>by
    rw [hlab,qel (by omega),Nat.zero_add,hr]
    exact qel (by omega)
   show qgb zcb _ (rmC s) _ _ ((zcD s r lab n i).fill J);by_cases hi:i<m
   . have hc:=hb i hi;have hne:=hmin i hi;have hq:okc (zaI s (k+i))->(rmQ s (.inn r lab n (i+1)))/\zg7 (.inn r lab n (i+1))<zg7 (.inn r lab n i):=fun hok=>⟨⟨k,m,hI,hr,hm1,hkm,hn,hlab,hdm,hmin,fun j hj=>by
      by_cases c:j<i
      . exact ho j c
      . obtain rfl:j=i:=by omega
        exact hok,by omega⟩,by show 100 * r.size+(lab.size - (i+1))<100 * r.size+(lab.size - i); omega⟩
     have hin:∀ q:List Prop,(∀ p∈q,p)->∀ p∈inC lab i q,p:=fun q hq=>qr2 (by omega) hq
     have h64:qra ((i:Int)+1):=⟨by omega,by omega⟩
     by_cases a1:65<=zaI s (k+i)/\zaI s (k+i)<=90
     . exact qya (some (3,3)) 20000 (.inn r lab n (i+1)) (hq (.inl a1)) (zjg s r lab n i J) (qrz s r lab n i (i+1)) (hin _ (qpa (by rw [hc]; exact qsz a1) (zaa h64 qaa)))
     by_cases a2:48<=zaI s (k+i)/\zaI s (k+i)<=57
     . exact qya (some (3,3)) 20000 (.inn r lab n (i+1)) (hq (.inr (.inl a2))) (zjf s r lab n i J) (qrz s r lab n i (i+1)) (hin _ (qpa (by rw [hc]; exact qtz a2) (zaa h64 qaa)))
     by_cases a3:zaI s (k+i)=45
     . exact qya (some (3,3)) 20000 (.inn r lab n (i+1)) (hq (.inr (.inr a3))) (zje s r lab n i J) (qrz s r lab n i (i+1)) (hin _ (qpa (by rw [hc]; exact quz a3) (zaa h64 qaa)))
     have hbad:¬ zbl s:=q78 (i:=k+i) (by omega) (fun h=>by rcases h with h | h | h; exact a1 h; exact a2 h; exact a3 h) hne
     by_cases a4:zaI s (k+i)<48
     . exact qta none 20000 (zjd s r lab n i J) (hin _ (by rw [hc]; exact qvz a4 a3)) fun H _=>hno hbad H
     by_cases a5:zaI s (k+i)<65
     . exact qta none 20000 (zjc s r lab n i J) (hin _ (by rw [hc]; exact qwz (by omega) a5)) fun H _=>hno hbad H
     . exact qta none 20000 (zjb s r lab n i J) (hin _ (by rw [hc]; exact qxz (by omega))) fun H _=>hno hbad H
   . have e:i=m:=by omega
     subst e;have hnt:(n+1).toNat=i+1:=by omega
     have hr':r.extract (n+1).toNat r.size=s.extract (k+(i+1)) s.size:=by
      rw [hnt,hr];exact jqg hk
     have hsz':(r.extract (n+1).toNat r.size).size=s.size - (k+(i+1)):=by rw [hr',q5d]; omega
     exact qya (some (2,3)) 20000 (.out (r.extract (n+1).toNat r.size)) ⟨⟨k+(i+1),jbc hI hm1 hkm hdm ho,hr'⟩,by show 100 * (r.extract (n+1).toNat r.size).size+99<100 * r.size+(lab.size - i); omega⟩ (zi9 s r lab n i J) (jke s _)
      (zaa (decide_eq_false (by omega)) (zaa ⟨by omega,by omega⟩ (zaa ⟨by omega,by omega⟩ qaa)))
 | fin r i =>
   obtain ⟨k,hI,hr,hr1,hnd,ho,hir⟩:=ha;have hk:=hI.1;have hsz:r.size=s.size - k:=by rw [hr,q5d]; omega
   have hb:∀ j,j<r.size->zaI r j=zaI s (k+j):=fun j hj=>by rw [hr]; exact qel (by omega)
   show qgb zcb _ (rmC s) _ _ ((zcR s r i).fill J);by_cases hi:i<r.size
   . have hc:=hb i hi;have hne:=hnd i hi;have hq:okc (zaI s (k+i))->(rmQ s (.fin r (i+1)))/\zg7 (.fin r (i+1))<zg7 (.fin r i):=fun hok=>⟨⟨k,hI,hr,hr1,hnd,fun j hj=>by
      by_cases c:j<i
      . exact ho j c
      . obtain rfl:j=i:=by omega
        exact hok,by omega⟩,by show 100 * r.size+(r.size - (i+1))<100 * r.size+(r.size - i); omega⟩
     have hin:∀ q:List Prop,(∀ p∈q,p)->∀ p∈inC r i q,p:=fun q hq=>qr2 hi hq;have h64:qra ((i:Int)+1):=⟨by omega,by omega⟩
     by_cases a1:65<=zaI s (k+i)/\zaI s (k+i)<=90
     . exact qya (some (3,3)) 20000 (.fin r (i+1)) (hq (.inl a1)) (zjm s r i J) (q1w s r i (i+1)) (hin _ (qpa (by rw [hc]; exact qsz a1) (zaa h64 qaa)))
     by_cases a2:48<=zaI s (k+i)/\zaI s (k+i)<=57
     . exact qya (some (3,3)) 20000 (.fin r (i+1)) (hq (.inr (.inl a2))) (zjl s r i J) (q1w s r i (i+1)) (hin _ (qpa (by rw [hc]; exact qtz a2) (zaa h64 qaa)))
     by_cases a3:zaI s (k+i)=45
     . exact qya (some (3,3)) 20000 (.fin r (i+1)) (hq (.inr (.inr a3))) (zjk s r i J) (q1w s r i (i+1)) (hin _ (qpa (by rw [hc]; exact quz a3) (zaa h64 qaa)))
     have hbad:¬ zbl s:=q78 (i:=k+i) (by omega) (fun h=>by rcases h with h | h | h; exact a1 h; exact a2 h; exact a3 h) hne
     by_cases a4:zaI s (k+i)<48
     . exact qta none 20000 (zjj s r i J) (hin _ (by rw [hc]; exact qvz a4 a3)) fun H _=>hno hbad H
     by_cases a5:zaI s (k+i)<65
     . exact qta none 20000 (zji s r i J) (hin _ (by rw [hc]; exact qwz (by omega) a5)) fun H _=>hno hbad H
     . exact qta none 20000 (zjh s r i J) (hin _ (by rw [hc]; exact qxz (by omega))) fun H _=>hno hbad H
   . have e:i=r.size:=by omega
     exact qta none 20000 (jdl s r i J) (zaa (decide_eq_false (by omega)) qaa) fun H _=>⟨_,rfl,(qgg (jcc h1 h32 hI (by omega) fun j hj=>ho j (by omega))).symm⟩
def rlmS:zaR:=fun args _ _=>q2f args fun v=>zah (zbH v) (.stuck 7796) fun s=>.ok ⟨.bool (.sym (zaH s.den)),[],[]⟩
theorem zjn:q2a Tryd.prog 51 rlmS:=by
 intro glob O w0 β H w base args vs hH hG ha;refine qed fun v hv=>qca fun s hs => ?_
 rw [hv,qua hs] at ha;have ha:=qja (qhb (t:=.sym s.den) rfl) qsb _ _ ha;show qob Tryd.prog H β w base _ vs ⟨.bool (.sym (zaH s.den)),[],[]⟩;generalize s.den=s at ha ⊢
 let I:Ifc:=⟨[],[],[.str (.sym s)]⟩
 have hb:∀ b:SB,b.den=zaH s->∀ H2:List SO,I.zdf base [] ⟨.bool (.sym (zaH s)),[],[]⟩ (.bool b) H2:=fun b hb H2=>qkd rfl ⟨b,rfl,hb⟩;by_cases h1:1<=s.size
 . by_cases h32:s.size<=32
   . exact qzb (c:=zcb) hH I (by intro g j hg; cases hg) ha (qfd rfl).q [] (by simp) (by simp) (qjb (jvg s h1 h32) fun v H h=>qkd rfl h)
   . refine qmb q7h 20000 hH I (by intro g j hg; cases hg) ha (qfd rfl).q [] (by simp) (by simp) (q5a (jrg s) (zaa (decide_eq_true (by omega)) (zaa (by rw [decide_eq_false (show ¬ ((s.size:Nat):Int)<=32 by omega)]; rfl) qaa)) fun H2 _=>hb (.lit false) (qpf fun h=>h32 h.2.1).symm H2)
 . refine qmb q7h 20000 hH I (by intro g j hg; cases hg) ha (qfd rfl).q [] (by simp) (by simp) (q5a (jal s) (qtb (decide_eq_false (by omega)) 4) fun H2 _=>hb (.lit false) (qpf fun h=>h1 h.1).symm H2)
end
noncomputable section
open Go.Sim
open Go.Proofs
variable {α:Type}
section
variable (s:ByteArray) (i:Nat)
def rdT (st:Option (Nat × Nat)):Tree:=qla (zcb.at st) 4000 54 [.str (.sym s)] []
def rdC:Cut:=⟨q0b (qvb (rdT s (some (1,3))) []).frames [[(0,.str (.sym s)),(3,.int .i64 (.sym i))]],[]⟩
def qg6:Int:=((s.data.getD ((i:Int) - 1).toNat 0).toBitVec.toNat:Int)
def rdI (q:List Prop):List Prop:=(decide ((i:Int)<(s.size:Int))=true)::((0:Int)<=(i:Int)/\(i:Int)<(s.size:Int))::q
def zk7 (q:List Prop):List Prop:=((zaI s i == 46)=true)::q
def jle (b:Bool) (q:List Prop):List Prop:=zk7 s i ((((i:Int) == 0)=false)::qra ((s.size:Int) - 1)::(((i:Int) == (s.size:Int) - 1)=false)::qra ((i:Int) - 1)::((0:Int)<=(i:Int) - 1/\(i:Int) - 1<(s.size:Int))::((qg6 s i == 46)=b)::q)
def zhE (q:List Prop):List Prop:=app (zaX ((zaI s i == 46)=false) 7) (((zaI s i != 46)=true)::q)
def zh8 (q:List Prop):List Prop:=zhE s i (((zaI s i != 45)=true)::app (zaX (decide (zaI s i>=65)=false) 3) q)
def rdN (J:zaW) (ds:List Bool) (z:Nat->Nat->Nat):zgV:=zaq [] (rdC s i) [] (zaY (zcb.at (some (1,3))) 4000 ((rdC s i).fill J)) (true::ds) z
def rdE (J:zaW) (ds:List Bool) (z:Nat->Nat->Nat):zgV:=zaq [] (rdC s i) [] (zaY (zcb.at none) 4000 ((rdC s i).fill J)) ds z
def rdX:Option ((SV × List (Option SO)) ⊕ Seen):=some (.inr (qia [] 0 (rdC s (i+1))))
variable (J:zaW) (z:Nat->Nat->Nat)
theorem jwg:zaq [] (rdC s 0) [] (rdT s (some (1,3))) [] z=([],some (.inr (qva [(0,3,.int .i64 (.lit 0))] [] (qia [] 0 (rdC s 0))))):=by kernel_rfl
theorem zjK:rdN s i J [true,false,false,false,false,false,false] z=(rdI s i (jle s i false (app (zaX ((zaI s i != 46)=false) 3) [qra ((i:Int)+1)])),rdX s i):=by kernel_rfl
theorem zjJ:rdN s i J (app (zaX false 7) (true::zaX false 6)) z=(rdI s i (zhE s i (app (zaX ((zaI s i != 45)=false) 6) [qra ((i:Int)+1)])),rdX s i):=by kernel_rfl
theorem zjI:rdN s i J (app (zaX false 7) (true::true::true::zaX false 6)) z=(rdI s i (zhE s i (((zaI s i != 45)=true)::(decide (zaI s i>=65)=true)::app (zaX ((!decide (zaI s i<=90))=false) 6) [qra ((i:Int)+1)])),rdX s i):=by kernel_rfl
theorem zjH:rdN s i J (app (zaX false 7) (true::true::app (zaX false 3) [true,false])) z=(rdI s i (zh8 s i [decide (zaI s i>=48)=true,(!decide (zaI s i<=57))=false,qra ((i:Int)+1)]),rdX s i):=by kernel_rfl
theorem zjG:rdE s i J (true::true::zaX true 6) z=(rdI s i (zk7 s i (zaX (((i:Int) == 0)=true) 6)),noR):=by kernel_rfl
theorem zjF:rdE s i J (true::true::false::zaX true 6) z=(rdI s i (zk7 s i ((((i:Int) == 0)=false)::qra ((s.size:Int) - 1)::zaX (((i:Int) == (s.size:Int) - 1)=true) 6)),noR):=by kernel_rfl
theorem zjE:rdE s i J [true,true,false,false,true] z=(rdI s i (jle s i true []),noR):=by kernel_rfl
theorem zjN:rdE s i J (true::app (zaX false 7) (true::true::zaX false 6)) z=(rdI s i (zh8 s i (zaX (decide (zaI s i>=48)=false) 3)),noR):=by kernel_rfl
theorem zjM:rdE s i J (true::app (zaX false 7) (true::true::app (zaX false 3) [true,true])) z=(rdI s i (zh8 s i [decide (zaI s i>=48)=true,(!decide (zaI s i<=57))=true]),noR):=by kernel_rfl
theorem zjL:rdE s i J (true::app (zaX false 7) [true,true,true,true,true,true]) z=(rdI s i (zhE s i [(zaI s i != 45)=true,decide (zaI s i>=65)=true,(!decide (zaI s i<=90))=true,decide (zaI s i>=48)=true,(!decide (zaI s i<=57))=true]),noR):=by kernel_rfl
theorem jel:rdE s i J [false,true] z=([decide ((i:Int)<(s.size:Int))=false,decide ((s.size:Int)>=1)=true],some (.inl (.bool (.sym (decide ((s.size:Int)<=32))),[]))):=by kernel_rfl
theorem jfl:rdE s i J (zaX false 5) z=((decide ((i:Int)<(s.size:Int))=false)::zaX (decide ((s.size:Int)>=1)=false) 4,noR):=by kernel_rfl
theorem qrj (j:Nat):zab (qna 0 [] (rdC s i) (rdC s j)) (zaG qma (rdC s j).heap) false=true:=by kernel_rfl
theorem jgl:(((rdC s i).frames[0]?).bind fun p=>p.tmps[3]?)=some (some (.int .i64 (.sym i))):=by kernel_rfl
end
theorem zhL {a b:Int} (h:a≠b):(a == b)=false:=beq_eq_false_iff_ne.2 h
theorem zhK {a b:Int} (h:a=b):(a != b)=false:=by subst h; simp
theorem zhJ {a b:Int} (h:a≠b):(a != b)=true:=bne_iff_ne.2 h
theorem eqT {a b:Int} (h:a=b):(a == b)=true:=by subst h; simp
theorem zhe {p:Prop} [Decidable p] (h:¬ p):(!decide p)=true:=by rw [decide_eq_false h]; rfl
theorem zh7 {p:Prop} [Decidable p] (h:p):(!decide p)=false:=by rw [decide_eq_true h]; rfl
theorem jxg (s:ByteArray) (hbig:s.size<=9223372036854775807):Runs zcb 54 [.str (.sym s)] [] fun v _=>∃ b,v=.bool b/\b.den=zaH s:=by
 have hno:¬ zbl s->∀ H:List SO,(fun (v:SV) (_:List SO)=>∃ b,v=.bool b/\b.den=zaH s) (.bool (.lit false)) H:=fun hn _=>⟨_,rfl,(qpf hn).symm⟩;refine q7c q7h (rdC s) (fun i=>i<=s.size/\∀ j,j<i->chP s j) (fun i=>s.size - i) (fun g nm hg=>by cases hg) ?_ fun i hi J => ?_
 . refine qgc (some (1,3)) 4000 0 ⟨Nat.zero_le _,fun j hj=>by omega⟩ (jwg s) (qrj s 0 0) (fun m hm p u hp hu => ?_) (by simp) qaa
   obtain rfl:m=(0,3,.int .i64 (.lit 0)):=by simpa using hm
   exact q6a (jgl s 0) hp hu (qab rfl)
 obtain ⟨hi1,hi2⟩:=hi;by_cases hin:i<s.size
 . have hI:∀ q:List Prop,(∀ p∈q,p)->∀ p∈rdI s i q,p:=fun q hq=>zaa (decide_eq_true (by omega)) (zaa ⟨by omega,by omega⟩ hq)
   have h64:qra ((i:Int)+1):=⟨by omega,by omega⟩
   have hnext:chP s i->(i+1<=s.size/\∀ j,j<i+1->chP s j)/\s.size - (i+1)<s.size - i:=fun hc=>⟨⟨by omega,fun j hj=>by
    by_cases hj':j<i
    . exact hi2 j hj'
    . obtain rfl:j=i:=by omega
      exact hc⟩,by omega⟩
   have hbad:¬ chP s i->¬ zbl s:=fun hc h=>hc (h.2.2 i hin);have zhr:i≠0->qg6 s i=zaI s (i - 1):=fun h0=>by
    unfold qg6 zaI;rw [show ((i:Int) - 1).toNat=i - 1 by omega]
   by_cases hd:zaI s i=46
   . have hdT:=eqT hd;have hok:okc (zaI s i)->False:=fun h=>qfl h hd;by_cases h0:i=0
     . exact qta none 4000 (zjG s i J) (hI _ (zaa hdT (qtb (eqT (by omega)) 6))) fun H _=>hno (hbad fun h=>by rcases h with h | h; exact hok h; exact h.2.1 h0) H
     have h0F:((i:Int) == 0)=false:=zhL (by omega)
     have c1:qra ((s.size:Int) - 1):=⟨by omega,by omega⟩
     by_cases hl:i+1=s.size
     . exact qta none 4000 (zjF s i J) (hI _ (zaa hdT (zaa h0F (zaa c1 (qtb (eqT (by omega)) 6))))) fun H _=>hno (hbad fun h=>by rcases h with h | h; exact hok h; exact h.2.2.1 hl) H
     have hlF:((i:Int) == (s.size:Int) - 1)=false:=zhL (by omega)
     have c2:qra ((i:Int) - 1):=⟨by omega,by omega⟩
     have c3:(0:Int)<=(i:Int) - 1/\(i:Int) - 1<(s.size:Int):=⟨by omega,by omega⟩
     by_cases hp:zaI s (i - 1)=46
     . exact qta none 4000 (zjE s i J) (hI _ (zaa hdT (zaa h0F (zaa c1 (zaa hlF (zaa c2 (zaa c3 (zaa (eqT (by rw [zhr h0]; exact hp)) qaa)))))))) fun H _=>hno (hbad fun h=>by rcases h with h | h; exact hok h; exact h.2.2.2 hp) H
     . exact qya (some (1,3)) 4000 (i+1) (hnext (.inr ⟨hd,h0,hl,hp⟩)) (zjK s i J) (qrj s i (i+1)) (hI _ (zaa hdT (zaa h0F (zaa c1 (zaa hlF (zaa c2 (zaa c3 (zaa (zhL (by rw [zhr h0]; exact hp)) (qpa (qtb (zhK hd) 3) (zaa h64 qaa))))))))))
   . have hC:∀ q:List Prop,(∀ p∈q,p)->∀ p∈zhE s i q,p:=fun q hq=>qpa (qtb (zhL hd) 7) (zaa (zhJ hd) hq);have zgr:¬ okc (zaI s i)->¬ zbl s:=fun hc=>hbad fun h=>by rcases h with h | h; exact hc h; exact hd h.1
     by_cases a3:zaI s i=45
     . exact qya (some (1,3)) 4000 (i+1) (hnext (.inl (.inr (.inr a3)))) (zjJ s i J) (qrj s i (i+1)) (hI _ (hC _ (qpa (qtb (zhK a3) 6) (zaa h64 qaa))))
     have a3T:=zhJ a3;have hL:zaI s i<65->∀ q:List Prop,(∀ p∈q,p)->∀ p∈zh8 s i q,p:=fun hl q hq=>hC _ (zaa a3T (qpa (qtb (decide_eq_false (by omega)) 3) hq))
     by_cases a1:65<=zaI s i
     . by_cases a2:zaI s i<=90
       . exact qya (some (1,3)) 4000 (i+1) (hnext (.inl (.inl ⟨a1,a2⟩))) (zjI s i J) (qrj s i (i+1)) (hI _ (hC _ (zaa a3T (zaa (decide_eq_true a1) (qpa (qtb (zh7 a2) 6) (zaa h64 qaa))))))
       . exact qta none 4000 (zjL s i J) (hI _ (hC _ (zaa a3T (zaa (decide_eq_true a1) (zaa (zhe a2) (zaa (decide_eq_true (by omega)) (zaa (zhe (by omega)) qaa))))))) fun H _=>hno (zgr fun h=>by rcases h with h | h | h <;> omega) H
     . by_cases a4:48<=zaI s i
       . by_cases a5:zaI s i<=57
         . exact qya (some (1,3)) 4000 (i+1) (hnext (.inl (.inr (.inl ⟨a4,a5⟩)))) (zjH s i J) (qrj s i (i+1)) (hI _ (hL (by omega) _ (zaa (decide_eq_true a4) (zaa (zh7 a5) (zaa h64 qaa)))))
         . exact qta none 4000 (zjM s i J) (hI _ (hL (by omega) _ (zaa (decide_eq_true a4) (zaa (zhe a5) qaa)))) fun H _=>hno (zgr fun h=>by rcases h with h | h | h <;> omega) H
       . exact qta none 4000 (zjN s i J) (hI _ (hL (by omega) _ (qtb (decide_eq_false (by omega)) 3))) fun H _=>hno (zgr fun h=>by rcases h with h | h | h <;> omega) H
 . have e:i=s.size:=by omega
   by_cases h1:1<=s.size
   . refine qta none 4000 (jel s i J) (zaa (decide_eq_false (by omega)) (zaa (decide_eq_true (by omega)) qaa)) fun H _=>⟨_,rfl,?_⟩
     show decide ((s.size:Int)<=32)=_;by_cases h32:s.size<=32
     . rw [qgg ⟨h1,h32,fun j hj=>hi2 j (by omega)⟩]
       exact decide_eq_true (by omega)
     . rw [qpf fun h=>h32 h.2.1];exact decide_eq_false (by omega)
   . exact qta none 4000 (jfl s i J) (zaa (decide_eq_false (by omega)) (qtb (decide_eq_false (by omega)) 4)) fun H _=>hno (fun h=>h1 h.1) H
def rldS:zaR:=fun args _ _=>q2f args fun v=>zah (zbH v) (.stuck 7795) fun s=>.need (s.den.size<=9223372036854775807) (.ok ⟨.bool (.sym (zaH s.den)),[],[]⟩)
theorem zjo:q2a Tryd.prog 54 rldS:=by
 intro glob O w0 β H w base args vs hH hG ha;refine qed fun v hv=>qca fun s hs=>fun hb => ?_
 rw [hv,qua hs] at ha;have ha:=qja (qhb (t:=.sym s.den) rfl) qsb _ _ ha;show qob Tryd.prog H β w base _ vs ⟨.bool (.sym (zaH s.den)),[],[]⟩;generalize s.den=s at ha hb ⊢
 let I:Ifc:=⟨[],[],[.str (.sym s)]⟩
 exact qzb (c:=zcb) hH I (by intro g j hg; cases hg) ha (qfd rfl).q [] (by simp) (by simp) (qjb (jxg s hb) fun v H h=>qkd rfl h)
end
noncomputable section
open Go.Sim
open Go.Proofs
variable {α:Type}
def zdg (S:Nat->ByteArray):Nat->SV:=fun i=>.str (.sym (S i))
def IsS (g:Nat->SV):Prop:=∀ i,g i=.str (.sym (zg3 (g i)))
theorem jdc (S:Nat->ByteArray):IsS (zdg S):=fun _=>rfl
theorem jhl {g:Nat->SV} (h:IsS g):zdg (fun i=>zg3 (g i))=g:=funext fun i=>(h i).symm
def uns (l:List SV):Option (List ByteArray):=List.rec (motive:=fun _=>Option (List ByteArray)) (some []) (fun v _ ih=>zah (zbH v) none fun s=>zah ih none fun xs=>some (s.den::xs)) l
def q2c (l:List ByteArray) (i:Nat):ByteArray:=(l[i]?).getD .empty
def sx (l:List ByteArray):List SV:=zar (fun s=>SV.str (.sym s)) l
theorem qkv {β γ:Type} {o:Option β} {f:β->Option γ} {r:γ} (h:zah o none f=some r):∃ x,o=some x/\f x=some r:=by
 cases o with
 | none=>cases h
 | some x=>exact ⟨x,rfl,h⟩
theorem q6t:∀ {l:List SV} {xs:List ByteArray},uns l=some xs->SV.zfL l (sx xs)
 | [],xs,h=>by cases h; exact SV.zfL.refl _
 | v::l,xs,h=>by
   obtain ⟨s,hs,h⟩:=qkv (show (zah (zbH v) none fun s=>zah (uns l) none fun xs=>some (s.den::xs))=some xs from h)
   obtain ⟨ys,hy,h⟩:=qkv h;cases h;rw [qua hs];exact qja (qhb (t:=.sym s.den) rfl) (q6t hy)
theorem qyz {γ:Val}:∀ {xs:List ByteArray} {vs:List Value},SV.zak γ (sx xs)=some vs->zaj γ (.fn (zdg (q2c xs)) xs.length) vs
 | [],vs,h=>by cases h; exact ⟨rfl,fun i x hx=>by simp at hx⟩
 | x::xs,vs,h=>by
   obtain ⟨v,us,hv,hu,rfl⟩:=zad.1 (show SV.zak γ (.str (.sym x)::sx xs)=some vs from h)
   obtain ⟨h1,h2⟩:=qyz hu;refine ⟨by simp [h1],fun i y hy => ?_⟩
   cases i with
   | zero =>
     simp at hy; subst hy;cases hv; rfl
   | succ i=>exact h2 i y (by simpa using hy)
def qh6 (c:Cells) (f:(Nat->ByteArray)->Nat->R α):R α :=
 Cells.rec (motive:=fun _=>R α) (fun l=>zah (uns l) (.stuck 7801) fun xs=>f (q2c xs) (zay xs)) (fun g n=>.need (IsS g) (f (fun i=>zg3 (g i)) n)) (fun V n=>.need (∀ i,i<n->zcK .s (V i)) (f (fun i=>zcQ (V i)) n)) c
def jme (e:Option SO) (f:(Nat->ByteArray)->Nat->R α):R α :=
 zah e (.stuck 7803) fun e=>SO.rec (motive:=fun _=>R α) (fun c _ _=>qh6 c f) (fun c=>qh6 c f) (fun _ _ _ _ _ _ _ _=>.stuck 7804) (fun _=>.stuck 7804) (.stuck 7804) (fun _=>.stuck 7804) (fun _=>.stuck 7804) e
theorem qlv {c:Cells} {f:(Nat->ByteArray)->Nat->R α} {φ:α->Prop} (h:∀ S n,c.Imp (.fn (zdg S) n)->(f S n).Sat φ):(qh6 c f).Sat φ:=by
 cases c with
 | lst l =>
   refine qca fun xs hx=>h _ _ fun γ vs hv => ?_
   rw [qha];exact qyz (q6t hx _ _ hv)
 | fn g n =>
   intro hg;refine h _ _ ?_
   rw [jhl hg]; exact .refl _
 | raw V n =>
   intro hV;refine h _ _ fun γ vs hv => ?_
   obtain ⟨h1,h2⟩:=hv;refine ⟨h1,fun i x hx => ?_⟩;have hi:i<n:=by have:=(List.getElem?_eq_some_iff.1 hx).1; omega
   rw [h2 i x hx];exact hV i hi γ
theorem q88 {e:Option SO} {f:(Nat->ByteArray)->Nat->R α} {φ:α->Prop} (h:∀ S n,(∀ g,∃ e',e=some e'/\Taken g (q55 S n) e')->(f S n).Sat φ):(jme e f).Sat φ:=by
 refine qca fun e' he => ?_
 cases e' with
 | own c w el=>exact qlv fun S n hi=>h S n fun g=>⟨_,he,q6h (c0:=c) (.inr ⟨w,el,rfl⟩) hi.front⟩
 | row c=>exact qlv fun S n hi=>h S n fun g=>⟨_,he,q6h (c0:=c) (.inl rfl) hi.front⟩
 | loop=>trivial
 | deferred=>trivial
 | gone=>trivial
 | obj=>trivial
 | mem=>trivial
theorem qi6 (p:Nat->Bool) (S:Nat->ByteArray) (n:Nat):(q55 S n).zdp p:=fun _=>rfl
structure Ss where
 S:Nat->ByteArray
 N:Nat
 o:Nat
 n:Nat
 b:Bool
 k:Nat
def Ss.row (s:Ss):SO:=q55 s.S s.N
def Ss.val (s:Ss) (nm:Nat):SV:=.slice ⟨nm,.sym s.o⟩ (.sym s.n) (zab s.b (.rest nm s.k) (.sym s.k))
def Ss.at (s:Ss) (i:Nat):ByteArray:=s.S (s.o+i)
def Ss.pl (s:Ss) (m:Nat):Ss:=⟨s.S,s.N,s.o,s.n,false,m⟩
def Ss.ok (s:Ss):Prop:=s.o+s.n<=s.N/\s.n<=1099511627776
def capL (nm:Nat) (c:SC):Option (Bool × Nat):=SC.rec (motive:=fun _=>Option (Bool × Nat)) (fun m=>some (false,m)) (fun m=>some (false,m)) (fun q k=>zab (Nat.beq q nm) (some (true,k)) none) c
theorem jec {nm:Nat} {c:SC} {bk:Bool × Nat} (h:capL nm c=some bk) (γ:Val):c.den γ=(zab bk.1 (.rest nm bk.2) (.sym bk.2):SC).den γ:=by
 cases c with
 | lit m=>cases h; rfl
 | sym m=>cases h; rfl
 | rest q k =>
   have h:zab (Nat.beq q nm) (some (true,k)) none=some bk:=h;cases hq:Nat.beq q nm with
   | false=>rw [hq] at h; cases h
   | true =>
     rw [hq] at h;cases h;rw [Nat.eq_of_beq_eq_true hq]; rfl
def zck:Ss:=⟨fun _=>.empty,0,0,0,false,0⟩
def qzz (H:List SO) (v:SV) (f:Ss->Nat->R α):R α:=v.asSlice (.stuck 7805) fun a l c=>zah (capL a.nm c) (.stuck 7806) fun bk=>jme (nth H a.nm) fun S N=>f ⟨S,N,a.off.den,l.den,bk.1,bk.2⟩ a.nm
theorem qj6 {H:List SO} {v:SV} {f:Ss->Nat->R α} {φ:α->Prop} (h:∀ t nm,(∀ g,∃ e',H[nm]? = some e'/\Taken g t.row e')->v.Imp (t.val nm)->(f t nm).Sat φ):(qzz H v f).Sat φ:=by
 unfold qzz;rcases qse v with ⟨a,l,c,rfl⟩ | hv
 . refine qca fun bk hbk=>q88 fun S N ht=>h ⟨S,N,a.off.den,l.den,bk.1,bk.2⟩ a.nm (fun g=>by rw [← qea]; exact ht g) fun γ x hx => ?_
   rw [zaf] at hx;obtain ⟨A,C,hA,hC,hle,rfl⟩:=hx;rw [show (Ss.val ⟨S,N,a.off.den,l.den,bk.1,bk.2⟩ a.nm)=.slice ⟨a.nm,.sym a.off.den⟩ (.sym l.den) (zab bk.1 (.rest a.nm bk.2) (.sym bk.2)) from rfl,zaf]
   exact ⟨A,C,hA,by rw [← jec hbk]; exact hC,hle,rfl⟩
 . rw [hv]; trivial
def qbk (H:List SO) (v:SV) (f:Ss->Option Nat->R α):R α:=qus v (f zck none) fun _ _=>qzz H v fun t tn=>f t (some tn)
theorem qie {H:List SO} {v:SV} {f:Ss->Option Nat->R α} {φ:α->Prop} (h0:v=.zac->(f zck none).Sat φ) (h:∀ t nm,(∀ g,∃ e',H[nm]? = some e'/\Taken g t.row e')->v.Imp (t.val nm)->(f t (some nm)).Sat φ):(qbk H v f).Sat φ :=
 qnm h0 fun _ _ _ _=>qj6 h
theorem Ss.zbq (t:Ss) (p:Nat->Bool):t.row.zdp p:=qi6 _ _ _
theorem Ss.zcA (t:Ss) (f:Nat->Nat) (nm:Nat):(t.val nm).ren f=t.val (f nm):=by
 unfold Ss.val;cases t.b <;> rfl
theorem Ss.zce (t:Ss) (p:Nat->Bool) (nm:Nat) (h:p nm=true):(t.val nm).uses p=true:=by
 unfold Ss.val;cases t.b with
 | false=>show p nm && true=true; rw [h]; rfl
 | true=>show (p nm && p nm)=true; rw [h]; rfl
theorem Ss.zcB {t:Ss} {nm:Nat} {γ:Val} {x:Value} (h:(t.val nm).den γ=some x):∃ m,t.n<=m/\((t.pl m).val nm).den γ=some x:=by
 obtain ⟨m,hm,hd,_,_⟩:=qko (show (SV.slice ⟨nm,.sym t.o⟩ (.sym t.n) (zab t.b (.rest nm t.k) (.sym t.k))).den γ=some x from h)
 exact ⟨m,hm,hd⟩
end
noncomputable section
open Go.Sim
open Go.Proofs
variable {α:Type}
theorem qsj {c:Cfg} (hc:zaw c) (C:Nat->Cut) (p:Nat->Prop) (n:Nat) {D:SV->List SO->Prop} {f:FuncId} {args:List SV} {H:List SO} (hgl:∀ g nm,c.glob g=some nm->nm<H.length)
  (h0:∀ Q:Nat->Prop,Q 0->qoj c H.length C Q D f args H)
  (h1:∀ i,i<n->p i->∀ J (Q:Nat->Prop),Q (i+1)->qgb c H.length C Q D ((C i).fill J))
  (h2:∀ i,i<n->¬ p i->∀ J (Q:Nat->Prop),qgb c H.length C Q D ((C i).fill J))
  (h3:(∀ j,j<n->p j)->∀ J (Q:Nat->Prop),qgb c H.length C Q D ((C n).fill J)):Runs c f args H D:=by
 refine q7c hc C (fun i=>i<=n/\∀ j,j<i->p j) (fun i=>n - i) hgl (h0 _ ⟨Nat.zero_le _,fun j hj=>by omega⟩) fun i hi J => ?_
 by_cases hin:i<n
 . by_cases hp:p i
   . refine h1 i hin hp J _ ⟨⟨by omega,fun j hj => ?_⟩,by omega⟩
     by_cases c:j<i
     . exact hi.2 j c
     . obtain rfl:j=i:=by omega
       exact hp
   . exact h2 i hin hp J _
 . have e:i=n:=by have:=hi.1; omega
   subst e;exact h3 hi.2 J _
def cB (p:Prop):Bool:=@decide p (Classical.propDecidable _)
theorem q8a {p:Prop} (h:p):cB p=true:=@decide_eq_true _ (Classical.propDecidable _) h
theorem q0a {p:Prop} (h:¬ p):cB p=false:=@decide_eq_false _ (Classical.propDecidable _) h
def qyf (t:Bool) (v:SV):Prop:=∃ b,v=.bool b/\b.den=t
def rlL:List (FuncId × zaR):=[(51,rlmS),(54,rldS)]
theorem jne:∀ y∈rlL,q2a Tryd.prog y.1 y.2:=zb2 zjn (all1 zjo)
def zb4:Cfg:=qyb (q2b rlL)
theorem q0c:zaw zb4:=qdc jne
def inS (t:Ss) (i:Nat) (q:List Prop):List Prop:=(decide ((i:Int)<(t.n:Int))=true)::((0:Int)<=(i:Int)/\(i:Int)<(t.n:Int))::(t.o+i * 1<t.N)::q
def Ss.el (t:Ss) (i:Nat):ByteArray:=t.S (t.o+i * 1)
theorem Ss.zch (t:Ss) (i:Nat):t.el i=t.at i:=by unfold Ss.el Ss.at; rw [Nat.mul_one]
theorem qtd {t:Ss} {i:Nat} (ht:t.ok) (h:i<t.n) {q:List Prop} (hq:∀ p∈q,p):∀ p∈inS t i q,p:=by
 have:=ht.1;exact zaa (decide_eq_true (by omega)) (zaa ⟨by omega,by omega⟩ (zaa (by omega) hq))
section
variable (t:Ss) (k:Nat) (m:Int) (i:Nat) (J:zaW) (z:Nat->Nat->Nat)
def fwT (st:Option (Nat × Nat)) (v:SV) (H:List SO) (m:Int):Tree:=qla (zb4.at st) 4000 7 [v,.int .i64 (.sym m)] H
def rsT (st:Option (Nat × Nat)) (v:SV) (H:List SO):Tree:=qla (zb4.at st) 4000 34 [v] H
def vdT (st:Option (Nat × Nat)) (v:SV) (H:List SO):Tree:=qla (zb4.at st) 4000 36 [v] H
def fwC:Cut:=⟨q0b (qvb (fwT (some (1,3)) ((t.pl k).val 0) [(t.pl k).row] m) [false]).frames [[(0,(t.pl k).val 0),(5,.int .i64 (.sym i))]],[.ent t.row]⟩
def rsC:Cut:=⟨q0b (qvb (rsT (some (1,3)) ((t.pl k).val 0) [(t.pl k).row]) []).frames [[(5,(t.pl k).val 0),(6,.int .i64 (.sym (t.n:Int))),(7,.int .i64 (.sym i))]],[.ent t.row]⟩
def vdC:Cut:=⟨q0b (qvb (vdT (some (1,3)) ((t.pl k).val 0) [(t.pl k).row]) []).frames [[(0,(t.pl k).val 0),(3,.int .i64 (.sym i))]],[.ent t.row]⟩
theorem jyg:zaP [] (fwT none .zac [] m) [false]=([decide ((0:Int) > m)=false],some (.bool (.lit true),[])):=by kernel_rfl
theorem jzg:zaP [] (fwT none .zac [] m) [true]=([decide ((0:Int) > m)=true],some (.bool (.lit false),[])):=by kernel_rfl
theorem jil:zaP [] (rsT none .zac []) []=([],some (.bool (.lit true),[])):=by kernel_rfl
theorem jjl:zaP [] (vdT none .zac []) []=([],some (.bool (.lit true),[])):=by kernel_rfl
theorem j0g:zaq [] (fwC t k m 0) [0] (fwT (some (1,3)) ((t.pl k).val 0) [(t.pl k).row] m) [false] z=([decide ((t.n:Int) > m)=false],some (.inr (qva [(0,5,.int .i64 (.lit 0))] [] (qia [0] 1 (fwC t k m 0))))):=by kernel_rfl
theorem j1g:zaq [] (rsC t k 0) [0] (rsT (some (1,3)) ((t.pl k).val 0) [(t.pl k).row]) [] z=([],some (.inr (qva [(0,7,.int .i64 (.lit 0))] [] (qia [0] 1 (rsC t k 0))))):=by kernel_rfl
theorem j2g:zaq [] (vdC t k 0) [0] (vdT (some (1,3)) ((t.pl k).val 0) [(t.pl k).row]) [] z=([],some (.inr (qva [(0,3,.int .i64 (.lit 0))] [] (qia [0] 1 (vdC t k 0))))):=by kernel_rfl
theorem j3g:zaq [] (fwC t k m i) [0] (zaY (zb4.at (some (1,3))) 4000 ((fwC t k m i).fill J)) [true,false] z=(inS t i [decide (((t.el i).size:Int) > 60)=false,qra ((i:Int)+1)],some (.inr (qia [0] 1 (fwC t k m (i+1))))):=by kernel_rfl
theorem j4g:zaq [] (rsC t k i) [0] (zaY (zb4.at (some (1,3))) 4000 ((rsC t k i).fill J)) [true,false] z=(inS t i [(!zaH (t.el i))=false,qra ((i:Int)+1)],some (.inr (qia [0] 1 (rsC t k (i+1))))):=by kernel_rfl
theorem j5g:zaq [] (vdC t k i) [0] (zaY (zb4.at (some (1,3))) 4000 ((vdC t k i).fill J)) [true,false] z=(inS t i [(t.el i).size<=9223372036854775807,(!zaH (t.el i))=false,qra ((i:Int)+1)],some (.inr (qia [0] 1 (vdC t k (i+1))))):=by kernel_rfl
theorem j6g:zaq [] (fwC t k m i) [0] (zaY (zb4.at none) 4000 ((fwC t k m i).fill J)) [true,true] z=(inS t i [decide (((t.el i).size:Int) > 60)=true],noR):=by kernel_rfl
theorem j7g:zaq [] (rsC t k i) [0] (zaY (zb4.at none) 4000 ((rsC t k i).fill J)) [true,true] z=(inS t i [(!zaH (t.el i))=true],noR):=by kernel_rfl
theorem j8g:zaq [] (vdC t k i) [0] (zaY (zb4.at none) 4000 ((vdC t k i).fill J)) [true,true] z=(inS t i [(t.el i).size<=9223372036854775807,(!zaH (t.el i))=true],noR):=by kernel_rfl
theorem jkl:zaq [] (fwC t k m i) [0] (zaY (zb4.at none) 4000 ((fwC t k m i).fill J)) [false] z=([decide ((i:Int)<(t.n:Int))=false],zfN):=by kernel_rfl
theorem jll:zaq [] (rsC t k i) [0] (zaY (zb4.at none) 4000 ((rsC t k i).fill J)) [false] z=([decide ((i:Int)<(t.n:Int))=false],zfN):=by kernel_rfl
theorem jml:zaq [] (vdC t k i) [0] (zaY (zb4.at none) 4000 ((vdC t k i).fill J)) [false] z=([decide ((i:Int)<(t.n:Int))=false],zfN):=by kernel_rfl
theorem q0z (j:Nat):zab (qna 1 [0] (fwC t k m i) (fwC t k m j)) (zaG qma (fwC t k m j).heap) false=true:=by kernel_rfl
theorem q1z (j:Nat):zab (qna 1 [0] (rsC t k i) (rsC t k j)) (zaG qma (rsC t k j).heap) false=true:=by kernel_rfl
theorem q2z (j:Nat):zab (qna 1 [0] (vdC t k i) (vdC t k j)) (zaG qma (vdC t k j).heap) false=true:=by kernel_rfl
theorem jnl:(((fwC t k m i).frames[0]?).bind fun p=>p.tmps[5]?)=some (some (.int .i64 (.sym i))):=by kernel_rfl
theorem jol:(((rsC t k i).frames[0]?).bind fun p=>p.tmps[7]?)=some (some (.int .i64 (.sym i))):=by kernel_rfl
theorem jpl:(((vdC t k i).frames[0]?).bind fun p=>p.tmps[3]?)=some (some (.int .i64 (.sym i))):=by kernel_rfl
end
def zif (t:Ss) (m:Int):Prop:=(t.n:Int)<=m/\∀ i,i<t.n->(t.at i).size<=60
def zdF (t:Ss):Prop:=∀ i,i<t.n->zbl (t.at i)
theorem q7t {s:ByteArray}:zbl s->(!zaH s)=false:=fun h=>by rw [qgg h]; rfl
theorem q3z {s:ByteArray}:¬ zbl s->(!zaH s)=true:=fun h=>by rw [qpf h]; rfl
theorem j9g {t:Ss} (k:Nat) {m:Int} (ht:t.ok) (hm:(t.n:Int)<=m):Runs zb4 7 [(t.pl k).val 0,.int .i64 (.sym m)] [(t.pl k).row] fun v _=>qyf (cB (zif t m)) v:=by
 have hn:=ht.2;refine qsj q0c (fwC t k m) (fun i=>(t.at i).size<=60) t.n (fun g nm hg=>by cases hg) (fun Q hQ => ?_) (fun i hi hp J Q hQ => ?_) (fun i hi hp J Q => ?_) (fun hp J Q => ?_)
 . refine qgc (some (1,3)) 4000 0 hQ (j0g t k m) (q0z t k m 0 0) (fun q hq p u hp hu => ?_) (fun e he=>by cases he) (zaa (decide_eq_false (by omega)) qaa)
   obtain rfl:q=(0,5,.int .i64 (.lit 0)):=by simpa using hq
   exact q6a (jnl t k m 0) hp hu (qab rfl)
 . exact qya (some (1,3)) 4000 (i+1) hQ (j3g t k m i J) (q0z t k m i (i+1)) (qtd ht hi (zaa (decide_eq_false (by rw [t.zch]; omega)) (zaa ⟨by omega,by omega⟩ qaa)))
 . exact qta none 4000 (j6g t k m i J) (qtd ht hi (zaa (decide_eq_true (by rw [t.zch]; omega)) qaa)) fun H _=>⟨_,rfl,(q0a fun h=>hp (h.2 i hi)).symm⟩
 . exact qta none 4000 (jkl t k m t.n J) (zaa (decide_eq_false (by omega)) qaa) fun H _=>⟨_,rfl,(q8a ⟨hm,hp⟩).symm⟩
theorem jah {t:Ss} (k:Nat) (ht:t.ok):Runs zb4 34 [(t.pl k).val 0] [(t.pl k).row] fun v _=>qyf (cB (zdF t)) v:=by
 have hn:=ht.2;refine qsj q0c (rsC t k) (fun i=>zbl (t.at i)) t.n (fun g nm hg=>by cases hg) (fun Q hQ => ?_) (fun i hi hp J Q hQ => ?_) (fun i hi hp J Q => ?_) (fun hp J Q => ?_)
 . refine qgc (some (1,3)) 4000 0 hQ (j1g t k) (q1z t k 0 0) (fun q hq p u hp hu => ?_) (fun e he=>by cases he) qaa
   obtain rfl:q=(0,7,.int .i64 (.lit 0)):=by simpa using hq
   exact q6a (jol t k 0) hp hu (qab rfl)
 . exact qya (some (1,3)) 4000 (i+1) hQ (j4g t k i J) (q1z t k i (i+1)) (qtd ht hi (zaa (by rw [t.zch]; exact q7t hp) (zaa ⟨by omega,by omega⟩ qaa)))
 . exact qta none 4000 (j7g t k i J) (qtd ht hi (zaa (by rw [t.zch]; exact q3z hp) qaa)) fun H _=>⟨_,rfl,(q0a fun h=>hp (h i hi)).symm⟩
 . exact qta none 4000 (jll t k t.n J) (zaa (decide_eq_false (by omega)) qaa) fun H _=>⟨_,rfl,(q8a hp).symm⟩
theorem jbh {t:Ss} (k:Nat) (ht:t.ok) (hs:∀ i,i<t.n->(t.at i).size<=9223372036854775807):Runs zb4 36 [(t.pl k).val 0] [(t.pl k).row] fun v _=>qyf (cB (zdF t)) v:=by
 have hn:=ht.2;refine qsj q0c (vdC t k) (fun i=>zbl (t.at i)) t.n (fun g nm hg=>by cases hg) (fun Q hQ => ?_) (fun i hi hp J Q hQ => ?_) (fun i hi hp J Q => ?_) (fun hp J Q => ?_)
 . refine qgc (some (1,3)) 4000 0 hQ (j2g t k) (q2z t k 0 0) (fun q hq p u hp hu => ?_) (fun e he=>by cases he) qaa
   obtain rfl:q=(0,3,.int .i64 (.lit 0)):=by simpa using hq
   exact q6a (jpl t k 0) hp hu (qab rfl)
 . exact qya (some (1,3)) 4000 (i+1) hQ (j5g t k i J) (q2z t k i (i+1)) (qtd ht hi (zaa (by rw [t.zch]; exact hs i hi) (zaa (by rw [t.zch]; exact q7t hp) (zaa ⟨by omega,by omega⟩ qaa))))
 . exact qta none 4000 (j8g t k i J) (qtd ht hi (zaa (by rw [t.zch]; exact hs i hi) (zaa (by rw [t.zch]; exact q3z hp) qaa))) fun H _=>⟨_,rfl,(q0a fun h=>hp (h i hi)).symm⟩
 . exact qta none 4000 (jml t k t.n J) (zaa (decide_eq_false (by omega)) qaa) fun H _=>⟨_,rfl,(q8a hp).symm⟩
end
noncomputable section
open Go.Sim
open Go.Proofs
variable {α:Type}
theorem q5s {g:FuncId->Option zaR} {f:FuncId} {O:Nat->Prop} {w0 w:World} {β:Val} {H:List SO} {base:Nat} {vs:List Value} (hH:HeapRel0 Tryd.prog O w0 β H w) {v:SV} {t:Ss} {nm:Nat} {rest:List SV} (ha:SV.zak β (v::rest)=some vs)
  (ht:∀ g,∃ e',H[nm]? = some e'/\Taken g t.row e') (hi:v.Imp (t.val nm)) (hr:∀ f,SV.zbA f rest=rest) (hu:∀ p,SV.za5 p rest=true) {b:Bool} (hrun:∀ k,Runs (qyb g) f ((t.pl k).val 0::rest) [t.row] fun v _=>qyf b v) :
  qob Tryd.prog H β w base f vs ⟨.bool (.sym b),[],[]⟩:=by
 obtain ⟨x,ys,hx,hys,rfl⟩:=zad.1 ha;obtain ⟨k,_,hx'⟩:=Ss.zcB (hi _ _ hx);refine qzb (c:=qyb g) hH ⟨[nm],[t.row],(t.pl k).val 0::rest⟩ (by intro g j hg; cases hg) ?_ (Ifc.zbD (by simp) ?_ ⟨⟨ht _,t.zbq _⟩,trivial⟩) [] (by simp) (by simp) (qjb (hrun k) fun v H h=>qkd rfl h)
 . show SV.zak β (((t.pl k).val 0).ren _::SV.zbA _ rest)=_;rw [Ss.zcA,hr]; exact zad.2 ⟨_,_,hx',hys,rfl⟩
 . show (((t.pl k).val 0).uses _ && SV.za5 _ rest)=true;rw [Ss.zce _ _ _ rfl,hu]; rfl
theorem q8h {g:FuncId->Option zaR} (hc:zaw (qyb g)) {f:FuncId} {O:Nat->Prop} {w0 w:World} {β:Val} {H:List SO} {base:Nat} {vs:List Value} (hH:HeapRel0 Tryd.prog O w0 β H w) {args:List SV} (ha:SV.zak β args=some vs) (hr:∀ f,SV.zbA f args=args) (hu:∀ p,SV.za5 p args=true)
  {b t:Bool} {ds:List Bool} {ps:List Prop} {n:Nat} (hrun:zaP [] (qla (qyb g) n f args []) ds=(ps,some (.bool (.lit b),[]))) (hp:∀ p∈ps,p) (hb:b=t):qob Tryd.prog H β w base f vs ⟨.bool (.sym t),[],[]⟩:=by
 subst hb;refine qmb hc n hH ⟨[],[],args⟩ (by intro g j hg; cases hg) ?_ (Ifc.zbD (by simp) (hu _) trivial) [] (by simp) (by simp) (q5a hrun hp fun H2 _=>qkd rfl ⟨_,rfl,rfl⟩)
 show SV.zak β (SV.zbA _ args)=_;rw [hr]; exact ha
def zkF (v:SV):Option SI:=v.asInt none fun k n=>zab (i64K k) (some n) none
theorem qmv {v:SV} {n:SI} (h:zkF v=some n):v=.int .i64 n:=by
 cases v <;> first | (cases h; done) | skip
 rename_i k m;cases k <;> first | (cases h; rfl) | (cases h; done)
def bR (p:Prop):zaz:=⟨.bool (.sym (cB p)),[],[]⟩
def fewS:zaR:=fun args H _=>qke args fun v mv=>zah (zkF mv) (.stuck 7810) fun m=>qbk H v fun t _=>.need ((t.n:Int)<=m.den->t.ok) (.ok (bR (zif t m.den)))
def zg8:zaR:=fun args H _=>q2f args fun v=>qbk H v fun t _=>.need t.ok (.ok (bR (zdF t)))
def zgZ:zaR:=fun args H _=>q2f args fun v=>qbk H v fun t _=>.need (t.ok/\∀ i,i<t.n->(t.at i).size<=9223372036854775807) (.ok (bR (zdF t)))
theorem zk4:q2a Tryd.prog 7 fewS:=by
 intro glob O w0 β H w base args vs hH hG ha;refine qvc fun v mv hv=>qca fun m hm => ?_
 rw [hv,qmv hm] at ha;have ha:=qja (.refl v) (qja (qab (b:=.sym m.den) rfl) qsb) _ _ ha;refine qie (fun hn=>fun _ => ?_) fun t nm ht hi=>fun hok => ?_
 . rw [hn] at ha;by_cases c:(0:Int) > m.den
   . exact q8h q0c hH ha (fun _=>rfl) (fun _=>rfl) (jzg m.den) (zaa (decide_eq_true c) qaa) (q0a fun h=>by have:(0:Int)<=m.den:=h.1; omega).symm
   . exact q8h q0c hH ha (fun _=>rfl) (fun _=>rfl) (jyg m.den) (zaa (decide_eq_false c) qaa) (q8a ⟨by show (0:Int)<=m.den; omega,fun i hi=>by have:i<0:=hi; omega⟩).symm
 . refine q5s (g:=q2b rlL) hH ha ht hi (fun _=>rfl) (fun _=>rfl) fun k => ?_
   by_cases c:(t.n:Int)<=m.den
   . exact j9g k (hok c) c
   . refine q7c q0c (fun _:Nat=>fwC t k m.den 0) (fun _=>False) (fun _=>0) (fun g nm hg=>by cases hg) ?_ fun _ h _=>h.elim
     refine qhv none 4000 (M:=fwC t k m.den 0) (names:=[0]) (js:=[]) (ds:=[true]) (ps:=[decide ((t.n:Int) > m.den)=true]) (v:=.bool (.lit false)) (es:=[]) (fun z => ?_) (zaa (decide_eq_true (by omega)) qaa) fun H _=>⟨_,rfl,(q0a fun h=>c h.1).symm⟩
     kernel_rfl
theorem q2w:q2a Tryd.prog 34 zg8:=by
 intro glob O w0 β H w base args vs hH hG ha;refine qed fun v hv => ?_
 rw [hv] at ha;refine qie (fun hn=>fun _ => ?_) fun t nm ht hi=>fun hok=>q5s (g:=q2b rlL) hH ha ht hi (fun _=>rfl) (fun _=>rfl) fun k=>jah k hok;rw [hn] at ha;exact q8h q0c hH ha (fun _=>rfl) (fun _=>rfl) jil qaa (q8a fun i hi=>by have:i<0:=hi; omega).symm
theorem q3w:q2a Tryd.prog 36 zgZ:=by
 intro glob O w0 β H w base args vs hH hG ha;refine qed fun v hv => ?_
 rw [hv] at ha;refine qie (fun hn=>fun _ => ?_) fun t nm ht hi=>fun ⟨hok,hs⟩=>q5s (g:=q2b rlL) hH ha ht hi (fun _=>rfl) (fun _=>rfl) fun k=>jbh k hok hs;rw [hn] at ha;exact q8h q0c hH ha (fun _=>rfl) (fun _=>rfl) jjl qaa (q8a fun i hi=>by have:i<0:=hi; omega).symm
end
noncomputable section
open Go.Sim
open Go.Proofs
variable {α:Type}
def zcv:Cfg:=qyb fun _=>none
theorem qhg:zaw zcv:=⟨zcG.prog,fun f s h=>(by cases h),fun f s h=>by cases h⟩
def rwV (V:Nat->Value) (N:Nat):SO:=.row (.raw V (N * 2))
def slP (nm n k:Nat):SV:=.slice ⟨nm,.lit 0⟩ (.sym n) (.sym k)
def zk2 (V:Nat->Value) (a:Nat):Prop:=zcK .s (V (a+0))/\zcK .s (V (a+1))/\True
def eqP (V:Nat->Value) (a:Nat) (p:Pr):Bool:=decide (zcQ (V (a+0))=p.1) && decide (zcQ (V (a+1))=p.2)
theorem zfa (s:ByteArray):zcK .s (.string s):=fun _=>rfl
theorem jch {V:Nat->Value} {n i:Nat} (h:PrV V n) (hi:i<n):zk2 V (0+i * 2):=by
 obtain ⟨h1,h2⟩:=h i hi;unfold zk2;rw [Nat.zero_add,Nat.add_zero,h1,h2];exact ⟨zfa _,zfa _,trivial⟩
theorem q6s {V:Nat->Value} {i:Nat} {p:Pr}:eqP V (0+i * 2) p=decide (zbL V i=p):=by
 unfold eqP;rw [Nat.zero_add,Nat.add_zero,← Bool.decide_and];exact decide_eq_decide.2 ⟨fun h=>Prod.ext h.1 h.2,fun h=>⟨congrArg Prod.fst h,congrArg Prod.snd h⟩⟩
section
variable (V:Nat->Value) (N n k:Nat) (x y:ByteArray) (i:Nat) (J:zaW) (z:Nat->Nat->Nat)
def rdP (q:List Prop):List Prop:=(decide ((i:Int)<(n:Int))=true)::((0:Int)<=(i:Int)/\(i:Int)<(n:Int))::(0+i * 2+2<=N * 2)::zk2 V (0+i * 2)::q
def rtT (st:Option (Nat × Nat)):Tree:=qla (zcv.at st) 20000 33 [slP 0 n k,.str (.sym x),.str (.sym y)] [rwV V N]
def rtC:Cut:=⟨q0b (qvb (rtT V N n k x y (some (1,3))) []).frames [[(0,slP 0 n k),(1,.str (.sym x)),(2,.str (.sym y)),(7,.int .i64 (.sym i))]],[.ent (rwV V N)]⟩
def rtS (st:Option (Nat × Nat)):Tree:=zaY (zcv.at st) 20000 ((rtC V N n k x y i).fill J)
theorem jdh:zaq [] (rtC V N n k x y 0) [0] (rtT V N n k x y (some (1,3))) [] z=([],some (.inr (qva [(0,7,.int .i64 (.lit 0))] [] (qia [0] 1 (rtC V N n k x y 0))))):=by kernel_rfl
theorem jeh:zaq [] (rtC V N n k x y i) [0] (rtS V N n k x y i J (some (1,3))) [true,false] z=(rdP V N n i [eqP V (0+i * 2) (x,y)=false,qra ((i:Int)+1)],some (.inr (qia [0] 1 (rtC V N n k x y (i+1))))):=by kernel_rfl
theorem jql:zaq [] (rtC V N n k x y i) [0] (rtS V N n k x y i J none) [true,true] z=(rdP V N n i [eqP V (0+i * 2) (x,y)=true],zfN):=by kernel_rfl
theorem jrl:zaq [] (rtC V N n k x y i) [0] (rtS V N n k x y i J none) [false] z=([decide ((i:Int)<(n:Int))=false],noR):=by kernel_rfl
theorem q4z (j:Nat):zab (qna 1 [0] (rtC V N n k x y i) (rtC V N n k x y j)) (zaG qma (rtC V N n k x y j).heap) false=true:=by kernel_rfl
theorem jsl:(((rtC V N n k x y i).frames[0]?).bind fun p=>p.tmps[7]?)=some (some (.int .i64 (.sym i))):=by kernel_rfl
end
structure Pw where
 V:Nat->Value
 N:Nat
 n:Nat
def Pw.ok (t:Pw):Prop:=t.n<=t.N/\t.n<=1000000/\PrV t.V t.n
def Pw.list (t:Pw):List Pr:=prL t.V t.n
def Pw.has (t:Pw) (p:Pr):Prop:=p∈t.list
theorem Pw.zdw {t:Pw} {p:Pr}:t.has p↔∃ i,i<t.n/\zbL t.V i=p:=by
 unfold Pw.has Pw.list prL;rw [List.mem_map];constructor
 . rintro ⟨i,hi,he⟩; exact ⟨i,List.mem_range.1 hi,he⟩
 . rintro ⟨i,hi,he⟩; exact ⟨i,List.mem_range.2 hi,he⟩
theorem qyi {t:Pw} {i:Nat} (ht:t.ok) (h:i<t.n) {q:List Prop} (hq:∀ p∈q,p):∀ p∈rdP t.V t.N t.n i q,p:=by
 have:=ht.1;exact zaa (decide_eq_true (by omega)) (zaa ⟨by omega,by omega⟩ (zaa (by omega) (zaa (jch ht.2.2 h) hq)))
theorem jfh {t:Pw} (k:Nat) (x y:ByteArray) (ht:t.ok):Runs zcv 33 [slP 0 t.n k,.str (.sym x),.str (.sym y)] [rwV t.V t.N] fun v _=>qyf (cB (t.has (x,y))) v:=by
 have hn:=ht.2.1;refine qsj qhg (rtC t.V t.N t.n k x y) (fun i=>zbL t.V i≠(x,y)) t.n (fun g nm hg=>by cases hg) (fun Q hQ => ?_) (fun i hi hp J Q hQ => ?_) (fun i hi hp J Q => ?_) (fun hp J Q => ?_)
 . refine qgc (some (1,3)) 20000 0 hQ (jdh t.V t.N t.n k x y) (q4z t.V t.N t.n k x y 0 0) (fun q hq p u hp hu => ?_) (fun e he=>by cases he) qaa
   obtain rfl:q=(0,7,.int .i64 (.lit 0)):=by simpa using hq
   exact q6a (jsl t.V t.N t.n k x y 0) hp hu (qab rfl)
 . exact qya (some (1,3)) 20000 (i+1) hQ (jeh t.V t.N t.n k x y i J) (q4z t.V t.N t.n k x y i (i+1)) (qyi ht hi (zaa (by rw [q6s]; exact decide_eq_false hp) (zaa ⟨by omega,by omega⟩ qaa)))
 . have hp:zbL t.V i=(x,y):=Classical.not_not.1 hp;exact qta none 20000 (jql t.V t.N t.n k x y i J) (qyi ht hi (zaa (by rw [q6s]; exact decide_eq_true hp) qaa)) fun H _=>⟨_,rfl,(q8a (Pw.zdw.2 ⟨i,hi,hp⟩)).symm⟩
 . exact qta none 20000 (jrl t.V t.N t.n k x y t.n J) (zaa (decide_eq_false (by omega)) qaa) fun H _=>⟨_,rfl,(q0a fun h=>by
    obtain ⟨i,hi,he⟩:=Pw.zdw.1 h;exact hp i hi he).symm⟩
end
noncomputable section
open Go.Sim
open Go.Proofs
variable {α:Type}
def lsV (xs:List ByteArray) (j:Nat):Value:=.string (q2c xs j)
def pwC (c:Cells) (f:(Nat->Value)->Nat->R α):R α :=
 Cells.rec (motive:=fun _=>R α) (fun l=>zah (uns l) (.stuck 7860) fun xs=>.need (zay xs=zay xs / 2 * 2) (f (lsV xs) (zay xs / 2))) (fun _ _=>.stuck 7861) (fun V m=>.need (m=m / 2 * 2) (f V (m / 2))) c
theorem qs2 {c:Cells} {f:(Nat->Value)->Nat->R α} {φ:α->Prop} (h:∀ V N,c.Imp (.raw V (N * 2))->(f V N).Sat φ):(pwC c f).Sat φ:=by
 cases c with
 | lst l =>
   refine qca fun xs hx he=>h _ _ fun γ vs hv => ?_
   rw [← he,qha];obtain ⟨h1,h2⟩:=qyz (q6t hx _ _ hv);refine ⟨h1,fun i x hi => ?_⟩;have:=h2 i x hi;have:some (Value.string (q2c xs i))=some x:=this;exact (Option.some.inj this).symm
 | fn g n=>trivial
 | raw V m=>exact fun he=>h _ _ (by rw [← he]; exact .refl _)
def pwE (e:Option SO) (f:(Nat->Value)->Nat->R α):R α :=
 zah e (.stuck 7862) fun e=>SO.rec (motive:=fun _=>R α) (fun c _ _=>pwC c f) (fun c=>pwC c f) (fun _ _ _ _ _ _ _ _=>.stuck 7863) (fun _=>.stuck 7863) (.stuck 7863) (fun _=>.stuck 7863) (fun _=>.stuck 7863) e
theorem qt2 {e:Option SO} {f:(Nat->Value)->Nat->R α} {φ:α->Prop} (h:∀ V N,(∀ g,∃ e',e=some e'/\Taken g (rwV V N) e')->(f V N).Sat φ):(pwE e f).Sat φ:=by
 refine qca fun e' he => ?_
 cases e' with
 | own c w el=>exact qs2 fun V N hi=>h V N fun g=>⟨_,he,q6h (c0:=c) (.inr ⟨w,el,rfl⟩) hi.front⟩
 | row c=>exact qs2 fun V N hi=>h V N fun g=>⟨_,he,q6h (c0:=c) (.inl rfl) hi.front⟩
 | loop=>trivial
 | deferred=>trivial
 | gone=>trivial
 | obj=>trivial
 | mem=>trivial
def Pw.row (t:Pw):SO:=rwV t.V t.N
theorem Pw.zbq (t:Pw) (p:Nat->Bool):t.row.zdp p:=trivial
def qso (H:List SO) (v:SV) (f:Pw->Nat->R α):R α:=v.asSlice (.stuck 7864) fun a l _=>zab (is0 a.off) (pwE (nth H a.nm) fun V N=>f ⟨V,N,l.den⟩ a.nm) (.stuck 7865)
theorem qym {H:List SO} {v:SV} {f:Pw->Nat->R α} {φ:α->Prop} (h:∀ t nm,(∀ g,∃ e',H[nm]? = some e'/\Taken g t.row e')->(∀ β x,v.den β=some x->∃ k,(slP nm t.n k).den β=some x)->(f t nm).Sat φ):(qso H v f).Sat φ:=by
 unfold qso;rcases qse v with ⟨a,l,c,rfl⟩ | hv
 . refine qcb fun h0=>qt2 fun V N ht=>h ⟨V,N,l.den⟩ a.nm (fun g=>by rw [← qea]; exact ht g) fun β x hx => ?_
   obtain ⟨m,_,hd,_,_⟩:=qko hx;obtain ⟨nm,off⟩:=a;obtain rfl:=qtm h0;exact ⟨m,hd⟩
 . rw [hv]; trivial
theorem qu2 (f:Nat->Nat) (nm n k:Nat):(slP nm n k).ren f=slP (f nm) n k:=rfl
theorem q98 {g:FuncId->Option zaR} {f:FuncId} {O:Nat->Prop} {w0 w:World} {β:Val} {H:List SO} {base:Nat} {vs:List Value} (hH:HeapRel0 Tryd.prog O w0 β H w) {v:SV} {t:Pw} {nm:Nat} {rest:List SV} (ha:SV.zak β (v::rest)=some vs)
  (ht:∀ g,∃ e',H[nm]? = some e'/\Taken g t.row e') (hi:∀ β x,v.den β=some x->∃ k,(slP nm t.n k).den β=some x) (hr:∀ f,SV.zbA f rest=rest) (hu:∀ p,SV.za5 p rest=true) {r:zaz} {D:SV->List SO->Prop} {keep:List Nat} (hk:∀ j∈keep,1<=j) (hkn:keep.Nodup) (hrun:∀ k,Runs (qyb g) f (slP 0 t.n k::rest) [t.row] D)
  (hD:∀ k v H,D v H->(⟨[nm],[t.row],slP 0 t.n k::rest⟩:Ifc).zdf base keep r v H) :
  qob Tryd.prog H β w base f vs r:=by
 obtain ⟨x,ys,hx,hys,rfl⟩:=zad.1 ha;obtain ⟨k,hx'⟩:=hi _ _ hx;refine qzb (c:=qyb g) hH ⟨[nm],[t.row],slP 0 t.n k::rest⟩ (by intro g j hg; cases hg) ?_ (Ifc.zbD (by simp) ?_ ⟨⟨(let ⟨e,h1,h2⟩:=ht _; ⟨e,h1,h2.q⟩),(t.zbq _).q⟩,trivial⟩) keep hk hkn (qjb (hrun k) fun v H h=>hD k v H h)
 . show SV.zak β ((slP 0 t.n k).ren _::SV.zbA _ rest)=_;rw [qu2,hr]; exact zad.2 ⟨_,_,hx',hys,rfl⟩
 . show ((true && true) && SV.za5 _ rest)=true;rw [hu]; rfl
def zhT:zaR:=fun args H _=>qrh args fun v xv yv=>zah (zbH xv) (.stuck 7866) fun x=>zah (zbH yv) (.stuck 7866) fun y=>qso H v fun t _=>.need t.ok (.ok (bR (t.has (x.den,y.den))))
theorem qk6:q2a Tryd.prog 33 zhT:=by
 intro glob O w0 β H w base args vs hH hG ha;refine qxd fun v xv yv hv=>qca fun x hx=>qca fun y hy => ?_
 rw [hv,qua hx,qua hy] at ha;have ha:=qja (.refl v) (qja (qhb (t:=.sym x.den) rfl) (qja (qhb (t:=.sym y.den) rfl) qsb)) _ _ ha;exact qym fun t nm ht hi hok=>q98 (g:=fun _=>none) (keep:=[]) hH ha ht hi (fun _=>rfl) (fun _=>rfl) (by simp) (by simp) (fun k=>jfh k x.den y.den hok) fun k v H h=>qkd rfl h
def leA (p q:Pr):List SV:=[.agg [.str (.sym p.1),.str (.sym p.2)],.agg [.str (.sym q.1),.str (.sym q.2)]]
def leT (p q:Pr):Tree:=qla zcv 400 43 (leA p q) []
def leS:zaR:=fun args _ _=>qke args fun v w=>zah (q2s v) (.stuck 7867) fun p=>zah (q2s w) (.stuck 7867) fun q=>.ok (bR (zcj (p.1.den,p.2.den) (q.1.den,q.2.den)))
def qoi (x y:ByteArray):Bool:=Op.bytesLess x.data.toList y.data.toList
theorem le_1 (p q:Pr):zaP [] (leT p q) (zaX true 8)=(zaX (qoi p.1 q.1=true) 8,some (.bool (.lit true),[])):=by kernel_rfl
theorem le_2 (p q:Pr):zaP [] (leT p q) [false,true]=([qoi p.1 q.1=false,decide (p.1=q.1)=true],some (.bool (.sym (qoi p.2 q.2)),[])):=by kernel_rfl
theorem le_3 (p q:Pr):zaP [] (leT p q) (zaX false 7)=((qoi p.1 q.1=false)::zaX (decide (p.1=q.1)=false) 6,some (.bool (.lit false),[])):=by kernel_rfl
theorem leOK:q2a Tryd.prog 43 leS:=by
 intro glob O w0 β H w base args vs hH hG ha;refine qvc fun v1 v2 hv=>qca fun p hp=>qca fun q hq => ?_
 rw [hv,qli hp,qli hq] at ha;have ha:=qja (qsm (c:=.sym p.1.den) (d:=.sym p.2.den) rfl rfl) (qja (qsm (c:=.sym q.1.den) (d:=.sym q.2.den) rfl rfl) qsb) _ _ ha;generalize p.1.den=a at ha ⊢;generalize p.2.den=b at ha ⊢;generalize q.1.den=c at ha ⊢;generalize q.2.den=d at ha ⊢;have go:∀ {ds ps b'},zaP [] (leT (a,b) (c,d)) ds=(ps,some (.bool b',[]))->(∀ p∈ps,p)->b'.den=cB (zcj (a,b) (c,d))->qob Tryd.prog H β w base 43 vs (bR (zcj (a,b) (c,d))):=fun hr hp hb=>qmb qhg 400 hH ⟨[],[],leA (a,b) (c,d)⟩ (by intro g j hg; cases hg) ha (qfd rfl).q [] (by simp) (by simp) (q5a hr hp fun H2 _=>qkd rfl ⟨_,rfl,hb⟩)
 cases h1:qoi a c with
 | true=>exact go (le_1 _ _) (qtb h1 8) (q8a (.inl (by unfold qoi at h1; rw [qbl] at h1; exact of_decide_eq_true h1))).symm
 | false =>
   have n1:¬ a.data.toList<c.data.toList:=by unfold qoi at h1; rw [qbl] at h1; exact of_decide_eq_false h1
   by_cases h2:a=c
   . refine go (le_2 _ _) (zaa h1 (zaa (decide_eq_true h2) qaa)) ?_
     show qoi b d=_;unfold qoi;rw [qbl];by_cases h3:b.data.toList<d.data.toList
     . rw [decide_eq_true h3,q8a (.inr ⟨h2,h3⟩)]
     . rw [decide_eq_false h3,q0a];rintro (h | ⟨_,h⟩)
       . exact n1 h
       . exact h3 h
   . refine go (le_3 _ _) (zaa h1 (qtb (decide_eq_false h2) 6)) (q0a ?_).symm;rintro (h | ⟨h,_⟩)
     . exact n1 h
     . exact h2 h
end
noncomputable section
open Go.Sim
open Go.Proofs
variable {α:Type}
def rlP1:List (FuncId × zaR):=[(36,zgZ),(33,zhT),(43,leS)]
theorem jtl:∀ y∈rlP1,q2a Tryd.prog y.1 y.2:=zb2 q3w (zb2 qk6 (all1 leOK))
def zcm:Cfg:=qyb (q2b rlP1)
theorem zdB:zaw zcm:=qdc jtl
def slQ (nm n:Nat) (b:Bool) (k:Nat):SV:=.slice ⟨nm,.lit 0⟩ (.sym n) (zab b (.rest nm k) (.sym k))
section
variable (V:Nat->Value) (N n:Nat) (b:Bool) (k:Nat) (x y:ByteArray) (i:Nat) (J:zaW) (z:Nat->Nat->Nat)
def tuT (st:Option (Nat × Nat)):Tree:=qla (zcm.at st) 20000 29 [slQ 0 n b k,.str (.sym x),.str (.sym y)] [rwV V N]
def twS:Ss:=⟨q2c [x,y],2,0,2,false,2⟩
def twG (c:Bool):List Prop:=[twS x y |>.ok |> fun h=>h/\∀ j,j<2->((twS x y).at j).size<=9223372036854775807,(!cB (zdF (twS x y)))=c]
def tpR (V:Nat->Value) (N n:Nat):Pw:=⟨V,N * 2 / 2,n⟩
def tuG:List Prop:=app (twG x y false) [decide (x=y)=false,N * 2=N * 2 / 2 * 2,(tpR V N n).ok]
def zfT (m:Int):Option (SV × List (Option SO)):=some (.tuple [slQ 0 n b k,.int .i64 (.lit m)],[])
theorem jul:zaP [] (tuT V N n b k x y none) (zaX true 4)=(((twS x y).ok/\∀ j,j<2->((twS x y).at j).size<=9223372036854775807)::zaX ((!cB (zdF (twS x y)))=true) 4,zfT n b k 2):=by cases b <;> kernel_rfl
theorem jgh:zaP [] (tuT V N n b k x y none) [false,true]=(app (twG x y false) [decide (x=y)=true],zfT n b k 2):=by cases b <;> kernel_rfl
theorem jhh:zaP [] (tuT V N n b k x y none) [false,false,true]=(app (tuG V N n x y) [cB ((tpR V N n).has (x,y))=true],zfT n b k 11):=by cases b <;> kernel_rfl
theorem jih:zaP [] (tuT V N n b k x y none) [false,false,false,true]=(app (tuG V N n x y) [cB ((tpR V N n).has (x,y))=false,decide ((n:Int)>=1000)=true],zfT n b k 7):=by cases b <;> kernel_rfl
def tuC:Cut:=⟨q0b (qvb (tuT V N n b k x y (some (1,3))) (zaX false 8)).frames [[(0,slQ 0 n b k),(1,.str (.sym x)),(2,.str (.sym y)),(8,.int .i64 (.sym i))]],[.ent (rwV V N)]⟩
def tuS (st:Option (Nat × Nat)):Tree:=zaY (zcm.at st) 20000 ((tuC V N n b k x y i).fill J)
theorem jjh:zaq [] (tuC V N n b k x y 0) [0] (tuT V N n b k x y (some (1,3))) [false,false,false,false] z=(app (tuG V N n x y) [cB ((tpR V N n).has (x,y))=false,decide ((n:Int)>=1000)=false],some (.inr (qva [(0,8,.int .i64 (.lit 0))] [] (qia [0] 2 (tuC V N n b k x y 0))))):=by cases b <;> kernel_rfl
def ltI:Prop:=cB (zcj (zcQ (V (0+i * 2+0)),zcQ (V (0+i * 2+1))) (x,y))=true
def geI:Prop:=cB (zcj (zcQ (V (0+i * 2+0)),zcQ (V (0+i * 2+1))) (x,y))=false
theorem jkh:zaq [] (tuC V N n b k x y i) [0] (tuS V N n b k x y i J (some (1,3))) [true,true] z=(rdP V N n i [ltI V x y i,qra ((i:Int)+1)],some (.inr (qia [0] 1 (tuC V N n b k x y (i+1))))):=by cases b <;> kernel_rfl
def ord3 {β:Type} (o:Nat) (p q r:β):β:=Nat.rec (motive:=fun _=>β) p (fun o _=>Nat.rec (motive:=fun _=>β) q (fun _ _=>r) o) o
def odD (o:Nat):List Bool:=ord3 o [true,true] [true,false] [false]
def odC (o:Nat):List Prop:=ord3 o [decide (z 0 0=0)=true,decide (z 1 0=0)=true] [decide (z 0 0=0)=true,decide (z 1 0=0)=false] [decide (z 0 0=0)=false]
def exW (e:Bool):Nat->Value:=zab e (zb5 (fun j=>atV [.string x,.string y] (0+j)) (1 * 2) fun j=>V (0+i * 2+j))
 (zb5 (fun j=>zb5 (fun j=>zb5 (fun j=>atV [] (0+j)) (0 * 2) (fun j=>V (0+j)) (0+j)) ((0+i) * 2) (fun j=>atV [.string x,.string y] (0+j)) (0+j)) ((0+i+1) * 2) fun j=>V (0+i * 2+j))
def exN (e:Bool):Nat:=zab e (1+(n - i)) (0+i+1+(n - i))
def exM (e:Bool):Nat:=zab e 4 5
def zhd (m:Nat) (Y:Nat->Value):Prop:=∀ j,j<m->(Y j).oneCell'=true
def exC (e:Bool):List Prop:=app [(0:Int)<=(i:Int)/\(i:Int)<=(n:Int),0+i * 2<=N * 2,decide (0+i<=0)=e]
 (zab e [(0:Int)<=(i:Int)/\(i:Int)<=(n:Int),0+i * 2+(n - i) * 2<=N * 2,2<=2,((1+(n - i)) * 32<140737488355328/\1+(n - i)<140737488355328)/\zhd ((n - i) * 2) fun j=>V (0+i * 2+j)]
  [0<=0,(0+i) * 32<140737488355328/\0+i<140737488355328,2<=2,0+(0+i) * 2<=(0+i) * 2,((0+i+1) * 32<140737488355328/\0+i+1<140737488355328)/\zhd 2 (fun j=>atV [.string x,.string y] (0+j)),
   (0:Int)<=(i:Int)/\(i:Int)<=(n:Int),0+i * 2+(n - i) * 2<=N * 2,0+(0+i+1) * 2<=(0+i+1) * 2,((0+i+1+(n - i)) * 32<140737488355328/\0+i+1+(n - i)<140737488355328)/\zhd ((n - i) * 2) fun j=>V (0+i * 2+j)])
def exR (e:Bool):SV × List (Option SO):=(.tuple [.slice ⟨exM e,.lit 0⟩ (.sym (exN n i e)) (.rest (exM e) 0),.int .i64 (.lit 0)],[some (.own (.raw (exW V x y i e) (exN n i e * 2)) false 71)])
def exF (f:Bool):List Bool:=zab f [true,false] (zaX false 9)
def exP (f:Bool):List Prop:=zab f (rdP V N n i [geI V x y i]) (zaX (decide ((i:Int)<(n:Int))=false) 9)
theorem jvl (f e:Bool):zar (fun o=>zaq [exM e] (tuC V N n b k x y i) [0] (tuS V N n b k x y i J none) (app (exF f) (app (odD o) [e])) z) (qsa 3 0)=zar (fun o=>(app (exP V N n x y i f) (app (odC z o) (exC V N n x y i e)),some (.inl (exR V n x y i e)))) (qsa 3 0):=by cases b <;> cases f <;> cases e <;> kernel_rfl
theorem q5z (j:Nat):zab (qna 1 [0] (tuC V N n b k x y i) (tuC V N n b k x y j)) (zaG qma (tuC V N n b k x y j).heap) false=true:=by cases b <;> kernel_rfl
theorem jwl:(((tuC V N n b k x y i).frames[0]?).bind fun p=>p.tmps[8]?)=some (some (.int .i64 (.sym i))):=by cases b <;> kernel_rfl
end
end
end Go.Proofs.YtbhlngmhgplepaaDoor.Aes
namespace Go.Sim
noncomputable section
open Go.RowKit
theorem qu1 {c:Cfg} {O:Nat->Prop} {w0 w:World} {β:Val} {H:List SO} {base:Nat} {f:FuncId} {vs:List Value} (hH:HeapRel0 c.P O w0 β H w)
  (I:Ifc) (hgl:∀ g j,c.glob g=some j->I.known j=true/\∃ l,β (I.big j)=some l/\l.blk=g/\l.off=0) (ha:SV.zak β (SV.zbA I.big I.args)=some vs) (hI:I.zbS H) {r:zaz} (turn:List Nat) (ht1:∀ (j:Nat) E,I.ents[j]? = some E->E.owned=true->j∈turn) (ht2:∀ j∈turn,∃ E,I.ents[j]? = some E/\E.owned=true) (htn:turn.Nodup:=by simp)
  (hbody:∃ fn,c.P.funcs[f]? = some fn/\fn.body.isSome=true)
  (hrun:zae c.P (I.zeZ β) w (I.val β) I.ents w->zaC c.glob (I.val β)->SV.zak (I.val β) I.args=some vs->Calls c.P f vs.toArray w (Came c.P (I.zeZ β) w (I.val β) fun v H2=>∃ keep:List Nat,(∀ j∈keep,I.names.length<=j)/\keep.Nodup/\I.ziq base turn keep r v H2)):qob c.P H β w base f vs r:=by
 intro hfree;have hH':=Ifc.zhz hH hI;have ha':SV.zak (I.val β) I.args=some vs:=by
  rw [SV.zaL,SV.za1 Ifc.zax _ hI.zeT] at ha; exact ha
 have zcI:=hrun hH' (fun g j hg=>let ⟨hk,l,h1,h2⟩:=hgl g j hg; ⟨l,by rw [← Ifc.zax j hk]; exact h1,h2⟩) ha'
 have hown:∀ j∈turn,∃ e l,H[I.big j]? = some e/\e.owned=true/\β (I.big j)=some l/\I.val β j=some l/\j<I.names.length:=by
  intro j hj;obtain ⟨E,he,ho⟩:=ht2 j hj;obtain ⟨e,he',ht⟩:=hI.ent j _ he;have hu:=hI.zcC j _ he;have hjl:j<I.names.length:=by rw [← hI.len]; exact (List.getElem?_eq_some_iff.1 he).1
  have hpl:e.placed=true\/∃ o,e=.obj o:=by
   cases E with
   | own=>obtain ⟨_,rfl,_⟩:=ht; exact .inl rfl
   | row=>cases ho
   | loop=>exact hu.elim
   | deferred=>exact hu.elim
   | gone=>cases ho
   | mem=>exact hu.elim
   | obj=>obtain ⟨_,rfl,_⟩:=ht; exact .inr ⟨_,rfl⟩
  obtain ⟨l,hl⟩:=(hH.entries _ _ he').loc hpl;exact ⟨e,l,he',ht.owned hu ho,hl,by rw [← Ifc.zax j ((I.zaJ j).2 hjl)]; exact hl,hjl⟩
 have zcs:∀ (keep:List Nat) (v:SV) (H'':List SO),I.ziq base turn keep r v H''->∀ m e,(m,e)∈r.sets->∃ j∈turn,m=I.big j/\zbh (I.seen keep) (I.out base keep) H''[j]? e/\∃ i:Nat,turn[i]? = some j/\r.sets[i]? = some (m,e):=by
  intro keep v H'' hout m e hm;obtain ⟨i,hi⟩:=List.mem_iff_getElem?.1 hm;have hil:=(List.getElem?_eq_some_iff.1 hi).1;rw [hout.zc0] at hil;obtain ⟨e',h1,h2⟩:=hout.sets i _ (List.getElem?_eq_getElem hil);rw [hi] at h1;cases h1;exact ⟨_,List.getElem_mem hil,rfl,h2,i,List.getElem?_eq_getElem hil,hi⟩
 refine ⟨?_,.inl ⟨hbody,?_⟩⟩
 . intro m e hm;obtain ⟨e',w',fr,zbI,_⟩:=zcI [];obtain ⟨v,H'',x,β'',_,⟨keep,hk,hkn,hout⟩,_⟩:=zbI;obtain ⟨j,hj,rfl,hg,_⟩:=zcs keep v H'' hout m e hm;obtain ⟨e0,l,h1,h2,_⟩:=hown j hj;exact ⟨_,h1,h2,.not hg.notMem⟩
 . intro cs;obtain ⟨e',w',fr,zbI,hst⟩:=zcI cs;refine ⟨e',w',fr,?_,hst⟩;obtain ⟨v,H'',x,β'',rfl,⟨keep,hk,hkn,hout⟩,hle,hv,hH2⟩:=zbI
   let βb:Val:=fun n=>if base<=n/\n<base+keep.length then (keep[n - base]?).bind β'' else β n
   have zct:r.news.length=keep.length:=hout.newsLen;have hfree':∀ i,i<keep.length->β (base+i)=none:=fun i hi=>hfree i (by rw [zct]; exact hi)
   have hβle:β.le βb:=by
    intro n l hn;show (if _ then _ else _)=_
    rw [if_neg]
    . exact hn
    . rintro ⟨h1,h2⟩;have:=hfree' (n - base) (by omega)
      rw [show base+(n - base)=n from by omega,hn] at this; cases this
   have zbw:∀ j,I.seen keep j=true->βb (I.out base keep j)=β'' j:=by
    intro j hj;unfold Ifc.seen at hj;unfold Ifc.out;cases hkn':I.known j with
    | true =>
      rw [zal];have hjl:=(I.zaJ j).1 hkn';obtain ⟨E,hE⟩:∃ E,I.ents[j]? = some E:=⟨_,List.getElem?_eq_getElem (by rw [hI.len]; exact hjl)⟩
      obtain ⟨e,he,htk⟩:=hI.ent j E hE;have hu:=hI.zcC j E hE;have hpl:e.placed=true\/∃ o,e=.obj o:=by
       cases E with
       | own cc ww el=>obtain ⟨c1,rfl,_⟩:=htk; exact .inl rfl
       | row cc=>obtain ⟨c1,rfl | ⟨ww,el,rfl⟩,_⟩:=htk <;> exact .inl rfl
       | loop=>exact hu.elim
       | deferred=>exact hu.elim
       | gone=>obtain ⟨_,_,h⟩:=htk; exact h
       | mem=>exact hu.elim
       | obj=>obtain ⟨_,rfl,_⟩:=htk; exact .inr ⟨_,rfl⟩
      obtain ⟨l,hl⟩:=(hH.entries _ _ he).loc hpl;rw [hβle _ _ hl];have:I.val β j=some l:=by rw [← Ifc.zax j hkn']; exact hl
      rw [hle _ _ this]
    | false =>
      rw [hkn',zam,zcr] at hj;rw [zam];have h1:=qcf hj;have h2:=(List.getElem?_eq_some_iff.1 h1).1;show (if _ then _ else _)=_
      rw [if_pos (by omega),show base+zdl j keep - base=zdl j keep from by omega,h1]; rfl
   have zb8:∀ (j:Nat) (e:SO),zbh (I.seen keep) (I.out base keep) H''[j]? e->I.seen keep j=true->e.owned=true/\zaA c.P βb w' (I.out base keep j) e:=by
    intro j e hg hs;rcases hg with ⟨cc,ww,el,c',he,hu,himp,rfl⟩ | ⟨o,o',he,hu,himp,rfl⟩
    . obtain ⟨l,vs,rest,lo,hi,hl,h0,hcl,hh,hfz,hw,hcap⟩:=hH2.entries j _ he;exact ⟨rfl,l,vs,rest,lo,hi,(zbw j hs).trans hl,h0,himp _ _ ((zaj.ren hu zbw).2 hcl),hh,hfz,hw,hcap⟩
    . obtain ⟨l,y,hl,h0,hd,hh⟩:=hH2.entries j _ he;exact ⟨rfl,l,y,(zbw j hs).trans hl,h0,himp _ _ (by rw [za7.zaF,za7.zaN (β:=fun n=>βb (I.out base keep n)) (β':=β'') zbw hu]; exact hd),hh⟩
   have zfF:∀ (j:Nat) (e:SO),zbh (I.seen keep) (I.out base keep) H''[j]? e->∃ e0 l,H''[j]? = some e0/\e0.owned=true/\β'' j=some l:=by
    intro j e hg;rcases hg with ⟨cc,ww,el,c',he,_⟩ | ⟨o,o',he,_⟩
    . obtain ⟨l,vs2,rest,lo,hi2,hl,_⟩:=hH2.entries j _ he;exact ⟨_,l,he,rfl,hl⟩
    . obtain ⟨l,y,hl,_⟩:=hH2.entries j _ he;exact ⟨_,l,he,rfl,hl⟩
   have zdP:∀ j∈turn,I.seen keep j=true/\I.out base keep j=I.big j:=by
    intro j hj;obtain ⟨_,_,_,_,_,_,hjl⟩:=hown j hj;have:=(I.zaJ j).2 hjl;unfold Ifc.seen Ifc.out;rw [this]; exact ⟨rfl,rfl⟩
   have zdQ:∀ j∈keep,I.seen keep j=true/\I.known j=false:=by
    intro j hj;have hnk:I.known j=false:=by
     cases hx:I.known j with
     | false=>rfl
     | true=>have:=(I.zaJ j).1 hx; have:=hk j hj; omega
    unfold Ifc.seen;rw [hnk]; exact ⟨qeg hj,rfl⟩
   have zc5:∀ (i:Nat) (e:SO),r.news[i]? = some e->∃ j,keep[i]? = some j/\zbh (I.seen keep) (I.out base keep) H''[j]? e:=by
    intro i e hi;have hil:=(List.getElem?_eq_some_iff.1 hi).1;rw [zct] at hil;obtain ⟨e',h1,h2⟩:=hout.news i _ (List.getElem?_eq_getElem hil);rw [hi] at h1; cases h1;exact ⟨_,List.getElem?_eq_getElem hil,h2⟩
   refine ⟨x,βb,rfl,?_,⟨hβle,hH2.keep.os,hH2.keep.tape,hH2.keep.output,hH2.keep.drawn,hH2.keep.size,?_,?_,?_,?_,?_,?_⟩⟩
   . refine hout.val _ _ ?_
     rw [SV.zaF,SV.zaN zbw _ hout.uv]; exact hv
   . intro n hn;rw [zct] at hn;show (if _ then _ else _)=_
     rw [if_neg (by omega)]
   . intro b hb hno _;refine hH2.keep.block b hb ?_
     rintro ⟨j,E,l,hj,ho,hl,rfl⟩;have hjt:=ht1 j E hj ho;obtain ⟨i,hi⟩:=List.mem_iff_getElem?.1 hjt;obtain ⟨e,he,_⟩:=hout.sets i j hi;exact hno (I.big j) e l (List.mem_of_getElem? he) hl rfl
   . intro m e e' h1 h2;obtain ⟨j,hj,hm1,hg1,i1,ht1',hs1⟩:=zcs keep v H'' hout m e h1;obtain ⟨k,hk',hm2,hg2,i2,zhn,hs2⟩:=zcs keep v H'' hout m e' h2;obtain ⟨_,_,_,_,_,_,hjl⟩:=hown j hj;obtain ⟨_,_,_,_,_,_,hkl⟩:=hown k hk';have hjk:k=j:=hI.nodup k j (I.big k) (Ifc.zbJ hkl) (by rw [← hm2,hm1]; exact Ifc.zbJ hjl)
     subst hjk;have:i1=i2:=(List.getElem?_inj (List.getElem?_eq_some_iff.1 ht1').1 htn).1 (ht1'.trans zhn.symm);subst this;rw [hs1] at hs2;exact (Prod.mk.inj (Option.some.inj hs2)).2
   . intro m e hm;obtain ⟨j,hj,rfl,hg,_⟩:=zcs keep v H'' hout m e hm;obtain ⟨hs,hb⟩:=zdP j hj;rw [← hb];exact (zb8 j e hg hs).2
   . intro i e hi;obtain ⟨j,hj,hg⟩:=zc5 i e hi;have hjm:=List.mem_of_getElem? hj;obtain ⟨hs,hnk⟩:=zdQ j hjm;have zdR:I.out base keep j=base+i:=by
      unfold Ifc.out;rw [hnk,zam];have h1:=qcf hjm;have:zdl j keep=i:=(List.getElem?_inj (List.getElem?_eq_some_iff.1 h1).1 hkn).1 (h1.trans hj.symm);rw [this]
     obtain ⟨ho,hor⟩:=zb8 j e hg hs;refine ⟨ho,zdR▸hor,?_⟩;obtain ⟨e0,l,he,he0,hl⟩:=zfF j e hg;refine ⟨l,by rw [← zdR,zbw j hs]; exact hl,.inl ?_⟩
     rcases hH2.fresh j _ l he he0 hl with h1 | ⟨k,E,lk,hk1,hko,hk2,hk3⟩
     . exact h1
     . exfalso;have hkt:=ht1 k E hk1 hko;obtain ⟨i3,hi3⟩:=List.mem_iff_getElem?.1 hkt;obtain ⟨e3,_,hg3⟩:=hout.sets i3 k hi3;obtain ⟨e4,l4,he4,ho4,hl4⟩:=zfF k e3 hg3;obtain ⟨_,l2,_,_,hb2,hv2,hkl⟩:=hown k hkt;rw [hb2] at hk2; cases hk2;rw [hle _ _ hv2] at hl4; cases hl4;refine hH2.sep k j _ _ lk l he4 he ho4 he0 ?_ (hle _ _ hv2) hl hk3;have:=hk j hjm; omega
   . intro i j l l' hij hi hj hl hl';rw [zct] at hi hj;have hone:∀ i,i<keep.length->∀ l,βb (base+i)=some l->∃ k,keep[i]? = some k/\β'' k=some l:=by
      intro i hi l hl;have hl:(if base<=base+i/\base+i<base+keep.length then (keep[base+i - base]?).bind β'' else β (base+i))=some l:=hl
      rw [if_pos (by omega),show base+i - base=i from by omega,List.getElem?_eq_getElem hi] at hl
      exact ⟨_,List.getElem?_eq_getElem hi,hl⟩
     obtain ⟨k1,hk1,hb1⟩:=hone i hi l hl;obtain ⟨k2,hk2,hb2⟩:=hone j hj l' hl';obtain ⟨n1,_,hg1⟩:=hout.news i k1 hk1;obtain ⟨n2,_,hg2⟩:=hout.news j k2 hk2;obtain ⟨e1,_,he1,ho1,_⟩:=zfF k1 n1 hg1;obtain ⟨e2,_,he2,ho2,_⟩:=zfF k2 n2 hg2;refine hH2.sep k1 k2 _ _ l l' he1 he2 ho1 ho2 (fun h => ?_) hb1 hb2;subst h;exact hij ((List.getElem?_inj (List.getElem?_eq_some_iff.1 hk1).1 hkn).1 (hk1.trans hk2.symm))
def Ifc.zgB (I:Ifc) (base:Nat) (r:zaz) (v:SV) (H:List SO):Prop:=∃ keep:List Nat,(∀ j∈keep,I.names.length<=j)/\keep.Nodup/\I.zdf base keep r v H
end
noncomputable section
theorem q9h {c:Cfg} {O:Nat->Prop} {w0 w:World} {β:Val} {H:List SO} {base:Nat} {f:FuncId} {vs:List Value} (hH:HeapRel0 c.P O w0 β H w)
  (I:Ifc) (hgl:∀ g j,c.glob g=some j->I.known j=true/\∃ l,β (I.big j)=some l/\l.blk=g/\l.off=0) (ha:SV.zak β (SV.zbA I.big I.args)=some vs) (hI:I.zbS H) {r:zaz}
  (hr:Runs c f I.args I.ents (I.zgB base r)):qob c.P H β w base f vs r:=by
 refine qu1 hH I hgl ha hI (q4b I.ents 0) (fun j E h ho=>(qge _ _ _).2 ⟨j,E,by omega,h,ho⟩) (fun j hj => ?_) (q3f _ _) hr.1 fun hH' hG ha'=>(hr.2 _ _ _ _ _ hH' hG ha').mono fun e w' zbI => ?_
 . obtain ⟨i,E,h,h',ho⟩:=(qge _ _ _).1 hj;exact ⟨E,by rw [h,Nat.zero_add]; exact h',ho⟩
 . obtain ⟨v,H',x,β',he,⟨keep,hk,hkn,h⟩,hle,hv,hH2⟩:=zbI;exact ⟨v,H',x,β',he,⟨keep,hk,hkn,h.val,h.uv,h.sets.length,h.sets.get,h.news.length,h.news.get⟩,hle,hv,hH2⟩
end
end Go.Sim
namespace Go.Proofs.YtbhlngmhgplepaaDoor.Aes
noncomputable section
open Go.Sim
open Go.Proofs
variable {α:Type}
def zcE (l:List Pr) (p:Pr):List Pr:=l.takeWhile (fun q=>decide (zcj q p))++p::l.dropWhile (fun q=>decide (zcj q p))
theorem jxl {l:List Pr} {p:Pr} {i:Nat} (hi:i<=l.length) (h1:∀ j (h:j<l.length),j<i->zcj l[j] p) (h2:∀ h:i<l.length,¬ zcj l[i] p):zcE l p=l.take i++p::l.drop i:=by
 unfold zcE;induction l generalizing i with
 | nil =>
   have:i=0:=by simpa using hi
   subst this; rfl
 | cons a l ih =>
   cases i with
   | zero =>
     have ha:¬ zcj a p:=h2 (by simp)
     rw [List.takeWhile_cons_of_neg (by simpa using ha),List.dropWhile_cons_of_neg (by simpa using ha)]
     rfl
   | succ i =>
     have ha:zcj a p:=h1 0 (by simp) (by omega)
     have:=ih (i:=i) (by simpa using hi) (fun j h hj=>h1 (j+1) (by simpa using h) (by omega)) (fun h=>h2 (by simpa using h))
     rw [List.takeWhile_cons_of_pos (by simpa using ha),List.dropWhile_cons_of_pos (by simpa using ha),List.cons_append,this]
     rfl
theorem qzm (l:List Pr) (p:Pr):(zcE l p).length=l.length+1:=by
 unfold zcE;have:=congrArg List.length (List.takeWhile_append_dropWhile (p:=fun q=>decide (zcj q p)) (l:=l));rw [List.length_append] at this ⊢;rw [List.length_cons]; omega
section
variable {V:Nat->Value} {n i:Nat} {x y:ByteArray}
theorem jyl {e:Bool} (he:decide (0+i<=0)=e):(∀ j,j<i->exW V x y i e (j * 2)=V (j * 2)/\exW V x y i e (j * 2+1)=V (j * 2+1))/\(exW V x y i e (i * 2)=.string x/\exW V x y i e (i * 2+1)=.string y) /\
  ∀ j,i<j->exW V x y i e (j * 2)=V ((j - 1) * 2)/\exW V x y i e (j * 2+1)=V ((j - 1) * 2+1):=by
 cases e with
 | true =>
   have h0:i=0:=by have:=of_decide_eq_true he; omega
   subst h0;refine ⟨fun j hj=>by omega,⟨rfl,rfl⟩,fun j hj => ?_⟩
   have e1:exW V x y 0 true (j * 2)=zb5 (fun j=>atV [Value.string x,.string y] (0+j)) (1 * 2) (fun j=>V (0+0 * 2+j)) (j * 2):=rfl;have e2:exW V x y 0 true (j * 2+1)=zb5 (fun j=>atV [Value.string x,.string y] (0+j)) (1 * 2) (fun j=>V (0+0 * 2+j)) (j * 2+1):=rfl;rw [e1,e2];unfold zb5;rw [if_neg (by omega),if_neg (by omega)]
   exact ⟨congrArg V (by omega),congrArg V (by omega)⟩
 | false =>
   have e1:∀ m,exW V x y i false m=if m<(0+i+1) * 2 then (if 0+m<(0+i) * 2 then (if 0+(0+m)<0 * 2 then atV [] (0+(0+(0+m))) else V (0+(0+(0+m) - 0 * 2))) else atV [Value.string x,.string y] (0+(0+m - (0+i) * 2))) else V (0+i * 2+(m - (0+i+1) * 2)):=fun m=>rfl
   refine ⟨fun j hj=>⟨?_,?_⟩,⟨?_,?_⟩,fun j hj=>⟨?_,?_⟩⟩
   . rw [e1,if_pos (by omega),if_pos (by omega),if_neg (by omega)]; exact congrArg V (by omega)
   . rw [e1,if_pos (by omega),if_pos (by omega),if_neg (by omega)]; exact congrArg V (by omega)
   . rw [e1,if_pos (by omega),if_neg (by omega),show 0+(0+i * 2 - (0+i) * 2)=0 by omega]; rfl
   . rw [e1,if_pos (by omega),if_neg (by omega),show 0+(0+(i * 2+1) - (0+i) * 2)=1 by omega]; rfl
   . rw [e1,if_neg (by omega)]; exact congrArg V (by omega)
   . rw [e1,if_neg (by omega)]; exact congrArg V (by omega)
theorem jfc {e:Bool} (he:decide (0+i<=0)=e) (hi:i<=n) (hV:PrV V n):PrV (exW V x y i e) (n+1)/\prL (exW V x y i e) (n+1)=(prL V n).take i++(x,y)::(prL V n).drop i:=by
 obtain ⟨h1,h2,h3⟩:=jyl (V:=V) (x:=x) (y:=y) he;have a1:∀ j,j<i->zbL (exW V x y i e) j=zbL V j:=fun j hj=>by unfold zbL; rw [(h1 j hj).1,(h1 j hj).2]
 have a2:zbL (exW V x y i e) i=(x,y):=by unfold zbL; rw [h2.1,h2.2]; rfl
 have a3:∀ j,i<j->zbL (exW V x y i e) j=zbL V (j - 1):=fun j hj=>by unfold zbL; rw [(h3 j hj).1,(h3 j hj).2]
 refine ⟨fun j hj => ?_,?_⟩
 . rcases Nat.lt_trichotomy j i with c | c | c
   . rw [a1 j c,(h1 j c).1,(h1 j c).2]; exact hV j (by omega)
   . subst c; rw [a2]; exact h2
   . rw [a3 j c,(h3 j c).1,(h3 j c).2]; exact hV (j - 1) (by omega)
 . have hl:(prL V n).length=n:=qqb V n;refine List.ext_getElem (by rw [qqb,List.length_append,List.length_cons,List.length_take,List.length_drop,hl]; omega) fun j hj hj' => ?_
   have hj:j<n+1:=by rwa [qqb] at hj
   have g:∀ (W:Nat->Value) (m k:Nat) (h:k<(prL W m).length),(prL W m)[k]=zbL W k:=fun W m k h=>by simp [prL]
   rw [g];rcases Nat.lt_trichotomy j i with c | c | c
   . rw [a1 j c,List.getElem_append_left (by rw [List.length_take,hl]; omega),List.getElem_take,g]
   . subst c;rw [a2,List.getElem_append_right (by rw [List.length_take,hl]; omega)]
     simp [List.length_take,hl,Nat.min_eq_left hi]
   . rw [a3 j c,List.getElem_append_right (by rw [List.length_take,hl]; omega)]
     have hk:j - (List.take i (prL V n)).length=(j - i - 1)+1:=by rw [List.length_take,hl,Nat.min_eq_left hi]; omega
     simp only [hk,List.getElem_cons_succ,List.getElem_drop];rw [g];congr 1; omega
end
theorem q3c (x y:ByteArray):(twS x y).ok:=⟨Nat.le_refl _,by show (2:Nat)<=_; omega⟩
theorem zb0 {x y:ByteArray}:zdF (twS x y)↔zbl x/\zbl y:=by
 constructor
 . intro h;exact ⟨h 0 (by show (0:Nat)<2; omega),h 1 (by show (1:Nat)<2; omega)⟩
 . rintro ⟨h1,h2⟩ i hi;have hi:i<2:=hi;rcases (show i=0\/i=1 by omega) with rfl | rfl
   . exact h1
   . exact h2
theorem cBi {p:Prop}:cB p=true↔p:=by
 constructor
 . intro h;by_cases hp:p
   . exact hp
   . rw [q0a hp] at h; cases h
 . exact q8a
theorem q4w {p:Prop} (h:¬ p):(!cB p)=true:=by rw [q0a h]; rfl
theorem qvh {p:Prop} (h:p):(!cB p)=false:=by rw [q8a h]; rfl
theorem qa9 {V:Nat->Value} {n i m:Nat} (hV:PrV V n) (h:i * 2+m<=n * 2):zhd m fun j=>V (0+i * 2+j):=by
 intro j hj;have hi:(i * 2+j) / 2<n:=by omega
 obtain ⟨h1,h2⟩:=hV _ hi;show (V (0+i * 2+j)).oneCell'=true;rcases (show 0+i * 2+j=(i * 2+j) / 2 * 2\/0+i * 2+j=(i * 2+j) / 2 * 2+1 by omega) with c | c
 . rw [c,h1]; rfl
 . rw [c,h2]; rfl
def tuD (t:Pw) (x y:ByteArray) (v:SV) (H:List SO):Prop:=∃ m W,1<=m/\v=.tuple [.slice ⟨m,.lit 0⟩ (.sym (t.n+1)) (.rest m 0),.int .i64 (.lit 0)]/\H[m]? = some (.own (.raw W ((t.n+1) * 2)) false 71)/\PrV W (t.n+1)/\prL W (t.n+1)=zcE t.list (x,y)
theorem joe (N:Nat):N * 2 / 2=N:=by omega
theorem jlh {t:Pw} (b:Bool) (k:Nat) {x y:ByteArray} (ht:t.ok) (hx:zbl x) (hy:zbl y) (hne:x≠y) (hno:¬ t.has (x,y)) (hn:t.n<1000):Runs zcm 29 [slQ 0 t.n b k,.str (.sym x),.str (.sym y)] [t.row] (tuD t x y):=by
 obtain ⟨V,N,n⟩:=t;obtain ⟨h1,h2,h3⟩:n<=N/\n<=1000000/\PrV V n:=ht;have hn:n<1000:=hn;have hxs:=hx.2.1;have hys:=hy.2.1;have etp:tpR V N n=⟨V,N,n⟩:=by unfold tpR; rw [joe]
 have hsz:(twS x y).ok/\∀ j,j<2->((twS x y).at j).size<=9223372036854775807:=⟨q3c x y,fun j hj=>by
  rcases (show j=0\/j=1 by omega) with rfl | rfl
  . show x.size<=_; omega
  . show y.size<=_; omega⟩
 have hG:∀ p∈tuG V N n x y,p:=qpa (zaa hsz (zaa (qvh (zb0.2 ⟨hx,hy⟩)) qaa)) (zaa (decide_eq_false hne) (zaa (by omega) (zaa (by rw [etp]; exact ⟨h1,h2,h3⟩) qaa)))
 have htp:(⟨V,N,n⟩:Pw).ok:=⟨h1,h2,h3⟩;show Runs zcm _ [slQ 0 n b k,.str (.sym x),.str (.sym y)] [rwV V N] _;have heq:∀ i,(zcQ (V (0+i * 2+0)),zcQ (V (0+i * 2+1)))=zbL V i:=fun i=>by unfold zbL; rw [Nat.zero_add,Nat.add_zero]
 have hget:∀ (j:Nat) (h:j<(prL V n).length),(prL V n)[j]=zbL V j:=fun j h=>by simp [prL]
 refine q7c zdB (tuC V N n b k x y) (fun i=>i<=n/\∀ j,j<i->zcj (zbL V j) (x,y)) (fun i=>n - i) (fun g nm hg=>by cases hg) ?_ fun i ⟨hi,hlt⟩ J => ?_
 . refine qgc (some (1,3)) 20000 0 ⟨Nat.zero_le _,fun j hj=>by omega⟩ (fun z=>jjh V N n b k x y z) (q5z V N n b k x y 0 0) (fun q hq p u hp hu => ?_) (fun e he=>by cases he) (qpa hG (zaa (q0a (by rw [etp]; exact hno)) (zaa (decide_eq_false (by omega)) qaa)))
   obtain rfl:q=(0,8,.int .i64 (.lit 0)):=by simpa using hq
   exact q6a (jwl V N n b k x y 0) hp hu (qab rfl)
 . by_cases hc:i<n/\zcj (zbL V i) (x,y)
   . refine qya (some (1,3)) 20000 (i+1) ⟨⟨by omega,fun j hj => ?_⟩,by omega⟩ (fun z=>jkh V N n b k x y i J z) (q5z V N n b k x y i (i+1)) (qyi htp hc.1 (zaa (by unfold ltI; rw [heq]; exact q8a hc.2) (zaa ⟨by omega,by omega⟩ qaa)))
     by_cases c:j<i
     . exact hlt j c
     . obtain rfl:j=i:=by omega
       exact hc.2
   ·
    have hf:∃ f,∀ p∈exP V N n x y i f,p:=by
     by_cases c:i<n
     . exact ⟨true,qyi htp c (zaa (by unfold geI; rw [heq]; exact q0a fun h=>hc ⟨c,h⟩) qaa)⟩
     . exact ⟨false,qtb (decide_eq_false (by omega)) 9⟩
    obtain ⟨f,hf⟩:=hf;obtain ⟨hW1,hW2⟩:=jfc (V:=V) (n:=n) (i:=i) (x:=x) (y:=y) (e:=decide (0+i<=0)) rfl hi h3;have hEx:∀ p∈exC V N n x y i (decide (0+i<=0)),p:=by
     unfold exC;refine qpa (zaa ⟨by omega,by omega⟩ (zaa (by omega) (zaa rfl qaa))) ?_
     have hone:=qa9 (V:=V) (n:=n) (i:=i) (m:=(n - i) * 2) h3 (by omega)
     cases decide (0+i<=0) with
     | true=>exact zaa ⟨by omega,by omega⟩ (zaa (by omega) (zaa (Nat.le_refl 2) (zaa ⟨⟨by omega,by omega⟩,hone⟩ qaa)))
     | false=>exact zaa (Nat.le_refl 0) (zaa ⟨by omega,by omega⟩ (zaa (Nat.le_refl 2) (zaa (by omega) (zaa ⟨⟨by omega,by omega⟩,fun j hj=>by
       rcases (show j=0\/j=1 by omega) with rfl | rfl <;> rfl⟩ (zaa ⟨by omega,by omega⟩ (zaa (by omega) (zaa (by omega) (zaa ⟨⟨by omega,by omega⟩,hone⟩ qaa))))))))
    have hnn:exN n i (decide (0+i<=0))=n+1:=by
     cases h:decide (0+i<=0) with
     | true=>have:=of_decide_eq_true h; show 1+(n - i)=_; omega
     | false=>show 0+i+1+(n - i)=_; omega
    have hm:1<=exM (decide (0+i<=0)):=by cases decide (0+i<=0) <;> (show (1:Nat)<=_; decide)
    refine q4d (js:=[exM (decide (0+i<=0))]) (K:=fun r=>r=exR V n x y i (decide (0+i<=0))) none 20000 (M:=tuC V N n b k x y i) (names:=[0]) (fun z => ?_) (fun v es hk H hH => ?_)
    . have hz:∃ o,o<3/\∀ p∈odC z o,p:=by
       by_cases c:z 0 0=0
       . by_cases c':z 1 0=0
         . exact ⟨0,by omega,zaa (decide_eq_true c) (zaa (decide_eq_true c') qaa)⟩
         . exact ⟨1,by omega,zaa (decide_eq_true c) (zaa (decide_eq_false c') qaa)⟩
       . exact ⟨2,by omega,zaa (decide_eq_false c) qaa⟩
      obtain ⟨o,ho,hz⟩:=hz;have hrun:=jvl V N n b k x y i J z f (decide (0+i<=0));rw [q1a,q1a] at hrun;have hrun:=List.map_inj_left.1 hrun o (by rw [qpd]; exact List.mem_range'_1.2 ⟨by omega,by omega⟩)
      exact ⟨_,_,_,hrun,qpa hf (qpa hz hEx),rfl⟩
    . obtain ⟨rfl,rfl⟩:=Prod.mk.inj (show (v,es)=exR V n x y i (decide (0+i<=0)) from hk)
      have hH:=(List.cons.inj (show [H[exM (decide (0+i<=0))]?]=[some (.own (.raw (exW V x y i (decide (0+i<=0))) (exN n i (decide (0+i<=0)) * 2)) false 71)] from hH)).1
      rw [hnn] at hH ⊢;refine ⟨_,_,hm,rfl,hH,hW1,?_⟩;rw [hW2];exact (jxl (by show i<=(prL V n).length; rw [qqb]; exact hi) (fun j h hj=>by rw [hget]; exact hlt j hj) (fun h hc'=>hc ⟨by have:i<(prL V n).length:=h; rwa [qqb] at this,by
       have:zcj ((prL V n)[i]) (x,y):=hc'
       rwa [hget] at this⟩)).symm
def capQ (nm:Nat) (c:SC):Option (Bool × Nat):=SC.rec (motive:=fun _=>Option (Bool × Nat)) (fun m=>some (false,m)) (fun m=>some (false,m)) (fun q k=>zab (Nat.beq q nm) (some (true,k)) none) c
theorem jgc {nm:Nat} {c:SC} {bk:Bool × Nat} (h:capQ nm c=some bk) (γ:Val):c.den γ=(zab bk.1 (.rest nm bk.2) (.sym bk.2):SC).den γ:=by
 cases c with
 | lit m=>cases h; rfl
 | sym m=>cases h; rfl
 | rest q k =>
   have h:zab (Nat.beq q nm) (some (true,k)) none=some bk:=h;cases hq:Nat.beq q nm with
   | false=>rw [hq] at h; cases h
   | true =>
     rw [hq] at h;cases h;rw [Nat.eq_of_beq_eq_true hq]; rfl
def q5w (H:List SO) (v:SV) (f:Pw->Nat->Bool->Nat->R α):R α:=v.asSlice (.stuck 7870) fun a l c=>zab (is0 a.off) (zah (capQ a.nm c) (.stuck 7871) fun bk=>pwE (nth H a.nm) fun V N=>f ⟨V,N,l.den⟩ a.nm bk.1 bk.2) (.stuck 7872)
theorem qnv {H:List SO} {v:SV} {f:Pw->Nat->Bool->Nat->R α} {φ:α->Prop} (h:∀ t nm b k,(∀ g,∃ e',H[nm]? = some e'/\Taken g t.row e')->v.Imp (slQ nm t.n b k)->(f t nm b k).Sat φ):(q5w H v f).Sat φ:=by
 unfold q5w;rcases qse v with ⟨a,l,c,rfl⟩ | hv
 . refine qcb fun h0=>qca fun bk hbk=>qt2 fun V N ht=>h ⟨V,N,l.den⟩ a.nm bk.1 bk.2 (fun g=>by rw [← qea]; exact ht g) fun γ x hx => ?_
   obtain ⟨nm,off⟩:=a;obtain rfl:=qtm h0;obtain ⟨A,C,hA,hC,hle,rfl⟩:=zaf.1 hx;exact zaf.2 ⟨A,C,hA,by rw [← jgc hbk]; exact hC,hle,rfl⟩
 . rw [hv]; trivial
theorem qop (f:Nat->Nat) (nm n:Nat) (b:Bool) (k:Nat):(slQ nm n b k).ren f=slQ (f nm) n b k:=by cases b <;> rfl
theorem q0m (p:Nat->Bool) (nm n:Nat) (b:Bool) (k:Nat) (h:p nm=true):(slQ nm n b k).uses p=true:=by
 cases b with
 | false=>show (p nm && true)=true; rw [h]; rfl
 | true=>show (p nm && p nm)=true; rw [h]; rfl
def zcV (x y:ByteArray):Bool:=cB (zbl x/\zbl y/\x≠y)
def zdK (v:SV) (m:Int):SV:=.tuple [v,.int .i64 (.lit m)]
def lsE (l:List Pr) (m:Nat):SO:=.own (.raw (qoc qwc 2 l) (m * 2)) false 71
def tuR (base nm:Nat) (t:Pw) (b:Bool) (k:Nat) (x y:ByteArray):R zaz :=
 .need (t.ok/\x.size<=9223372036854775807/\y.size<=9223372036854775807) (.fork (zcV x y) (.fork (cB (t.has (x,y))) (.ok ⟨zdK (slQ nm t.n b k) 11,[],[]⟩) (.fork (decide ((t.n:Int)>=1000)) (.ok ⟨zdK (slQ nm t.n b k) 7,[],[]⟩)
  (.ok ⟨zdK (.slice ⟨base,.lit 0⟩ (.sym (t.n+1)) (.rest base 0)) 0,[],[lsE (zcE t.list (x,y)) (t.n+1)]⟩))) (.ok ⟨zdK (slQ nm t.n b k) 2,[],[]⟩))
def tuSm:zaR:=fun args H base=>qrh args fun v xv yv=>zah (zbH xv) (.stuck 7873) fun x=>zah (zbH yv) (.stuck 7873) fun y=>q5w H v fun t nm b k=>tuR base nm t b k x.den y.den
theorem qfq (t:Pw):t.list.length=t.n:=qqb _ _
theorem q6z {W:Nat->Value} {l:List Pr} {m:Nat} (_:l.length=m) (h1:PrV W m) (h2:prL W m=l):(Cells.raw W (m * 2)).Imp (.raw (qoc qwc 2 l) (m * 2)):=fun γ vs hv=>by
 obtain ⟨h3,h4⟩:vs.length=m * 2/\∀ (i:Nat) (x:Value),vs[i]? = some x->x=W i:=hv;refine ⟨h3,fun i x hx => ?_⟩;have hi:=(List.getElem?_eq_some_iff.1 hx).1;rw [h4 i x hx,← h2];exact qkz h1 i (by rw [qqb]; omega)
theorem tuOK:q2a Tryd.prog 29 tuSm:=by
 intro glob O w0 β H w base args vs hH hG ha;refine qxd fun v xv yv hv=>qca fun x hx=>qca fun y hy => ?_
 rw [hv,qua hx,qua hy] at ha;have ha:=qja (.refl v) (qja (qhb (t:=.sym x.den) rfl) (qja (qhb (t:=.sym y.den) rfl) qsb)) _ _ ha;generalize x.den=x at ha ⊢;generalize y.den=y at ha ⊢;refine qnv fun t nm b k ht hi => ?_
 have ha:=qja hi (SV.zfL.refl _) _ _ ha
 let I:Ifc:=⟨[nm],[t.row],[slQ 0 t.n b k,.str (.sym x),.str (.sym y)]⟩
 have ha:SV.zak β (SV.zbA I.big I.args)=some vs:=by
  show SV.zak β [(slQ 0 t.n b k).ren _,_,_]=_;rw [qop]; exact ha
 have hF:I.zbS H:=Ifc.zbD (by simp [I]) (by
  show ((slQ 0 t.n b k).uses _ && _)=true;rw [q0m _ _ _ _ _ rfl]; rfl) ⟨⟨(let ⟨e,h1,h2⟩:=ht _; ⟨e,h1,h2.q⟩),(t.zbq _).q⟩,trivial⟩
 have hgl:∀ g j,(zcm.at none).glob g=some j->I.known j=true/\∃ l,β (I.big j)=some l/\l.blk=g/\l.off=0:=by intro g j hg; cases hg
 have go:∀ {ds ps m},zaP [] (tuT t.V t.N t.n b k x y none) ds=(ps,zfT t.n b k m)->(∀ p∈ps,p)->qob Tryd.prog H β w base 29 vs ⟨zdK (slQ nm t.n b k) m,[],[]⟩:=fun {ds ps m} hr hp =>
  qmb (zdB.at none) 20000 hH I hgl ha hF [] (by simp) (by simp) (q5a hr hp fun H2 _=>⟨by
   show SV.Imp (zdK ((slQ 0 t.n b k).ren (I.out base [])) m) _;rw [qop]; exact .refl _,by
   show ((slQ 0 t.n b k).uses _ && _)=true;rw [q0m _ _ _ _ _ rfl]; rfl,trivial,trivial⟩)
 rintro ⟨hok,hxz,hyz⟩;have hsz:(twS x y).ok/\∀ j,j<2->((twS x y).at j).size<=9223372036854775807:=⟨q3c x y,fun j hj=>by
  rcases (show j=0\/j=1 by omega) with rfl | rfl
  . exact hxz
  . exact hyz⟩
 have etp:tpR t.V t.N t.n=t:=by unfold tpR; rw [joe]
 refine ⟨fun h1 => ?_,fun h1 => ?_⟩
 . obtain ⟨hx,hy,hne⟩:=cBi.1 h1;have hG:∀ p∈tuG t.V t.N t.n x y,p:=qpa (zaa hsz (zaa (qvh (zb0.2 ⟨hx,hy⟩)) qaa)) (zaa (decide_eq_false hne) (zaa (by omega) (zaa (by rw [etp]; exact hok) qaa)))
   refine ⟨fun h2 => ?_,fun h2=>⟨fun h3 => ?_,fun h3 => ?_⟩⟩
   . exact go (jhh t.V t.N t.n b k x y) (qpa hG (zaa (by rw [etp]; exact h2) qaa))
   . exact go (jih t.V t.N t.n b k x y) (qpa hG (zaa (by rw [etp]; exact h2) (zaa h3 qaa)))
   . have h2:¬ t.has (x,y):=fun h=>by rw [q8a h] at h2; cases h2
     have h3:t.n<1000:=by have:=of_decide_eq_false h3; omega
     refine q9h (c:=zcm) hH I (by intro g j hg; cases hg) ha hF (qjb (jlh b k hok hx hy hne h2 h3) fun v H2 h => ?_)
     obtain ⟨m,W,hm,rfl,hW,hW1,hW2⟩:=h;have hl:(zcE t.list (x,y)).length=t.n+1:=by rw [qzm,qfq]
     refine ⟨[m],by simpa [I] using hm,by simp,?_,?_,trivial,⟨.inl ⟨_,_,_,_,hW,trivial,q6z hl hW1 hW2,rfl⟩,trivial⟩⟩
     . show SV.Imp (zdK (.slice ⟨I.out base [m] m,.lit 0⟩ (.sym (t.n+1)) (.rest (I.out base [m] m) 0)) 0) _;rw [zge (by simpa [I] using hm)]
       exact .refl _
     . show ((I.seen [m] m && I.seen [m] m) && _)=true;rw [qxm]; rfl
 . have h1:¬ (zbl x/\zbl y/\x≠y):=fun h=>by
    have h1:zcV x y=false:=h1;unfold zcV at h1;rw [q8a h] at h1; cases h1
   by_cases hxy:zbl x/\zbl y
   . have he:x=y:=Classical.not_not.1 fun h=>h1 ⟨hxy.1,hxy.2,h⟩;exact go (jgh t.V t.N t.n b k x y) (qpa (zaa hsz (zaa (qvh (zb0.2 hxy)) qaa)) (zaa (decide_eq_true he) qaa))
   . exact go (jul t.V t.N t.n b k x y) (zaa hsz (qtb (q4w fun h=>hxy (zb0.1 h)) 4))
end
noncomputable section
open Go.Sim
open Go.Proofs
variable {α:Type}
section
variable (V:Nat->Value) (N n:Nat) (b:Bool) (k:Nat) (x y:ByteArray) (i:Nat) (J:zaW) (z:Nat->Nat->Nat)
def unT (st:Option (Nat × Nat)):Tree:=qla (zcm.at st) 20000 30 [slQ 0 n b k,.str (.sym x),.str (.sym y)] [rwV V N]
theorem jzl:zaP [] (unT V N n b k x y none) (zaX true 4)=(((twS x y).ok/\∀ j,j<2->((twS x y).at j).size<=9223372036854775807)::zaX ((!cB (zdF (twS x y)))=true) 4,zfT n b k 2):=by cases b <;> kernel_rfl
theorem jmh:zaP [] (unT V N n b k x y none) [false,true]=(app (twG x y false) [decide (x=y)=true],zfT n b k 2):=by cases b <;> kernel_rfl
def unC:Cut:=⟨q0b (qvb (unT V N n b k x y (some (1,3))) (zaX false 8)).frames [[(0,slQ 0 n b k),(1,.str (.sym x)),(2,.str (.sym y)),(8,.int .i64 (.sym i))]],[.ent (rwV V N)]⟩
def unS (st:Option (Nat × Nat)):Tree:=zaY (zcm.at st) 20000 ((unC V N n b k x y i).fill J)
theorem jnh:zaq [] (unC V N n b k x y 0) [0] (unT V N n b k x y (some (1,3))) [false,false] z=(app (twG x y false) [decide (x=y)=false],some (.inr (qva [(0,8,.int .i64 (.lit 0))] [] (qia [0] 2 (unC V N n b k x y 0))))):=by cases b <;> kernel_rfl
theorem joh:zaq [] (unC V N n b k x y i) [0] (unS V N n b k x y i J (some (1,3))) [true,false] z=(rdP V N n i [eqP V (0+i * 2) (x,y)=false,qra ((i:Int)+1)],some (.inr (qia [0] 1 (unC V N n b k x y (i+1))))):=by cases b <;> kernel_rfl
theorem jph:zaq [] (unC V N n b k x y i) [0] (unS V N n b k x y i J none) [false] z=([decide ((i:Int)<(n:Int))=false],some (.inl (.tuple [slQ 0 n b k,.int .i64 (.lit 9)],[]))):=by cases b <;> kernel_rfl
def dlW (e:Bool):Nat->Value:=zab e (zb5 (fun j=>atV [] (0+j)) (0 * 2) fun j=>V (0+(i+1) * 2+j))
 (zb5 (fun j=>zb5 (fun j=>atV [] (0+j)) (0 * 2) (fun j=>V (0+j)) (0+j)) ((0+i) * 2) fun j=>V (0+(i+1) * 2+j))
def dlN (e:Bool):Nat:=zab e (0+(n - (i+1))) (0+i+(n - (i+1)))
def dlM (e:Bool):Nat:=zab e 2 3
def dlB:List Prop:=[qra ((i:Int)+1),(0:Int)<=(i:Int)+1/\(i:Int)+1<=(n:Int),0+(i+1) * 2+(n - (i+1)) * 2<=N * 2]
def dlA (e:Bool):List Prop:=[eqP V (0+i * 2) (x,y)=true,(0:Int)<=(i:Int)/\(i:Int)<=(n:Int),0+i * 2<=N * 2,decide (0+i<=0)=e]
def dlC (e:Bool):List Prop:=app (rdP V N n i (dlA V N n x y i e))
 (zab e (app (dlB N n i) [decide (0+(n - (i+1))<=0)=false,0<=0,(0+(n - (i+1))) * 32<140737488355328/\0+(n - (i+1))<140737488355328])
  (app [0<=0,(0+i) * 32<140737488355328/\0+i<140737488355328] (app (dlB N n i) [0+(0+i) * 2<=(0+i) * 2,((0+i+(n - (i+1))) * 32<140737488355328/\0+i+(n - (i+1))<140737488355328)/\zhd ((n - (i+1)) * 2) fun j=>V (0+(i+1) * 2+j)])))
theorem jqh:zaq [1] (unC V N n b k x y i) [0] (unS V N n b k x y i J none) [true,true,true,true] z=(app (rdP V N n i (dlA V N n x y i true)) (app (dlB N n i) [decide (0+(n - (i+1))<=0)=true]),some (.inl (.tuple [.slice ⟨1,.lit 0⟩ (.lit 0) (.lit 0),.int .i64 (.lit 0)],[some (.own (.lst []) true 71)]))):=by cases b <;> kernel_rfl
theorem j0l (e:Bool):zaq [dlM e] (unC V N n b k x y i) [0] (unS V N n b k x y i J none) (true::true::e::zab e [false] []) z=(dlC V N n x y i e,some (.inl (.tuple [.slice ⟨dlM e,.lit 0⟩ (.sym (dlN n i e)) (.rest (dlM e) 0),.int .i64 (.lit 0)],[some (.own (.raw (dlW V i e) (dlN n i e * 2)) false 71)]))):=by cases b <;> cases e <;> kernel_rfl
theorem q7z (j:Nat):zab (qna 1 [0] (unC V N n b k x y i) (unC V N n b k x y j)) (zaG qma (unC V N n b k x y j).heap) false=true:=by cases b <;> kernel_rfl
theorem j1l:(((unC V N n b k x y i).frames[0]?).bind fun p=>p.tmps[8]?)=some (some (.int .i64 (.sym i))):=by cases b <;> kernel_rfl
end
def zc9 (l:List Pr) (p:Pr):List Pr:=l.eraseP fun q=>decide (q=p)
theorem j2l {l:List Pr} {p:Pr} {i:Nat} (hi:i<l.length) (h1:∀ j (h:j<l.length),j<i->l[j]≠p) (h2:l[i]=p):zc9 l p=l.take i++l.drop (i+1):=by
 unfold zc9;induction l generalizing i with
 | nil=>simp at hi
 | cons a l ih =>
   cases i with
   | zero =>
     have ha:a=p:=h2;rw [List.eraseP_cons_of_pos (by simpa using ha)]
     rfl
   | succ i =>
     have ha:a≠p:=h1 0 (by simp) (by omega)
     rw [List.eraseP_cons_of_neg (by simpa using ha),ih (i:=i) (by simpa using hi) (fun j h hj=>h1 (j+1) (by simpa using h) (by omega)) (by simpa using h2)]
     rfl
section
variable {V:Nat->Value} {n i:Nat}
theorem j3l {e:Bool} (he:decide (0+i<=0)=e):(∀ j,j<i->dlW V i e (j * 2)=V (j * 2)/\dlW V i e (j * 2+1)=V (j * 2+1))/\∀ j,i<=j->dlW V i e (j * 2)=V ((j+1) * 2)/\dlW V i e (j * 2+1)=V ((j+1) * 2+1):=by
 cases e with
 | true =>
   have h0:i=0:=by have:=of_decide_eq_true he; omega
   subst h0;have e1:∀ m,dlW V 0 true m=if m<0 * 2 then atV [] (0+m) else V (0+(0+1) * 2+(m - 0 * 2)):=fun m=>rfl
   refine ⟨fun j hj=>by omega,fun j hj=>⟨?_,?_⟩⟩
   . rw [e1,if_neg (by omega)]; exact congrArg V (by omega)
   . rw [e1,if_neg (by omega)]; exact congrArg V (by omega)
 | false =>
   have e1:∀ m,dlW V i false m=if m<(0+i) * 2 then (if 0+m<0 * 2 then atV [] (0+(0+m)) else V (0+(0+m - 0 * 2))) else V (0+(i+1) * 2+(m - (0+i) * 2)):=fun m=>rfl
   refine ⟨fun j hj=>⟨?_,?_⟩,fun j hj=>⟨?_,?_⟩⟩
   . rw [e1,if_pos (by omega),if_neg (by omega)]; exact congrArg V (by omega)
   . rw [e1,if_pos (by omega),if_neg (by omega)]; exact congrArg V (by omega)
   . rw [e1,if_neg (by omega)]; exact congrArg V (by omega)
   . rw [e1,if_neg (by omega)]; exact congrArg V (by omega)
theorem jhc {e:Bool} (he:decide (0+i<=0)=e) (hi:i<n) (hV:PrV V n):PrV (dlW V i e) (n - 1)/\prL (dlW V i e) (n - 1)=(prL V n).take i++(prL V n).drop (i+1):=by
 obtain ⟨h1,h3⟩:=j3l (V:=V) he;have a1:∀ j,j<i->zbL (dlW V i e) j=zbL V j:=fun j hj=>by unfold zbL; rw [(h1 j hj).1,(h1 j hj).2]
 have a3:∀ j,i<=j->zbL (dlW V i e) j=zbL V (j+1):=fun j hj=>by unfold zbL; rw [(h3 j hj).1,(h3 j hj).2]
 refine ⟨fun j hj => ?_,?_⟩
 . by_cases c:j<i
   . rw [a1 j c,(h1 j c).1,(h1 j c).2]; exact hV j (by omega)
   . rw [a3 j (by omega),(h3 j (by omega)).1,(h3 j (by omega)).2]; exact hV (j+1) (by omega)
 . have hl:(prL V n).length=n:=qqb V n;refine List.ext_getElem (by rw [qqb,List.length_append,List.length_take,List.length_drop,hl]; omega) fun j hj hj' => ?_
   have hj:j<n - 1:=by rwa [qqb] at hj
   have g:∀ (W:Nat->Value) (m k:Nat) (h:k<(prL W m).length),(prL W m)[k]=zbL W k:=fun W m k h=>by simp [prL]
   rw [g];by_cases c:j<i
   . rw [a1 j c,List.getElem_append_left (by rw [List.length_take,hl]; omega),List.getElem_take,g]
   . rw [a3 j (by omega),List.getElem_append_right (by rw [List.length_take,hl]; omega)]
     simp only [List.getElem_drop];rw [g];congr 1;rw [List.length_take,hl,Nat.min_eq_left (by omega)]; omega
end
def unD (t:Pw) (x y:ByteArray) (v:SV) (H:List SO):Prop :=
 (t.n=1/\v=.tuple [.slice ⟨1,.lit 0⟩ (.lit 0) (.lit 0),.int .i64 (.lit 0)]/\H[1]? = some (.own (.lst []) true 71)) \/
 (t.n≠1/\∃ m W,1<=m/\v=.tuple [.slice ⟨m,.lit 0⟩ (.sym (t.n - 1)) (.rest m 0),.int .i64 (.lit 0)]/\H[m]? = some (.own (.raw W ((t.n - 1) * 2)) false 71)/\PrV W (t.n - 1)/\prL W (t.n - 1)=zc9 t.list (x,y))
def unE (t:Pw) (b:Bool) (k:Nat) (x y:ByteArray) (v:SV) (H:List SO):Prop:=(¬ t.has (x,y)/\v=.tuple [slQ 0 t.n b k,.int .i64 (.lit 9)])\/(t.has (x,y)/\unD t x y v H)
theorem jrh {t:Pw} (b:Bool) (k:Nat) {x y:ByteArray} (ht:t.ok) (hx:zbl x) (hy:zbl y) (hne:x≠y):Runs zcm 30 [slQ 0 t.n b k,.str (.sym x),.str (.sym y)] [t.row] (unE t b k x y):=by
 obtain ⟨V,N,n⟩:=t;obtain ⟨h1,h2,h3⟩:n<=N/\n<=1000000/\PrV V n:=ht;have hxs:=hx.2.1;have hys:=hy.2.1;have hsz:(twS x y).ok/\∀ j,j<2->((twS x y).at j).size<=9223372036854775807:=⟨q3c x y,fun j hj=>by
  rcases (show j=0\/j=1 by omega) with rfl | rfl
  . show x.size<=_; omega
  . show y.size<=_; omega⟩
 have htp:(⟨V,N,n⟩:Pw).ok:=⟨h1,h2,h3⟩;show Runs zcm _ [slQ 0 n b k,.str (.sym x),.str (.sym y)] [rwV V N] _;have hget:∀ (j:Nat) (h:j<(prL V n).length),(prL V n)[j]=zbL V j:=fun j h=>by simp [prL]
 refine q7c zdB (unC V N n b k x y) (fun i=>i<=n/\∀ j,j<i->zbL V j≠(x,y)) (fun i=>n - i) (fun g nm hg=>by cases hg) ?_ fun i ⟨hi,hlt⟩ J => ?_
 . refine qgc (some (1,3)) 20000 0 ⟨Nat.zero_le _,fun j hj=>by omega⟩ (fun z=>jnh V N n b k x y z) (q7z V N n b k x y 0 0) (fun q hq p u hp hu => ?_) (fun e he=>by cases he) (qpa (zaa hsz (zaa (qvh (zb0.2 ⟨hx,hy⟩)) qaa)) (zaa (decide_eq_false hne) qaa))
   obtain rfl:q=(0,8,.int .i64 (.lit 0)):=by simpa using hq
   exact q6a (j1l V N n b k x y 0) hp hu (qab rfl)
 . by_cases hin:i<n
   . by_cases hc:zbL V i=(x,y)
     . have hA:∀ e,decide (0+i<=0)=e->∀ p∈rdP V N n i (dlA V N n x y i e),p:=fun e he=>qyi htp hin (zaa (by rw [q6s]; exact decide_eq_true hc) (zaa ⟨by omega,by omega⟩ (zaa (by omega) (zaa he qaa))))
       have hB:∀ p∈dlB N n i,p:=zaa ⟨by omega,by omega⟩ (zaa ⟨by omega,by omega⟩ (zaa (by omega) qaa))
       have hh:(⟨V,N,n⟩:Pw).has (x,y):=Pw.zdw.2 ⟨i,hin,hc⟩;by_cases hlast:n=1
       . have hi0:i=0:=by omega
         refine qta none 20000 (fun z=>jqh V N n b k x y i J z) (qpa (hA true (decide_eq_true (by omega))) (qpa hB (zaa (decide_eq_true (by omega)) qaa))) fun H hH=>.inr ⟨hh,.inl ⟨hlast,rfl,(List.cons.inj hH).1⟩⟩
       . obtain ⟨hW1,hW2⟩:=jhc (V:=V) (n:=n) (i:=i) (e:=decide (0+i<=0)) rfl hin h3;have hone:=qa9 (V:=V) (n:=n) (i:=i+1) (m:=(n - (i+1)) * 2) h3 (by omega)
         have hC:∀ p∈dlC V N n x y i (decide (0+i<=0)),p:=by
          unfold dlC;refine qpa (hA _ rfl) ?_
          cases h:decide (0+i<=0) with
          | true =>
            have:=of_decide_eq_true h;exact qpa hB (zaa (decide_eq_false (by omega)) (zaa (Nat.le_refl 0) (zaa ⟨by omega,by omega⟩ qaa)))
          | false=>exact qpa (zaa (Nat.le_refl 0) (zaa ⟨by omega,by omega⟩ qaa)) (qpa hB (zaa (by omega) (zaa ⟨⟨by omega,by omega⟩,hone⟩ qaa)))
         have hnn:dlN n i (decide (0+i<=0))=n - 1:=by
          cases h:decide (0+i<=0) with
          | true=>have:=of_decide_eq_true h; show 0+(n - (i+1))=_; omega
          | false=>show 0+i+(n - (i+1))=_; omega
         have hm:1<=dlM (decide (0+i<=0)):=by cases decide (0+i<=0) <;> (show (1:Nat)<=_; decide)
         refine qta none 20000 (fun z=>j0l V N n b k x y i J z (decide (0+i<=0))) hC fun H hH=>.inr ⟨hh,.inr ⟨hlast,?_⟩⟩;have hH:=(List.cons.inj (show [H[dlM (decide (0+i<=0))]?]=[some (.own (.raw (dlW V i (decide (0+i<=0))) (dlN n i (decide (0+i<=0)) * 2)) false 71)] from hH)).1
         rw [hnn] at hH ⊢;refine ⟨_,_,hm,rfl,hH,hW1,?_⟩;rw [hW2];have hil:i<(prL V n).length:=by rw [qqb]; exact hin
         exact (j2l hil (fun j h hj=>by rw [hget]; exact hlt j hj) (by rw [hget]; exact hc)).symm
     . refine qya (some (1,3)) 20000 (i+1) ⟨⟨by omega,fun j hj => ?_⟩,by omega⟩ (fun z=>joh V N n b k x y i J z) (q7z V N n b k x y i (i+1)) (qyi htp hin (zaa (by rw [q6s]; exact decide_eq_false hc) (zaa ⟨by omega,by omega⟩ qaa)))
       by_cases c:j<i
       . exact hlt j c
       . obtain rfl:j=i:=by omega
         exact hc
   . refine qta none 20000 (fun z=>jph V N n b k x y i J z) (zaa (decide_eq_false (by omega)) qaa) fun H _=>.inl ⟨fun h => ?_,rfl⟩
     obtain ⟨j,hj,he⟩:=Pw.zdw.1 h;exact hlt j (by have hj:j<n:=hj; omega) he
def emL:SO:=.own (.lst []) true 71
def unR (base nm:Nat) (t:Pw) (b:Bool) (k:Nat) (x y:ByteArray):R zaz :=
 .need (t.ok/\x.size<=9223372036854775807/\y.size<=9223372036854775807) (.fork (zcV x y) (.fork (cB (t.has (x,y))) (.fork (decide (t.n=1)) (.ok ⟨zdK (.slice ⟨base,.lit 0⟩ (.lit 0) (.lit 0)) 0,[],[emL]⟩)
  (.ok ⟨zdK (.slice ⟨base,.lit 0⟩ (.sym (t.n - 1)) (.rest base 0)) 0,[],[lsE (zc9 t.list (x,y)) (t.n - 1)]⟩)) (.ok ⟨zdK (slQ nm t.n b k) 9,[],[]⟩)) (.ok ⟨zdK (slQ nm t.n b k) 2,[],[]⟩))
def unSm:zaR:=fun args H base=>qrh args fun v xv yv=>zah (zbH xv) (.stuck 7874) fun x=>zah (zbH yv) (.stuck 7874) fun y=>q5w H v fun t nm b k=>unR base nm t b k x.den y.den
theorem q7s {l:List Pr} {p:Pr} (h:p∈l):(zc9 l p).length=l.length - 1:=by
 unfold zc9;rw [List.length_eraseP_of_mem h (by simp)]
theorem unOK:q2a Tryd.prog 30 unSm:=by
 intro glob O w0 β H w base args vs hH hG ha;refine qxd fun v xv yv hv=>qca fun x hx=>qca fun y hy => ?_
 rw [hv,qua hx,qua hy] at ha;have ha:=qja (.refl v) (qja (qhb (t:=.sym x.den) rfl) (qja (qhb (t:=.sym y.den) rfl) qsb)) _ _ ha;generalize x.den=x at ha ⊢;generalize y.den=y at ha ⊢;refine qnv fun t nm b k ht hi => ?_
 have ha:=qja hi (SV.zfL.refl _) _ _ ha
 let I:Ifc:=⟨[nm],[t.row],[slQ 0 t.n b k,.str (.sym x),.str (.sym y)]⟩
 have ha:SV.zak β (SV.zbA I.big I.args)=some vs:=by
  show SV.zak β [(slQ 0 t.n b k).ren _,_,_]=_;rw [qop]; exact ha
 have hF:I.zbS H:=Ifc.zbD (by simp [I]) (by
  show ((slQ 0 t.n b k).uses _ && _)=true;rw [q0m _ _ _ _ _ rfl]; rfl) ⟨⟨(let ⟨e,h1,h2⟩:=ht _; ⟨e,h1,h2.q⟩),(t.zbq _).q⟩,trivial⟩
 have hgl:∀ g j,(zcm.at none).glob g=some j->I.known j=true/\∃ l,β (I.big j)=some l/\l.blk=g/\l.off=0:=by intro g j hg; cases hg
 have hQ:∀ (m:Int) (H2:List SO),I.zdf base [] ⟨zdK (slQ nm t.n b k) m,[],[]⟩ (zdK (slQ 0 t.n b k) m) H2:=fun m H2=>⟨by
   show SV.Imp (zdK ((slQ 0 t.n b k).ren (I.out base [])) m) _;rw [qop]; exact .refl _,by
   show ((slQ 0 t.n b k).uses _ && _)=true;rw [q0m _ _ _ _ _ rfl]; rfl,trivial,trivial⟩
 have go:∀ {ds ps m},zaP [] (unT t.V t.N t.n b k x y none) ds=(ps,zfT t.n b k m)->(∀ p∈ps,p)->qob Tryd.prog H β w base 30 vs ⟨zdK (slQ nm t.n b k) m,[],[]⟩:=fun {ds ps m} hr hp =>
  qmb (zdB.at none) 20000 hH I hgl ha hF [] (by simp) (by simp) (q5a hr hp fun H2 _=>hQ m H2)
 rintro ⟨hok,hxz,hyz⟩;have hsz:(twS x y).ok/\∀ j,j<2->((twS x y).at j).size<=9223372036854775807:=⟨q3c x y,fun j hj=>by
  rcases (show j=0\/j=1 by omega) with rfl | rfl
  . exact hxz
  . exact hyz⟩
 refine ⟨fun h1 => ?_,fun h1 => ?_⟩
 . obtain ⟨hx,hy,hne⟩:=cBi.1 h1;have hr:=jrh b k hok hx hy hne;refine ⟨fun h2=>⟨fun h3 => ?_,fun h3 => ?_⟩,fun h2 => ?_⟩
   . have h2:=cBi.1 h2;have h3:=of_decide_eq_true h3;refine qzb (c:=zcm) hH I (by intro g j hg; cases hg) ha hF [1] (by simp [I]) (by simp) (qjb hr fun v H2 h => ?_)
     rcases h with ⟨h,_⟩ | ⟨_,⟨_,rfl,hW⟩ | ⟨h,_⟩⟩
     . exact absurd h2 h
     . refine ⟨?_,?_,trivial,⟨.inl ⟨_,_,_,_,hW,rfl,.refl _,rfl⟩,trivial⟩⟩
       . show SV.Imp (zdK (.slice ⟨I.out base [1] 1,.lit 0⟩ (.lit 0) (.lit 0)) 0) _;rw [zge (by simp [I])]
         exact .refl _
       . show ((I.seen [1] 1 && true) && _)=true;rw [qxm]; rfl
     . exact absurd h3 h
   . have h2:=cBi.1 h2;have h3:=of_decide_eq_false h3;refine q9h (c:=zcm) hH I (by intro g j hg; cases hg) ha hF (qjb hr fun v H2 h => ?_)
     rcases h with ⟨h,_⟩ | ⟨_,⟨h,_⟩ | ⟨_,m,W,hm,rfl,hW,hW1,hW2⟩⟩
     . exact absurd h2 h
     . exact absurd h h3
     . have hl:(zc9 t.list (x,y)).length=t.n - 1:=by rw [q7s h2,qfq]
       refine ⟨[m],by simpa [I] using hm,by simp,?_,?_,trivial,⟨.inl ⟨_,_,_,_,hW,trivial,q6z hl hW1 hW2,rfl⟩,trivial⟩⟩
       . show SV.Imp (zdK (.slice ⟨I.out base [m] m,.lit 0⟩ (.sym (t.n - 1)) (.rest (I.out base [m] m) 0)) 0) _;rw [zge (by simpa [I] using hm)]
         exact .refl _
       . show ((I.seen [m] m && I.seen [m] m) && _)=true;rw [qxm]; rfl
   . have h2:¬ t.has (x,y):=fun h=>by rw [q8a h] at h2; cases h2
     refine qzb (c:=zcm) hH I (by intro g j hg; cases hg) ha hF [] (by simp) (by simp) (qjb hr fun v H2 h => ?_)
     rcases h with ⟨_,rfl⟩ | ⟨h,_⟩
     . exact hQ 9 H2
     . exact absurd h h2
 . have h1:¬ (zbl x/\zbl y/\x≠y):=fun h=>by
    have h1:zcV x y=false:=h1;unfold zcV at h1;rw [q8a h] at h1; cases h1
   by_cases hxy:zbl x/\zbl y
   . have he:x=y:=Classical.not_not.1 fun h=>h1 ⟨hxy.1,hxy.2,h⟩;exact go (jmh t.V t.N t.n b k x y) (qpa (zaa hsz (zaa (qvh (zb0.2 hxy)) qaa)) (zaa (decide_eq_true he) qaa))
   . exact go (jzl t.V t.N t.n b k x y) (zaa hsz (qtb (q4w fun h=>hxy (zb0.1 h)) 4))
end
noncomputable section
open Go.Sim
open Go.Proofs
variable {α:Type}
def vBo:MSh:=⟨false,[.b]⟩
section
variable (es:List MapEntry) (c:Nat) (V:Nat->Value) (N n:Nat) (b:Bool) (k:Nat) (i:Nat) (J:zaW) (z:Nat->Nat->Nat)
def agG:Prop:=zd4 es c/\es.length<=1000000
def srL:List Pr:=zbW zbB (qxc es)
def cF (l:List Pr) (j:Nat):ByteArray:=zab (Nat.beq (j % 2) 0) (prN l (j / 2)).1 (prN l (j / 2)).2
end
end
noncomputable section
open Go.Sim
open Go.Proofs
open Go.Sort
variable {α:Type}
def q8s (v:SV):Option Nat:=match v with
 | .ptr ⟨nm,.lit 0⟩=>some nm
 | _=>none
theorem qpi {v:SV} {nm:Nat} (h:q8s v=some nm):v=.ptr ⟨nm,.lit 0⟩:=by
 unfold q8s at h;split at h
 . cases h; rfl
 . cases h
def q9s (k:MSh):Bool:=match k with
 | ⟨false,[.b]⟩=>true
 | _=>false
theorem q1m {k:MSh} (h:q9s k=true):k=vBo:=by
 unfold q9s at h;split at h
 . rfl
 . cases h
end
noncomputable section
open Go.Sim
open Go.Proofs
variable {α:Type}
def rwA (V:Nat->Value) (N:Nat):SO:=.row (.raw V (N * 3))
section
variable (V:Nat->Value) (N n k:Nat) (m:Int) (i:Nat) (J:zaW) (z:Nat->Nat->Nat)
def shT (st:Option (Nat × Nat)):Tree:=qla (zcv.at st) 20000 6 [slP 0 n k,.int .i64 (.sym m)] [rwA V N]
def shZ:Tree:=qla zcv 20000 6 [.zac,.int .i64 (.sym m)] []
def shC:Cut:=⟨q0b (qvb (shT V N n k m (some (1,3))) [false]).frames [[(0,slP 0 n k),(5,.int .i64 (.sym i))]],[.ent (rwA V N)]⟩
def shS (st:Option (Nat × Nat)):Tree:=zaY (zcv.at st) 20000 ((shC V N n k m i).fill J)
def aFr (i:Nat):ByteArray:=zcQ (V (0+i * 3+1))
def aTo (i:Nat):ByteArray:=zcQ (V (0+i * 3+2))
def shA (j:Nat) (q:List Prop):List Prop:=((0:Int)<=(i:Int)/\(i:Int)<(n:Int))::(0+i * 3+j<N * 3)::zcK .s (V (0+i * 3+j))::q
theorem jsh:zaP [] (shT V N n k m none) [true]=([decide ((n:Int) > m)=true],some (.bool (.lit false),[])):=by kernel_rfl
theorem jth:zaP [] (shZ m) [false]=([decide ((0:Int) > m)=false],some (.bool (.lit true),[])):=by kernel_rfl
theorem juh:zaP [] (shZ m) [true]=([decide ((0:Int) > m)=true],some (.bool (.lit false),[])):=by kernel_rfl
theorem jvh:zaq [] (shC V N n k m 0) [0] (shT V N n k m (some (1,3))) [false] z=([decide ((n:Int) > m)=false],some (.inr (qva [(0,5,.int .i64 (.lit 0))] [] (qia [0] 1 (shC V N n k m 0))))):=by kernel_rfl
theorem jwh:zaq [] (shC V N n k m i) [0] (shS V N n k m i J (some (1,3))) [true,false,false] z=((decide ((i:Int)<(n:Int))=true)::shA V N n i 1 ((decide (((aFr V i).size:Int) > 60)=false)::shA V N n i 2 [decide (((aTo V i).size:Int) > 60)=false,qra ((i:Int)+1)]),some (.inr (qia [0] 1 (shC V N n k m (i+1))))):=by kernel_rfl
theorem ziO:zaq [] (shC V N n k m i) [0] (shS V N n k m i J none) (true::zaX true 8) z=((decide ((i:Int)<(n:Int))=true)::shA V N n i 1 (zaX (decide (((aFr V i).size:Int) > 60)=true) 8),noR):=by kernel_rfl
theorem ziN:zaq [] (shC V N n k m i) [0] (shS V N n k m i J none) [true,false,true] z=((decide ((i:Int)<(n:Int))=true)::shA V N n i 1 ((decide (((aFr V i).size:Int) > 60)=false)::shA V N n i 2 [decide (((aTo V i).size:Int) > 60)=true]),noR):=by kernel_rfl
theorem j4l:zaq [] (shC V N n k m i) [0] (shS V N n k m i J none) [false] z=([decide ((i:Int)<(n:Int))=false],zfN):=by kernel_rfl
theorem q8z (j:Nat):zab (qna 1 [0] (shC V N n k m i) (shC V N n k m j)) (zaG qma (shC V N n k m j).heap) false=true:=by kernel_rfl
theorem j5l:(((shC V N n k m i).frames[0]?).bind fun p=>p.tmps[5]?)=some (some (.int .i64 (.sym i))):=by kernel_rfl
end
def zgD (V:Nat->Value) (n:Nat):Prop:=∀ i,i<n->(∃ z,V (0+i * 3)=.int .i64 z)/\V (0+i * 3+1)=.string (aFr V i)/\V (0+i * 3+2)=.string (aTo V i)
def Pw.okA (t:Pw):Prop:=t.n<=t.N/\zgD t.V t.n
def shP (t:Pw) (m:Int):Prop:=(t.n:Int)<=m/\∀ i,i<t.n->(aFr t.V i).size<=60/\(aTo t.V i).size<=60
theorem jxh {t:Pw} (k:Nat) {m:Int} (ht:t.okA) (hm:(t.n:Int)<=m) (hz:t.n<=1000000):Runs zcv 6 [slP 0 t.n k,.int .i64 (.sym m)] [rwA t.V t.N] fun v _=>qyf (cB (shP t m)) v:=by
 obtain ⟨h1,h2⟩:=ht;have hA:∀ {i j:Nat} {q:List Prop},i<t.n->(j=1\/j=2)->(∀ p∈q,p)->∀ p∈shA t.V t.N t.n i j q,p:=fun {i j q} hi hj hq=>by
  obtain ⟨_,h3,h4⟩:=h2 i hi;refine zaa ⟨by omega,by omega⟩ (zaa (by omega) (zaa ?_ hq))
  rcases hj with rfl | rfl
  . rw [h3]; exact zfa _
  . rw [h4]; exact zfa _
 refine qsj qhg (shC t.V t.N t.n k m) (fun i=>(aFr t.V i).size<=60/\(aTo t.V i).size<=60) t.n (fun g nm hg=>by cases hg) (fun Q hQ => ?_) (fun i hi hp J Q hQ => ?_) (fun i hi hp J Q => ?_) (fun hp J Q => ?_)
 . refine qgc (some (1,3)) 20000 0 hQ (jvh t.V t.N t.n k m) (q8z t.V t.N t.n k m 0 0) (fun q hq p u hp hu => ?_) (fun e he=>by cases he) (zaa (decide_eq_false (by omega)) qaa)
   obtain rfl:q=(0,5,.int .i64 (.lit 0)):=by simpa using hq
   exact q6a (j5l t.V t.N t.n k m 0) hp hu (qab rfl)
 . exact qya (some (1,3)) 20000 (i+1) hQ (jwh t.V t.N t.n k m i J) (q8z t.V t.N t.n k m i (i+1)) (zaa (decide_eq_true (by omega)) (hA hi (.inl rfl) (zaa (decide_eq_false (by omega)) (hA hi (.inr rfl) (zaa (decide_eq_false (by omega)) (zaa ⟨by omega,by omega⟩ qaa))))))
 . by_cases c:(aFr t.V i).size<=60
   . have c2:¬ (aTo t.V i).size<=60:=fun h=>hp ⟨c,h⟩;exact qta none 20000 (ziN t.V t.N t.n k m i J) (zaa (decide_eq_true (by omega)) (hA hi (.inl rfl) (zaa (decide_eq_false (by omega)) (hA hi (.inr rfl) (zaa (decide_eq_true (by omega)) qaa))))) fun H _=>⟨_,rfl,(q0a fun h=>hp (h.2 i hi)).symm⟩
   . exact qta none 20000 (ziO t.V t.N t.n k m i J) (zaa (decide_eq_true (by omega)) (hA hi (.inl rfl) (qtb (decide_eq_true (by omega)) 8))) fun H _=>⟨_,rfl,(q0a fun h=>hp (h.2 i hi)).symm⟩
 . exact qta none 20000 (j4l t.V t.N t.n k m t.n J) (zaa (decide_eq_false (by omega)) qaa) fun H _=>⟨_,rfl,(q8a ⟨hm,hp⟩).symm⟩
def ql6 (H:List SO) (v:SV) (f:Pw->Nat->R α):R α:=v.asSlice (.stuck 7890) fun a l _=>zab (is0 a.off) (zah (nth H a.nm) (.stuck 7891) fun e=>match e with
 | .row (.raw V m)=>.need (m=m / 3 * 3) (f ⟨V,m / 3,l.den⟩ a.nm)
 | _=>.stuck 7892) (.stuck 7893)
theorem qb9 {H:List SO} {v:SV} {f:Pw->Nat->R α} {φ:α->Prop} (h:∀ t nm,(∀ g,∃ e',H[nm]? = some e'/\Taken g (rwA t.V t.N) e')->(∀ β x,v.den β=some x->∃ k,(slP nm t.n k).den β=some x)->(f t nm).Sat φ):(ql6 H v f).Sat φ:=by
 unfold ql6;rcases qse v with ⟨a,l,c,rfl⟩ | hv
 . refine qcb fun h0=>qca fun e he => ?_
   cases e <;> first | exact trivial | skip
   rename_i cc;cases cc <;> first | exact trivial | skip
   rename_i V m;intro hm;rw [qea] at he;refine h ⟨V,m / 3,l.den⟩ a.nm (fun g=>⟨_,he,q6h (c0:=.raw V m) (.inl rfl) ?_⟩) fun β x hx => ?_
   . show (Cells.raw V m).zfM (.raw V (m / 3 * 3));rw [← hm];exact Cells.Imp.front (.refl _)
   . obtain ⟨m,_,hd,_,_⟩:=qko hx;obtain ⟨nm,off⟩:=a;obtain rfl:=qtm h0;exact ⟨m,hd⟩
 . rw [hv]; trivial
def shSm:zaR:=fun args H _=>qke args fun v mv=>zah (zkF mv) (.stuck 7894) fun m=>qus v (.ok (bR ((0:Int)<=m.den))) fun _ _=>ql6 H v fun t _=>.need ((t.n:Int)<=m.den->t.okA/\t.n<=1000000) (.ok (bR (shP t m.den)))
theorem shOK:q2a Tryd.prog 6 shSm:=by
 intro glob O w0 β H w base args vs hH hG ha;refine qvc fun v mv hv=>qca fun m hm => ?_
 rw [hv,qmv hm] at ha;have ha:=qja (.refl v) (qja (qab (b:=.sym m.den) rfl) qsb) _ _ ha;generalize m.den=m at ha ⊢;refine qnm (fun hn => ?_) fun _ _ _ _=>qb9 fun t nm ht hi hok => ?_
 . rw [hn] at ha;by_cases c:(0:Int) > m
   . exact q8h qhg hH ha (fun _=>rfl) (fun _=>rfl) (juh m) (zaa (decide_eq_true c) qaa) (q0a fun h=>by omega).symm
   . exact q8h qhg hH ha (fun _=>rfl) (fun _=>rfl) (jth m) (zaa (decide_eq_false c) qaa) (q8a (by omega)).symm
 . obtain ⟨x,ys,hx,hys,rfl⟩:=zad.1 ha;obtain ⟨k,hx'⟩:=hi _ _ hx;have hr:Runs zcv 6 [slP 0 t.n k,.int .i64 (.sym m)] [rwA t.V t.N] fun v _=>qyf (cB (shP t m)) v:=by
    by_cases c:(t.n:Int)<=m
    . exact jxh k (hok c).1 c (hok c).2
    . exact qld (c:=zcv) qhg (q5a (jsh t.V t.N t.n k m) (zaa (decide_eq_true (by omega)) qaa) fun H2 _=>⟨_,rfl,(q0a fun h=>c h.1).symm⟩)
   refine qzb (c:=zcv) hH ⟨[nm],[rwA t.V t.N],[slP 0 t.n k,.int .i64 (.sym m)]⟩ (by intro g j hg; cases hg) (zad.2 ⟨_,_,hx',hys,rfl⟩) (Ifc.zbD (by simp) rfl ⟨⟨(let ⟨e,h1,h2⟩:=ht _; ⟨e,h1,h2.q⟩),(show (rwA t.V t.N).zdp _ from trivial).q⟩,trivial⟩) [] (by simp) (by simp) (qjb hr fun v H h=>qkd rfl h)
end
end Go.Proofs.YtbhlngmhgplepaaDoor.Aes
namespace Go.Sim
noncomputable section
theorem qle {P:Program} {O:Nat->Prop} {w0 w:World} {β:Val} {H:List SO} {base:Nat} {f:FuncId} {vs:List Value} (hH:HeapRel0 P O w0 β H w) {n:Nat} {k v k' v':MSh} {es:List MapEntry} {c:Nat} (hn:H[n]? = some (.obj (.za6 k v es c))) {r:SV} {news:List SO}
  (h:qob P H β w base f vs ⟨r,[(n,.obj (.za6 k' v' es c))],news⟩):qob P H β w base f vs ⟨r,[],news⟩:=by
 intro hf;obtain ⟨_,h2⟩:=h hf;have hx:∃ l,β n=some l/\w.heap[l.blk]? = some (.map es.toArray c):=by
  obtain ⟨l,x,hl,_,hd,hh⟩:zaA P β w n (.obj (.za6 k v es c)):=(hH.entries n _ hn).zf7 rfl;exact ⟨l,hl,by rw [hh,(za7.zbr.1 hd).2]⟩
 obtain ⟨l,hl,hh⟩:=hx;have key:∀ {β':Val} {w':World},Eff P β w base [(n,.obj (.za6 k' v' es c))] news β' w'->Eff P β w base [] news β' w':=fun {β' w'} hE=>by
  obtain ⟨l',x',hl',_,hd',hh'⟩:zaA P β' w' n (.obj (.za6 k' v' es c)):=hE.turned n _ (by simp)
  have e1:l'=l:=by rw [hE.le _ _ hl] at hl'; exact (Option.some.inj hl').symm
  rw [(za7.zbr.1 hd').2,e1] at hh';refine ⟨hE.le,hE.os,hE.tape,hE.output,hE.drawn,hE.size,hE.dom,fun b hb _ _ => ?_,fun _ _ _ h=>(by cases h),fun _ _ h=>(by cases h),fun i e he => ?_,hE.apart⟩
  . by_cases c':l.blk=b
    . rw [← c',hh,hh']
    . exact hE.frame b hb (fun m e l2 hm hl2=>by
       have hm:=List.mem_singleton.1 hm;cases hm;rw [hl] at hl2; cases hl2;exact c') fun m m' hm=>by
       have hm:=List.mem_singleton.1 hm;cases hm
  . obtain ⟨h1,h2,l2,h3,h4⟩:=hE.made i e he;refine ⟨h1,h2,l2,h3,.inl ?_⟩;rcases h4 with h4 | ⟨m,l3,h5,_⟩
    . exact h4
    . have h5:=List.mem_singleton.1 h5;cases h5
 refine ⟨fun _ _ h=>(by cases h),?_⟩
 rcases h2 with ⟨hb,hc⟩ | ⟨v1,w1,β1,h3,h4,h5⟩
 . exact .inl ⟨hb,hc.mono fun e w' ⟨v1,β1,h3,h4,h5⟩=>⟨v1,β1,h3,h4,key h5⟩⟩
 . exact .inr ⟨v1,w1,β1,h3,h4,key h5⟩
end
end Go.Sim
namespace Go.Proofs.YtbhlngmhgplepaaDoor.Aes
noncomputable section
open Go.Sim
open Go.Proofs
variable {α:Type}
def qat (e:SO):Option SV:=match e with
 | .own (.lst [v]) _ _=>some v
 | .row (.lst [v])=>some v
 | _=>none
theorem q2m {e:SO} {v:SV} (h:qat e=some v):e=.row (.lst [v])\/∃ w el,e=.own (.lst [v]) w el:=by
 unfold qat at h;split at h
 . cases h; exact .inr ⟨_,_,rfl⟩
 . cases h; exact .inl rfl
 . cases h
theorem qig {f:Nat->Nat} {v v':SV} {e:SO} (h:e=.row (.lst [v'])\/∃ w el,e=.own (.lst [v']) w el) (hv:v'=v.ren f):zci f (.row (.lst [v])) e:=by
 subst hv;exact ⟨_,h,Cells.Imp.front (Cells.za9 rfl)⟩
section
variable (es:List MapEntry) (c:Nat) (x y:ByteArray)
def mtT:Tree:=qla zcv 4000 17 [.ptr ⟨0,.lit 0⟩,.str (.sym x),.str (.sym y)] [.row (.lst [.map 1]),.obj (.za6 kPr vBo es c)]
def mtZ:Tree:=qla zcv 4000 17 [.ptr ⟨0,.lit 0⟩,.str (.sym x),.str (.sym y)] [.row (.lst [.zaD])]
def pK:Value:=.agg #[.string x,.string y]
theorem j6l:zaP [] (mtZ x y) []=([],some (.bool (.lit false),[])):=by kernel_rfl
theorem zke:zaP [1] (mtT es c x y) [false]=([zaT es (pK x y)=false],some (.bool (.lit false),[some (.obj (.za6 kPr vBo es c))])):=by kernel_rfl
theorem j7l:zaP [1] (mtT es c x y) [true]=([zaT es (pK x y)=true],some (.bool (.sym (zd8 (zbF es (pK x y)))),[some (.obj (.za6 kPr vBo es c))])):=by kernel_rfl
end
def mtB (es:List MapEntry) (x y:ByteArray):Bool:=zaT es (pK x y) && zd8 (zbF es (pK x y))
def zkf:zaR:=fun args H _=>qrh args fun p xv yv=>zah (zbH xv) (.stuck 7900) fun x=>zah (zbH yv) (.stuck 7900) fun y=>zah (q8s p) (.stuck 7901) fun m=>zah (nth H m) (.stuck 7902) fun e=>zah (qat e) (.stuck 7903) fun s =>
 zab (qdl s) (.ok ⟨.bool (.lit false),[],[]⟩) (zah (qmp s) (.stuck 7904) fun mm=>zah (nth H mm) (.stuck 7905) fun e=>match e with
  | .obj (.za6 k v es c)=>zab (qnp k) (zab (q9s v) (zab (q6i [m,mm]) (.ok ⟨.bool (.sym (mtB es x.den y.den)),[],[]⟩) (.stuck 7906)) (.stuck 7906)) (.stuck 7906)
  | _=>.stuck 7907)
theorem mtOK:q2a Tryd.prog 17 zkf:=by
 intro glob O w0 β H w base args vs hH hG ha;refine qxd fun p xv yv hv=>qca fun x hx=>qca fun y hy=>qca fun m hm=>qca fun e he=>qca fun s hs => ?_
 rw [hv,qpi hm,qua hx,qua hy] at ha;have ha:=qja (.refl _) (qja (qhb (t:=.sym x.den) rfl) (qja (qhb (t:=.sym y.den) rfl) qsb)) _ _ ha;generalize x.den=x at ha ⊢;generalize y.den=y at ha ⊢;have hs:=q2m hs;rw [qea] at he;refine R.Sat.zab (fun hnl => ?_) fun _=>qca fun mm hmm=>qca fun e2 he2 => ?_
 . rw [quh hnl] at hs
   let I:Ifc:=⟨[m],[.row (.lst [.zaD])],[.ptr ⟨0,.lit 0⟩,.str (.sym x),.str (.sym y)]⟩
   exact qmb qhg 4000 hH I (by intro g j hg; cases hg) ha (Ifc.zbD (by simp [I]) rfl ⟨⟨⟨_,he,qig hs rfl⟩,rfl⟩,trivial⟩) [] (by simp) (by simp) (q5a (j6l x y) qaa fun H2 _=>⟨.refl _,rfl,trivial,trivial⟩)
 . split
   . rename_i k v es c;refine qcb fun hk=>qcb fun hv=>qcb fun hd => ?_
     have hd:=qxf hd;rw [qyg hmm] at hs;rw [qea] at he2;rw [qni hk,q1m hv] at he2;refine qle (k':=kPr) (v':=vBo) hH he2 ?_
     let I:Ifc:=⟨[m,mm],[.row (.lst [.map 1]),.obj (.za6 kPr vBo es c)],[.ptr ⟨0,.lit 0⟩,.str (.sym x),.str (.sym y)]⟩
     have hF:I.zbS H:=Ifc.zbD hd rfl ⟨⟨⟨_,he,qig hs rfl⟩,rfl⟩,⟨⟨_,he2,_,rfl,fun _ _ h=>h⟩,rfl⟩,trivial⟩;have go:∀ {ds ps b},zaP [1] (mtT es c x y) ds=(ps,some (.bool b,[some (.obj (.za6 kPr vBo es c))]))->(∀ p∈ps,p)->b.den=mtB es x y->qob Tryd.prog H β w base 17 vs ⟨.bool (.sym (mtB es x y)),[(mm,.obj (.za6 kPr vBo es c))],[]⟩:=fun {ds ps b} hr hp hb =>
      qmb qhg 4000 hH I (by intro g j hg; cases hg) ha hF [] (by simp) (by simp) (q5a hr hp fun H2 hH2=>⟨fun γ x hx=>by
       have hx:some (Value.bool b.den)=some x:=hx;rw [hb] at hx;exact hx,rfl,⟨⟨rfl,.inr ⟨_,_,(List.cons.inj hH2).1,rfl,fun _ _ h=>h,rfl⟩⟩,trivial⟩,trivial⟩)
     cases hh:zaT es (pK x y) with
     | true=>exact go (j7l es c x y) (zaa hh qaa) (by unfold mtB; rw [hh]; rfl)
     | false=>exact go (zke es c x y) (zaa hh qaa) (by unfold mtB; rw [hh]; rfl)
   . trivial
end
end Go.Proofs.YtbhlngmhgplepaaDoor.Aes
namespace Go.Sim
noncomputable section
open Go.Proofs Go.Shelf
def q9z (e:SO):Bool:=match e with
 | .obj (.map _ _)=>true
 | .obj (.za6 _ _ _ _)=>true
 | _=>false
theorem qv1 {e:SO} (h:q9z e=true):∃ o,e=.obj o/\∀ β x,o.den β=some x->∃ es c,x=.map es c:=by
 unfold q9z at h;split at h
 . refine ⟨_,rfl,fun β x hx => ?_⟩;simp only [za7.den,Option.map_eq_some_iff] at hx;obtain ⟨es,_,rfl⟩:=hx;exact ⟨_,_,rfl⟩
 . refine ⟨_,rfl,fun β x hx => ?_⟩;exact ⟨_,_,(za7.zbr.1 hx).2⟩
 . cases h
def zlh:zaR:=fun args H base=>q2f args fun v=>match v with
 | .zaD=>.ok ⟨.zaD,[],[]⟩
 | .map nm=>zah (nth H nm) (.stuck 7850) fun e=>zab (q9z e) (.ok ⟨.map base,[],[e]⟩) (.stuck 7851)
 | _=>.stuck 7852
section
variable {P:Program} {ρ:Ren}
theorem qc9 (L:SlLaysW.n5 P ρ) (hs:∃ fn,P.funcs[ρ.f 5]? = some fn/\fn.body.isSome=true):q2a P (ρ.f 5) zlh:=by
 intro glob O w0 β H w base args vs hH hG ha;refine qed fun v hv => ?_
 rw [hv] at ha;cases v <;> first | exact trivial | skip
 . rename_i nm;refine qca fun e he=>qcb fun hm => ?_
   obtain ⟨o,rfl,ho⟩:=qv1 hm;rw [qea] at he;obtain ⟨x,ys,hx,hys,rfl⟩:=zad.1 ha;cases hys;obtain ⟨l,x',hβ,h0,hd,hh⟩:zaA P β w nm (.obj o):=(hH.entries nm _ he).zf7 rfl;obtain ⟨es,c,rfl⟩:=ho _ _ hd;have hx:(β nm).map (fun l=>Value.map (some l.blk))=some x:=hx;rw [hβ] at hx;cases hx;intro hnew;have hb:β base=none:=hnew 0 (by show (0:Nat)<1; omega)
   refine ⟨fun n e hm=>(by cases hm),.inl ⟨hs,?_⟩⟩
   refine (AnyW.maps_Clone L l.blk es c w hh).mono fun e w' ⟨he,hw⟩=>⟨_,β.upd base ⟨w.heap.size,0,0⟩,he,?_,?_⟩
   . show ((β.upd base ⟨w.heap.size,0,0⟩) base).map (fun l=>Value.map (some l.blk))=_;rw [Val.upd_same]; rfl
   . subst hw;exact Eff.zff hb rfl rfl rfl rfl hd
 . obtain ⟨x,ys,hx,hys,rfl⟩:=zad.1 ha;cases hys; cases hx;intro hnew;refine ⟨fun n e hm=>(by cases hm),.inl ⟨hs,?_⟩⟩
   refine (AnyW.maps_Clone_nil L w).mono fun e w' ⟨he,hw⟩=>⟨_,β,he,rfl,?_⟩;subst hw;exact ⟨fun n l h=>h,rfl,rfl,rfl,Nat.le_refl _,Nat.le_refl _,fun _ _=>rfl,fun _ _ _ _=>rfl,fun _ _ _ h=>(by cases h),fun _ _ h=>(by cases h),fun _ _ h=>(by simp at h),fun _ _ _ _ _ h=>(by simp at h)⟩
end
end
end Go.Sim
namespace Go.Proofs
noncomputable section
open Go.Shelf
def Tryd.clnPr_ren:Go.Shelf.Ren:=⟨fun | 5=>50 | 7=>64 | n=>n,fun | 23=>28 | 25=>71 | 3=>4 | 4=>4 | 20=>20 | n=>n,fun | n=>n⟩
theorem Tryd.clnPr:Go.Proofs.SlLaysW.n5 Tryd.prog Tryd.clnPr_ren:={
 mixed:=by kernel_rfl
 f5:=⟨Tryd.f50.name,by decide,Tryd.func50.trans (congrArg some (by kernel_rfl))⟩
 f7:=Tryd.func64.trans (congrArg some (by kernel_rfl))
 t4:=Tryd.underlying4
 a4:=Tryd.isAgg4
 z4:=Tryd.sizeOf4
 v4:=Tryd.zeroValue4
 t20:=Tryd.underlying20
 a20:=Tryd.isAgg20
 z20:=Tryd.sizeOf20
 v20:=Tryd.zeroValue20
 t23:=Tryd.underlying28
 a23:=Tryd.isAgg28
 z23:=Tryd.sizeOf28
 v23:=Tryd.zeroValue28 }
end
end Go.Proofs
namespace Go.Proofs.YtbhlngmhgplepaaDoor.Aes
noncomputable section
open Go.Sim
open Go.Proofs
theorem jyh:q2a Tryd.prog 50 zlh:=qc9 Tryd.clnPr ⟨_,Tryd.func50,by kernel_rfl⟩
end
noncomputable section
open Go.Sim
open Go.Proofs
variable {α:Type}
def ntC (n:Nat) (a:α) (f:Nat->α):α:=Nat.rec (motive:=fun _=>α) a (fun k _=>f k) n
section
variable (V:Nat->Value) (N n k:Nat) (J:zaW) (z:Nat->Nat->Nat)
variable (mn re:Bool) (es:List MapEntry) (c:Nat) (W:Nat->Value) (m i:Nat)
def fit3 (a:Nat):Prop:=zcK (.i .i64) (V (a+0))/\zcK .s (V (a+1))/\zcK .s (V (a+2))/\True
def lwA (q:List Prop):List Prop:=(decide ((i:Int)<(n:Int))=true)::((0:Int)<=(i:Int)/\(i:Int)<(n:Int))::(0+i * 3+3<=N * 3)::fit3 V (0+i * 3)::q
def wh (j:Int):Bool:=zfP (V (0+i * 3+0)) == j
def dW (w:Nat):List Bool:=ntC w [true,true] fun w=>ntC w [false,true,true] fun w=>ntC w [false,false,true] fun w=>ntC w [false,false,false,true] fun w=>ntC w [false,false,false,false,true] fun _=>zaX false 5
def cW (w:Nat):List Prop:=ntC w [wh V i 0=true,wh V i 0=true] fun w=>ntC w [wh V i 0=false,wh V i 1=true,wh V i 1=true] fun w=>ntC w [wh V i 0=false,wh V i 1=false,wh V i 2=true] fun w=>ntC w [wh V i 0=false,wh V i 1=false,wh V i 2=false,wh V i 3=true] fun w =>
 ntC w [wh V i 0=false,wh V i 1=false,wh V i 2=false,wh V i 3=false,wh V i 4=true] fun _=>[wh V i 0=false,wh V i 1=false,wh V i 2=false,wh V i 3=false,wh V i 4=false]
def tR:Pw:=zab re ⟨lsV [],0,0⟩ ⟨W,m * 2 / 2,m⟩
def hN:Prop:=zab re 0 (m * 2)=zab re 0 (m * 2) / 2 * 2
variable (X Y:ByteArray)
def cR (q:List Prop):List Prop:=hN re m::((tR re W m).ok/\X.size<=9223372036854775807/\Y.size<=9223372036854775807)::q
def rlN (b:Bool):Prop:=(!cB (zdF (twS X Y)))=b
def cTw (q:List Prop):List Prop:=(twS X Y).ok::rlN X Y false::(decide (X=Y)=false)::q
def zeS (o:Nat):List Prop:=ntC o ((twS X Y).ok::zaX (rlN X Y true) 4) fun _=>[(twS X Y).ok,rlN X Y false,decide (X=Y)=true]
def zfu (o:Nat):List Bool:=ntC o (zaX true 4) fun _=>[false,true]
def fuP (l:List MapEntry) (b:Bool):Prop:=decide ((l.length:Int)>=1000)=b
def zfs (b:Bool):Prop:=cB ((tR re W m).has (X,Y))=b
def dT (o:Nat):List Bool:=ntC o (false::zfu 0) fun o=>ntC o (false::zfu 1) fun o=>ntC o [true,true,false,false,true,true] fun o=>ntC o [true,false,true,false,false,false,true] fun _=>true::zaX false 7
def cT (o:Nat):List Prop:=ntC o ((zcV X Y=false)::zeS X Y 0) fun o=>ntC o ((zcV X Y=false)::zeS X Y 1) fun o=>ntC o ((zcV X Y=true)::zfs re W m X Y true::cTw X Y [zaT es (pK X Y)=true,zd8 (zbF es (pK X Y))=true]) fun o =>
 ntC o ((zcV X Y=true)::zfs re W m X Y false::(decide (((tR re W m).n:Int)>=1000)=true)::cTw X Y [zaT es (pK X Y)=false,fuP es true]) fun _ =>
 ((zcV X Y=true)::zfs re W m X Y false::(decide (((tR re W m).n:Int)>=1000)=false)::cTw X Y [zaT es (pK X Y)=false,fuP es false,zaT es (pK X Y)=false])
def dU (o:Nat):List Bool:=ntC o (false::zfu 0) fun o=>ntC o (false::zfu 1) fun o=>ntC o [true,false,false,false,false] fun o=>ntC o [true,true,true,false,false,true,false] fun _=>[true,true,false,false,false,true,false]
def cU (o:Nat):List Prop:=ntC o ((zcV X Y=false)::zeS X Y 0) fun o=>ntC o ((zcV X Y=false)::zeS X Y 1) fun o=>ntC o ((zcV X Y=true)::zfs re W m X Y false::cTw X Y [zaT es (pK X Y)=false]) fun o =>
 ntC o ((zcV X Y=true)::zfs re W m X Y true::(decide ((tR re W m).n=1)=true)::cTw X Y [zaT es (pK X Y)=true,(!zd8 (zbF es (pK X Y)))=false]) fun _ =>
 ((zcV X Y=true)::zfs re W m X Y true::(decide ((tR re W m).n=1)=false)::cTw X Y [zaT es (pK X Y)=true,(!zd8 (zbF es (pK X Y)))=false])
def seN (names:List Nat) (q:Nat) (C:Cut):Option ((SV × List (Option SO)) ⊕ Seen):=some (.inr (qia names q C))
def tiK:List MapEntry:=zcS es c (pK X Y) (.bool true)
def tiW:Nat->Value:=qoc qwc 2 (zcE (tR re W m).list (X,Y))
def tdW:Nat->Value:=qoc qwc 2 (zc9 (tR re W m).list (X,Y))
def nm4:List Nat:=[0,1,2,3]
end
def coS:ByteArray:=⟨#[67,79,80,89]⟩
def otS:ByteArray:=⟨#[79,84,72,69,82]⟩
section
variable (V:Nat->Value) (i:Nat) (es:List MapEntry) (c:Nat) (X Y:ByteArray)
def coK:Value:=pK coS otS
def dB (b:Nat):List Bool:=ntC b [false,true,true] fun b=>ntC b [false,false,true] fun _=>zaX false 4
def cB1 (b:Nat):List Prop:=ntC b [zaT es coK=true,zd8 (zbF es coK)=true] fun b=>ntC b [zaT es coK=false,fuP es true] fun _=>[zaT es coK=false,fuP es false,zaT es coK=false]
def es2 (b:Nat):List MapEntry:=ntC b es fun b=>ntC b es fun _=>zcS es c coK (.bool true)
def dV (u:Nat):List Bool:=ntC u (zfu 0) fun u=>ntC u (zfu 1) fun u=>ntC u (zaX false 3) fun _=>[false,false,true,false]
def cV (l:List MapEntry) (u:Nat):List Prop:=ntC u (zeS X Y 0) fun u=>ntC u (zeS X Y 1) fun u=>ntC u (cTw X Y [zaT l (pK X Y)=false]) fun _=>cTw X Y [zaT l (pK X Y)=true,(!zd8 (zbF l (pK X Y)))=false]
def coP (q:List Prop):List Prop:=(twS coS otS).ok::rlN coS otS false::q
def eqC (b:Bool):Prop:=(decide (X=coS) && decide (Y=otS))=b
def cVn (u:Nat):List Prop:=ntC u (zeS X Y 0) fun u=>ntC u (zeS X Y 1) fun u=>ntC u (cTw X Y [eqC X Y false]) fun _=>cTw X Y [eqC X Y true,eqC X Y true]
def dVn (u:Nat):List Bool:=ntC u (zfu 0) fun u=>ntC u (zfu 1) fun u=>ntC u (zaX false 3) fun _=>[false,false,true,true]
def dTn (o:Nat):List Bool:=ntC o (false::zfu 0) fun _=>(false::zfu 1)
def cTn (o:Nat):List Prop:=ntC o ((zcV X Y=false)::zeS X Y 0) fun _=>(zcV X Y=false)::zeS X Y 1
end
section
variable (V:Nat->Value) (N n k:Nat) (J:zaW) (z:Nat->Nat->Nat) (re:Bool) (es:List MapEntry) (c:Nat) (W:Nat->Value) (m i:Nat)
def lwX (i:Nat) (w:Nat) (q:List Prop):List Prop:=lwA V N n i (app (cW V i w) q)
def nm3:List Nat:=[0,1,2]
def zgM (X Y:ByteArray):List MapEntry:=[⟨kyP (X,Y),.bool true,0⟩]
end
end
noncomputable section
open Go.Sim
open Go.Proofs
open Go.Sort
variable {α:Type}
def SoP (l:List Pr):Prop:=l.Pairwise fun a b=>¬ zcj b a
theorem qv2 (l:List Pr):SoP (zbW zbB l):=by
 have h:=List.pairwise_mergeSort (le:=fun x y:Pr => !(ltOf zbB) y x) (fun a b c h1 h2=>by
  simp only [Bool.not_eq_true'] at h1 h2 ⊢;exact zfy.ntrans _ _ _ h2 h1) (fun a b=>by
  simp only [Bool.or_eq_true,Bool.not_eq_true'];by_cases c:ltOf zbB b a=false
  . exact .inl c
  . refine .inr ?_
    rw [zfV] at c ⊢;have c:zcj b a:=by simpa using c
    exact decide_eq_false fun k=>qth _ (qof c k)) l
 refine h.imp fun {a b} hab => ?_
 rw [zfV] at hab;simpa using hab
theorem q2q {l:List Pr} (h:SoP l):zbW zbB l=l:=by
 unfold zbW;refine List.mergeSort_of_pairwise (h.imp fun {a b} hab => ?_);show (!(ltOf zbB) b a)=true;rw [zfV]; simpa using hab
theorem ze2 {l:List Pr} {p x:Pr}:x∈zcE l p↔x=p\/x∈l:=by
 have h:=List.takeWhile_append_dropWhile (p:=fun q=>decide (zcj q p)) (l:=l);unfold zcE
 conv=>rhs; rw [← h]
 simp only [List.mem_append,List.mem_cons];constructor
 . rintro (h | h | h)
   . exact .inr (.inl h)
   . exact .inl h
   . exact .inr (.inr h)
 . rintro (h | h | h)
   . exact .inr (.inl h)
   . exact .inl h
   . exact .inr (.inr h)
theorem jic (l:List Pr) (p:Pr):(zcE l p).Perm (p::l):=by
 have h:=List.takeWhile_append_dropWhile (p:=fun q=>decide (zcj q p)) (l:=l);unfold zcE;refine List.perm_middle.trans ?_
 rw [h]
theorem jzh {l:List Pr} (p:Pr) (h:SoP l):SoP (zcE l p):=by
 induction l with
 | nil=>exact List.pairwise_singleton _ _
 | cons a l ih =>
   obtain ⟨h1,h2⟩:=List.pairwise_cons.1 h;by_cases c:zcj a p
   . have e:zcE (a::l) p=a::zcE l p:=by
      unfold zcE;rw [List.takeWhile_cons_of_pos (by simpa using c),List.dropWhile_cons_of_pos (by simpa using c)]
      rfl
     rw [e];refine List.pairwise_cons.2 ⟨fun b hb => ?_,ih h2⟩;rcases ze2.1 hb with rfl | hb
     . exact fun k=>qth _ (qof c k)
     . exact h1 b hb
   . have e:zcE (a::l) p=p::a::l:=by
      unfold zcE;rw [List.takeWhile_cons_of_neg (by simpa using c),List.dropWhile_cons_of_neg (by simpa using c)]
      rfl
     rw [e];refine List.pairwise_cons.2 ⟨fun b hb => ?_,h⟩;rcases List.mem_cons.1 hb with rfl | hb
     . exact c
     . intro k;rcases q1q a p with k1 | rfl | k1
       . exact c k1
       . exact h1 b hb k
       . exact h1 b hb (qof k k1)
theorem qw2 {l:List Pr} (hn:l.Nodup) {p x:Pr}:x∈zc9 l p↔x∈l/\x≠p:=by
 unfold zc9;induction l with
 | nil=>simp
 | cons a l ih =>
   rw [List.nodup_cons] at hn;by_cases c:a=p
   . rw [List.eraseP_cons_of_pos (by simpa using c),List.mem_cons]
     subst c;constructor
     . exact fun h=>⟨.inr h,fun e=>hn.1 (e▸h)⟩
     . rintro ⟨h | h,h'⟩
       . exact absurd h h'
       . exact h
   . rw [List.eraseP_cons_of_neg (by simpa using c),List.mem_cons,List.mem_cons,ih hn.2]
     constructor
     . rintro (h | h)
       . exact ⟨.inl h,fun e=>c (h▸e)⟩
       . exact ⟨.inr h.1,h.2⟩
     . rintro ⟨h | h,h'⟩
       . exact .inl h
       . exact .inr ⟨h,h'⟩
theorem j0h {l:List Pr} (p:Pr) (h:SoP l):SoP (zc9 l p):=h.sublist List.eraseP_sublist
theorem qto {l:List Pr} (p:Pr) (h:l.Nodup):(zc9 l p).Nodup:=h.sublist List.eraseP_sublist
theorem j1h (l:List Pr):PrV (qoc qwc 2 l) l.length/\prL (qoc qwc 2 l) l.length=l:=by
 have hp:∀ i (h:i<l.length),zbL (qoc qwc 2 l) i=l[i]:=fun i h=>by
  obtain ⟨h1,h2⟩:=qkp l h;unfold zbL;rw [h1,h2]; rfl
 refine ⟨fun i hi => ?_,?_⟩
 . rw [hp i hi]; exact qkp l hi
 . refine List.ext_getElem (by rw [qqb]) fun i h1 h2 => ?_
   have e:(prL (qoc qwc 2 l) l.length)[i]=zbL (qoc qwc 2 l) i:=by simp [prL]
   rw [e,hp i h2]
def qck (re:Bool) (W:Nat->Value) (m:Nat) (l:List Pr):Prop:=zab re (l=[]) (PrV W m/\prL W m=l)
theorem qm6 {re:Bool} {W:Nat->Value} {m:Nat} {l:List Pr} (h:qck re W m l) (hl:l.length<=1000):(tR re W m).ok/\(tR re W m).list=l/\(tR re W m).n=l.length:=by
 cases re with
 | true =>
   have h:l=[]:=h;subst h;exact ⟨⟨Nat.le_refl _,by show (0:Nat)<=_; omega,fun i hi=>by have hi:i<0:=hi; omega⟩,rfl,rfl⟩
 | false =>
   obtain ⟨h1,h2⟩:PrV W m/\prL W m=l:=h;have hm:m=l.length:=by rw [← h2,qqb]
   exact ⟨⟨by show m<=m * 2 / 2; omega,by show m<=_; omega,h1⟩,h2,hm⟩
theorem q3q {l:List Pr} {m:Nat} (h:l.length=m):qck false (qoc qwc 2 l) m l:=by subst h; exact j1h l
structure zdJ (es:List MapEntry) (c:Nat):Prop where
 ok:zd4 es c
 key:∀ e∈es,e.key=kyP (prK e.key)
 val:∀ e∈es,e.val=.bool true
 nd:(qxc es).Nodup
theorem zaZ {K:Value} {e:MapEntry}:q1c K e=true↔e.key=K:=by unfold q1c; simp
theorem zbc {es:List MapEntry} (h:∀ e∈es,e.key=kyP (prK e.key)) {p:Pr}:zaT es (kyP p)=true↔p∈srL es:=by
 unfold srL;rw [zbp.mem_iff];unfold zaT qxc;rw [List.any_eq_true,List.mem_map];constructor
 . rintro ⟨e,he,hk⟩;refine ⟨e,he,?_⟩;rw [zaZ.1 hk]; rfl
 . rintro ⟨e,he,hk⟩;exact ⟨e,he,zaZ.2 (by rw [h e he,hk])⟩
theorem qdk {es:List MapEntry} (h:∀ e∈es,e.val=.bool true) {K:Value} (hk:zaT es K=true):zd8 (zbF es K)=true:=by
 obtain ⟨j,e,_,_,_,h2,h3⟩:=q3u hk;rw [h2,h e h3]; rfl
theorem zdJ.ins {es:List MapEntry} {c:Nat} (h:zdJ es c) {p:Pr} (hp:p ∉ srL es):zdJ (zcS es c (kyP p) (.bool true)) (c+1)/\srL (zcS es c (kyP p) (.bool true))=zcE (srL es) p:=by
 have hk:qxc (zcS es c (kyP p) (.bool true))=qxc es++[p]:=by unfold qxc zcS; rw [List.map_append]; rfl
 have hp':p ∉ qxc es:=fun k=>hp (by unfold srL; exact zbp.mem_iff.2 k)
 refine ⟨⟨⟨?_,fun e he => ?_⟩,fun e he => ?_,fun e he => ?_,?_⟩,?_⟩
 . unfold zcS;rw [List.map_append,List.nodup_append];refine ⟨h.ok.nd,by simp,fun a ha b hb => ?_⟩
   obtain ⟨e,he,rfl⟩:=List.mem_map.1 ha;have hb:b=c:=by simpa using hb
   have:=h.ok.lt e he;omega
 . rcases List.mem_append.1 he with he | he
   . have:=h.ok.lt e he; omega
   . obtain rfl:=List.mem_singleton.1 he;exact Nat.lt_succ_self c
 . rcases List.mem_append.1 he with he | he
   . exact h.key e he
   . obtain rfl:=List.mem_singleton.1 he;rfl
 . rcases List.mem_append.1 he with he | he
   . exact h.val e he
   . obtain rfl:=List.mem_singleton.1 he;rfl
 . rw [hk,List.nodup_append];refine ⟨h.nd,by simp,fun a ha b hb => ?_⟩
   obtain rfl:b=p:=by simpa using hb
   exact fun e=>hp' (e▸ha)
 . have e1:srL (zcS es c (kyP p) (.bool true))=zbW zbB (zcE (srL es) p):=by
    show zbW zbB (qxc _)=_;rw [hk];refine qoo ((List.perm_append_singleton p (qxc es)).trans ?_);exact ((List.Perm.cons p (zbp (l:=qxc es)).symm).trans (jic (srL es) p).symm)
   rw [e1];exact q2q (jzh p (qv2 _))
theorem qov {es:List MapEntry} {c:Nat} (h:zdJ es c):(srL es).Nodup:=(zbp (l:=qxc es)).nodup_iff.2 h.nd
theorem jjc {es:List MapEntry} (h:∀ e∈es,e.key=kyP (prK e.key)) (p:Pr):qxc (zdY es (kyP p))=zc9 (qxc es) p:=by
 unfold qxc zdY zc9;induction es with
 | nil=>rfl
 | cons e es ih =>
   have h1:=h e (by simp)
   have ih:=ih fun x hx=>h x (by simp [hx])
   by_cases c:prK e.key=p
   . rw [List.eraseP_cons_of_pos (zaZ.2 (by rw [h1,c])),List.map_cons,List.eraseP_cons_of_pos (by simpa using c)]
   . rw [List.eraseP_cons_of_neg (by rw [zaZ]; intro k; exact c (by rw [k]; rfl)),List.map_cons,List.map_cons,List.eraseP_cons_of_neg (by simpa using c),ih]
theorem zdJ.del {es:List MapEntry} {c:Nat} (h:zdJ es c) (p:Pr):zdJ (zdY es (kyP p)) c/\srL (zdY es (kyP p))=zc9 (srL es) p:=by
 have hs:(zdY es (kyP p)).Sublist es:=List.eraseP_sublist;have hk:=jjc h.key p;refine ⟨⟨⟨h.ok.nd.sublist (hs.map _),fun e he=>h.ok.lt e (hs.subset he)⟩,fun e he=>h.key e (hs.subset he),fun e he=>h.val e (hs.subset he),by rw [hk]; exact qto p h.nd⟩,?_⟩
 have e1:srL (zdY es (kyP p))=zbW zbB (zc9 (srL es) p):=by
  show zbW zbB (qxc _)=_;rw [hk];refine qoo (qum (qto p h.nd) (qto p (qov h)) fun x => ?_);rw [qw2 h.nd,qw2 (qov h)];exact and_congr (zbp (l:=qxc es)).mem_iff.symm Iff.rfl
 rw [e1];exact q2q (j0h p (qv2 _))
theorem zdJ.one (p:Pr):zdJ [⟨kyP p,.bool true,0⟩] 1/\srL [⟨kyP p,.bool true,0⟩]=[p]:=by
 refine ⟨⟨⟨by simp,fun e he => ?_⟩,fun e he => ?_,fun e he => ?_,by simp [qxc]⟩,?_⟩
 . obtain rfl:=List.mem_singleton.1 he; exact Nat.zero_lt_one
 . obtain rfl:=List.mem_singleton.1 he; rfl
 . obtain rfl:=List.mem_singleton.1 he; rfl
 . exact q2q (l:=[p]) (List.pairwise_singleton _ _)
theorem qgl (es:List MapEntry):(srL es).length=es.length:=by
 unfold srL;rw [zbp.length_eq]; simp [qxc]
theorem jpe:zdF (twS coS otS):=by
 refine zb0.2 ⟨⟨?_,?_,fun i hi => ?_⟩,⟨?_,?_,fun i hi => ?_⟩⟩
 . show 1<=(4:Nat); omega
 . show (4:Nat)<=32; omega
 . have hi:i<4:=hi;refine .inl (.inl ?_);rcases (show i=0\/i=1\/i=2\/i=3 by omega) with rfl | rfl | rfl | rfl <;> decide
 . show 1<=(5:Nat); omega
 . show (5:Nat)<=32; omega
 . have hi:i<5:=hi;refine .inl (.inl ?_);rcases (show i=0\/i=1\/i=2\/i=3\/i=4 by omega) with rfl | rfl | rfl | rfl | rfl <;> decide
end
end Go.Proofs.YtbhlngmhgplepaaDoor.Aes
