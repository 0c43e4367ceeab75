/-
  zcS behind one another: the symbolic simulator and what it is told of the program.
-/
import Derived.Test.YtbhlngmhgplepaaDoorPh7
import Derived.Test.YtbhlngmhgplepaaDoorZhRtc6
import Derived.Shelf.SlMaps.Clone
import Derived.Ground.SlmcProg
import Derived.Test.YtbhlngmhgplepaaDoorPh3
import Derived.Test.YtbhlngmhgplepaaDoorPh6
import Derived.Test.YtbhlngmhgplepaaDoorPh1
set_option maxRecDepth 1000000
namespace Go.Proofs.YtbhlngmhgplepaaDoor.Aes
noncomputable section
open Go.Sim
open Go.Proofs
open Go.Shelf Go.Sort
variable {α:Type}
theorem zbq {l:List Pr}:(zbS zby l).Perm l:=List.mergeSort_perm _ _
theorem qp5 (l:List Pr):SortedIn (ltOf zby) 0 (zbS zby l).toArray.size (zbS zby l).toArray:=by
 have h:=List.pairwise_mergeSort (le:=fun x y:Pr => !(ltOf zby) y x) (fun a b c h1 h2=>by
  simp only [Bool.not_eq_true'] at h1 h2 ⊢;exact ze7.ntrans _ _ _ h2 h1) (fun a b=>by
  simp only [Bool.or_eq_true,Bool.not_eq_true'];by_cases c:ltOf zby b a=false
  . exact .inl c
  . refine .inr ?_
    rw [zfu] at c ⊢;have c:zdh b a:=by simpa using c
    exact decide_eq_false fun k=>qqh _ (qgf c k)) l
 intro i j _ hij hj;have hj:j<(zbS zby l).length:=by simpa using hj
 have:=List.pairwise_iff_getElem.1 h i j (by have:i<(zbS zby l).length:=by omega
                                             exact this) hj hij
 have e1:(zbS zby l).toArray[i]! = (zbS zby l)[i]'(by omega):=by simp [show i<(zbS zby l).length by omega]
 have e2:(zbS zby l).toArray[j]! = (zbS zby l)[j]'hj:=by simp [hj]
 rw [e1,e2];rw [Bool.not_eq_true'] at this;exact this
theorem qru {l l':List Pr} (h:l.Perm l'):zbS zby l=zbS zby l':=by
 have hs:(zbS zby l).length=l'.length:=zbq.length_eq.trans h.length_eq;have:=Go.Sort.sorted_unique_holds ze7 jpd l'.toArray (zbS zby l).toArray ⟨by simpa using hs,fun i hi => ?_,?_⟩ (by
  have:=qp5 l
  rwa [show (zbS zby l).toArray.size=l'.toArray.size by simpa using hs] at this)
 . exact this
 . rcases hi with hi | hi
   . omega
   . have hi:l'.length<=i:=by simpa using hi
     have e1:(zbS zby l).toArray[i]! = default:=by simp [show ¬ i<(zbS zby l).length by omega]
     have e2:l'.toArray[i]! = default:=by simp [show ¬ i<l'.length by omega]
     rw [e1,e2]
 . have e1:((zbS zby l).toArray.extract 0 l'.toArray.size).toList=zbS zby l:=by simp [hs.symm]
   have e2:(l'.toArray.extract 0 l'.toArray.size).toList=l':=by simp
   rw [e1,e2];exact zbq.trans h
def q5c (es:List MapEntry):List Pr:=es.map fun e=>prK e.key
def kyP (p:Pr):Value:=.agg #[.string p.1,.string p.2]
theorem zcd {V:Nat->Value} {n:Nat} {p:Pr}:(∀ i,i<n->zee n V p (i * 2)=V (i * 2)/\zee n V p (i * 2+1)=V (i * 2+1))/\zee n V p (n * 2)=.string p.1/\zee n V p (n * 2+1)=.string p.2:=by
 unfold zee zc5;refine ⟨fun i hi=>⟨?_,?_⟩,?_,?_⟩
 . rw [if_pos (by omega)]; show V (0+i * 2)=_; rw [Nat.zero_add]
 . rw [if_pos (by omega)]; show V (0+(i * 2+1))=_; rw [Nat.zero_add]
 . rw [if_neg (by omega),Nat.sub_self]; rfl
 . rw [if_neg (by omega),show n * 2+1 - n * 2=1 by omega]; rfl
theorem qbo {V:Nat->Value} {n i:Nat} {p:Pr} (h:i<n):zfa (zee n V p) i=zfa V i:=by
 unfold zfa;rw [(zcd.1 i h).1,(zcd.1 i h).2]
theorem qco {V:Nat->Value} {n:Nat} {p:Pr}:zfa (zee n V p) n=p:=by
 unfold zfa;rw [zcd.2.1,zcd.2.2];rfl
theorem juf {V:Nat->Value} {n:Nat} {p:Pr} (h:PrV V n):PrV (zee n V p) (n+1):=by
 intro i hi;by_cases c:i<n
 . rw [qbo c,(zcd.1 i c).1,(zcd.1 i c).2]; exact h i c
 . obtain rfl:i=n:=by omega
   rw [qco]; exact zcd.2
theorem jvf {V:Nat->Value} {n:Nat} {p:Pr}:prL (zee n V p) (n+1)=prL V n++[p]:=by
 unfold prL;rw [List.range_succ,List.map_append,List.map_singleton,qco];congr 1;exact List.map_congr_left fun i hi=>qbo (List.mem_range.1 hi)
def zfd (p:Pr):Nat->Value:=atV [.string p.1,.string p.2]
theorem qj8 (p:Pr):PrV (zfd p) 1/\prL (zfd p) 1=[p]:=by
 refine ⟨fun i hi => ?_,rfl⟩;obtain rfl:i=0:=by omega
 exact ⟨rfl,rfl⟩
section
variable (vS:MSh) {es:List MapEntry} {c:Nat}
def soC (es:List MapEntry) (c:Nat):Option (List Nat × (Nat->Value))->Cut
 | none=>ze8 vS es c
 | some a=>zeF vS es c a.1 a.1.length a.2
def soQ (es:List MapEntry):Option (List Nat × (Nat->Value))->Prop
 | none=>True
 | some a=>zd3 es a.1/\a.1≠[]/\PrV a.2 a.1.length/\prL a.2 a.1.length=a.1.map fun b=>prK (zec es b).key
def soM (es:List MapEntry):Option (List Nat × (Nat->Value))->Nat
 | none=>(qwa es []).length+1
 | some a=>(qwa es a.1).length
def soD (es:List MapEntry) (c:Nat) (v:SV) (H:List SO):Prop :=
 H[0]? = some (.obj (.zaU kPr vS es c))/\((es=[]/\v=.zad)\/(es≠[]/\v=.slice ⟨6,.lit 0⟩ (.sym es.length) (.rest 6 0)/\H[6]? = some (.own (.raw (qod qae 2 (zbS zby (q5c es))) (es.length * 2)) false 71)))
theorem q71 (hm:zdG es c) (hz:es.length<=1000000):Runs zc1 68 [.map 0] [.obj (.zaU kPr vS es c)] (soD vS es c):=by
 have hG:∀ seen,nxG es c seen:=fun seen=>⟨jeb hm,hm.lt⟩;have hE:∀ (seen:List Nat) {e:MapEntry},e∈qwa es seen->nxE es c seen e.born:=fun seen e he=>⟨rfl,by rw [q7a]; simp,e,(zb9.1 he).1,(qpu _ _).symm⟩
 have hK:∀ (seen:List Nat) {e:MapEntry},e∈qwa es seen->nxK es seen e.born=prK e.key:=fun seen e he=>by unfold nxK; rw [qpu,q5o hm.nd (zb9.1 he).1]
 have hnd:∀ seen,zd3 es seen->seen.length<=1000000:=fun seen hv=>by
  have h2:seen.length<=es.length:=by
   have:=List.Nodup.length_le_of_subset (l₁:=seen) (l₂:=es.map fun e=>e.born) hv.nd fun b hb=>by
    obtain ⟨e,he,rfl⟩:=hv.mem b hb;exact List.mem_map.2 ⟨e,he,rfl⟩
   simpa using this
  omega
 refine q6d q61 (soC vS es c) (soQ es) (soM es) (fun g nm hg=>by cases hg) ?_ fun a ha J => ?_
 . exact qfm (some (5,2)) 20000 none trivial (fun z=>jnf vS es c z) (zid vS es c) qaa
 cases a with
 | none =>
   show qlb zc1 _ (soC vS es c) _ _ ((ze8 vS es c).fill J);cases hl:(qwa es []).isEmpty with
   | true =>
     refine qza none 20000 (fun z=>jof vS es c J z) (zaa (hG _) (zaa hl qaa)) fun H hH=>⟨(List.cons.inj hH).1,.inl ⟨?_,rfl⟩⟩;cases es with
     | nil=>rfl
     | cons e es=>exact absurd (qqu hl e (by simp)) (by simp)
   | false =>
     have hp:∀ z,qwd (qwa es []) z∈qwa es []:=fun z=>q0y hl z;refine qyf (js:=[]) (K:=fun _=>False) (some (5,2)) 20000 (M:=zgi vS es c) (names:=[0,1,2,3,4,5,9]) (fun z => ?_) (fun v es h=>h.elim);have hb:=hp (z 0 0);have hk:nxK es [] (nxB es [] (z 0 0))=prK (qwd (qwa es []) (z 0 0)).key:=hK [] hb;refine ⟨_,_,_,jfb vS es c (zfd (nxK es [] (nxB es [] (z 0 0)))) J z,zaa (hG _) (zaa hl (zaa (hE _ hb) qaa)),?_⟩;show zbt _ _ _ _ _ _;refine ⟨some ([nxB es [] (z 0 0)],zfd (nxK es [] (nxB es [] (z 0 0)))),10,[],fsM (nxK es [] (nxB es [] (z 0 0))),⟨⟨q1y (jlf es) hb,by simp,(qj8 _).1,?_⟩,?_⟩,rfl,zic vS es c _ _ _,by simp,fun e he E0 hE0 => ?_⟩
     . show prL (zfd _) 1=[prK (zec es (nxB es [] (z 0 0))).key];rw [(qj8 _).2,hk];unfold nxB;rw [q5o hm.nd (zb9.1 hb).1]
     . show (qwa es (app [] [nxB es [] (z 0 0)])).length<(qwa es []).length+1;exact Nat.lt_succ_of_lt (q51 hb)
     . rcases List.mem_cons.1 he with rfl | he
       . cases hE0;exact ⟨_,rfl,fun _ _ h=>h⟩
       . obtain rfl:=List.mem_singleton.1 he;cases hE0;refine ⟨_,rfl,fun γ vs h => ?_⟩;have h:some [Value.string (nxK es [] (nxB es [] (z 0 0))).1,Value.string (nxK es [] (nxB es [] (z 0 0))).2]=some vs:=h;cases h;refine ⟨rfl,fun i x hx => ?_⟩;match i,hx with
         | 0,hx=>exact (Option.some.inj hx).symm
         | 1,hx=>exact (Option.some.inj hx).symm
 | some a =>
   obtain ⟨seen,V⟩:=a;obtain ⟨hv,hne,hV,hL⟩:zd3 es seen/\seen≠[]/\PrV V seen.length/\prL V seen.length=seen.map fun b=>prK (zec es b).key:=ha;show qlb zc1 _ (soC vS es c) _ _ ((zeF vS es c seen seen.length V).fill J);have hle:=hnd seen hv;cases hl:(qwa es seen).isEmpty with
   | true =>
     have hp:=jmf hm hv hl;have hlen:seen.length=es.length:=by have:=hp.length_eq; simpa using this
     refine qza none 20000 (fun z=>jej vS es c seen seen.length V J z) (zaa (hG _) (zaa hl (zaa ⟨rfl,hV,by omega⟩ qaa))) fun H hH => ?_
     obtain ⟨h0,h1⟩:=List.cons.inj (show [H[0]?,H[6]?]=[some (.obj (.zaU kPr vS es c)),some (.own (.raw (qod qae 2 (zbS zby (prL V seen.length))) (seen.length * 2)) false 71)] from hH)
     have h1:=(List.cons.inj h1).1;refine ⟨h0,.inr ⟨fun he => ?_,?_,?_⟩⟩
     . subst he;exact hne (List.length_eq_zero_iff.1 hlen)
     . rw [hlen]
     . rw [h1,hL,hlen];have:(seen.map fun b=>prK (zec es b).key).Perm (q5c es):=by
        have:=hp.map fun e:MapEntry=>prK e.key
        rwa [List.map_map] at this
       rw [qru this]
   | false =>
     have hp:∀ z,qwd (qwa es seen) z∈qwa es seen:=fun z=>q0y hl z;refine qyf (js:=[]) (K:=fun _=>False) (some (5,2)) 20000 (M:=zgi vS es c) (names:=[0,1,2,3,4,5,10]) (fun z => ?_) (fun v es h=>h.elim);have hb:=hp (z 0 0);have hk:nxK es seen (nxB es seen (z 0 0))=prK (qwd (qwa es seen) (z 0 0)).key:=hK seen hb;have hl1:(app seen [nxB es seen (z 0 0)]).length=seen.length+1:=by rw [q7a]; simp
     refine ⟨_,_,_,jpf vS es c seen seen.length V J z,zaa (hG _) (zaa hl (zaa (hE _ hb) (zaa (Nat.le_refl 2) (zaa (by omega) (zaa ⟨⟨by omega,by omega⟩,fun i hi => ?_⟩ qaa))))),?_⟩
     . rcases (show i=0\/i=1 by omega) with rfl | rfl <;> rfl
     show zbt _ _ _ _ _ _;rw [← hl1];refine zbt.of (some (app seen [nxB es seen (z 0 0)],zee seen.length V (nxK es seen (nxB es seen (z 0 0))))) ⟨⟨q1y hv hb,by rw [q7a]; simp,?_,?_⟩,q51 hb⟩ (jfj vS es c _ _ _)
     . show PrV _ (app seen [nxB es seen (z 0 0)]).length;rw [hl1]; exact juf hV
     . show prL _ (app seen [nxB es seen (z 0 0)]).length=_;rw [hl1,jvf,hL,hk,q7a,List.map_append,List.map_singleton];unfold nxB;rw [q5o hm.nd (zb9.1 hb).1]
end
def prF (P:Nat->Pr):Nat->SV:=fun j=>.str (.sym (zab (Nat.beq (j % 2) 0) (P (j / 2)).1 (P (j / 2)).2))
def prN (l:List Pr) (i:Nat):Pr:=(l[i]?).getD default
theorem jmb (l:List Pr):(Cells.raw (qod qae 2 l) (l.length * 2)).Imp (.fn (prF (prN l)) (l.length * 2)):=fun γ vs hv=>by
 obtain ⟨h1,h2⟩:vs.length=l.length * 2/\∀ (i:Nat) (x:Value),vs[i]? = some x->x=qod qae 2 l i:=hv;refine ⟨h1,fun j x hx => ?_⟩;have hj:j<vs.length:=(List.getElem?_eq_some_iff.1 hx).1;have hi:j / 2<l.length:=by omega
 obtain ⟨h3,h4⟩:=q41 l hi;have e:prN l (j / 2)=l[j / 2]:=by unfold prN; rw [List.getElem?_eq_getElem hi]; rfl
 rw [h2 j x hx];unfold prF;rcases (show j=j / 2 * 2\/j=j / 2 * 2+1 by omega) with c | c
 . have hb:Nat.beq (j % 2) 0=true:=by
    have:j % 2=0:=by omega
    rw [this]; rfl
   rw [hb,e,show qod qae 2 l j=.string l[j / 2].1 by rw [← h3,← c]]
   rfl
 . have hb:Nat.beq (j % 2) 0=false:=by
    have:j % 2=1:=by omega
    rw [this]; rfl
   rw [hb,e,show qod qae 2 l j=.string l[j / 2].2 by rw [← h4,← c]]
   rfl
theorem zhx {I:Ifc} {base nm:Nat} (h:I.names.length<=nm):I.out base [nm] nm=base:=by
 unfold Ifc.out;have hk:I.known nm=false:=by
  unfold Ifc.known;rw [qha];cases hb:Nat.blt nm I.names.length with
  | false=>rfl
  | true=>have:nm<I.names.length:=Nat.le_of_ble_eq_true hb; omega
 rw [hk];show base+zab (Nat.beq nm nm) 0 _=base;rw [Nat.beq_refl]; rfl
theorem zjq (q:Nat):zbD q [q]=true:=by
 show zab (Nat.beq q q) true _=true;rw [Nat.beq_refl]; rfl
theorem qfw (I:Ifc) (nm:Nat):I.seen [nm] nm=true:=by
 unfold Ifc.seen;cases I.known nm with
 | true=>rfl
 | false=>exact zjq nm
def qnm (k:MSh):Bool:=match k with
 | ⟨true,[.s,.s]⟩=>true
 | _=>false
theorem qvg {k:MSh} (h:qnm k=true):k=kPr:=by
 unfold qnm at h;split at h
 . rfl
 . cases h
def q3y (e:SO):Option ((MSh × MSh) × List MapEntry × Nat):=match e with
 | .obj (.zaU k v es c)=>some ((k,v),es,c)
 | _=>none
theorem qa1 {e:SO} {r:(MSh × MSh) × List MapEntry × Nat} (h:q3y e=some r):e=.obj (.zaU r.1.1 r.1.2 r.2.1 r.2.2):=by
 unfold q3y at h;split at h
 . cases h; rfl
 . cases h
def zeZ (es:List MapEntry):Bool:=es.isEmpty
def soR (base m:Nat) (vS:MSh) (es:List MapEntry) (c:Nat):R zaH :=
 .need (zdG es c/\es.length<=1000000) (.fork (zeZ es) (.ok ⟨.zad,[(m,.obj (.zaU kPr vS es c))],[]⟩) (.ok ⟨.slice ⟨base,.lit 0⟩ (.sym es.length) (.rest base 0),[(m,.obj (.zaU kPr vS es c))],[.own (.fn (prF (prN (zbS zby (q5c es)))) (es.length * 2)) false 71]⟩))
def qkj (v:SV):Bool:=match v with
 | .zau=>true
 | _=>false
theorem qqf {v:SV} (h:qkj v=true):v=.zau:=by
 unfold qkj at h;split at h
 . rfl
 . cases h
def soSm:za3:=fun args H base=>qrg args fun v=>zab (qkj v) (.ok ⟨.zad,[],[]⟩) (zah (qkm v) (.stuck 7840) fun m=>zah (nth H m) (.stuck 7841) fun e=>zah (q3y e) (.stuck 7842) fun r=>zab (qnm r.1.1) (soR base m r.1.2 r.2.1 r.2.2) (.stuck 7843))
theorem jij:za4 [] (qka zc1 20000 68 [.zau] []) []=([],some (.zad,[])):=by kernel_rfl
theorem soOK:qeb Tryd.prog 68 soSm:=by
 intro glob O w0 β H w base args vs hH hG ha;refine qdd fun v hv=>R.Sat.zab (fun hnl => ?_) fun _=>qfa fun m hm=>qfa fun e he=>qfa fun r hr=>qgb fun hk => ?_
 . rw [hv,qqf hnl] at ha;exact qcb q61 20000 hH ⟨[],[],[.zau]⟩ (by intro g j hg; cases hg) ha (qkd rfl).q [] (by simp) (by simp) (q0a jij qaa fun H2 _=>⟨.refl _,rfl,trivial,trivial⟩)
 rw [hv,qhf hm] at ha;rw [qda,qa1 hr,qvg hk] at he;generalize r.1.2=vS at he ⊢;generalize r.2.1=es at he ⊢;generalize r.2.2=c at he ⊢
 let I:Ifc:=⟨[m],[.obj (.zaU kPr vS es c)],[.map 0]⟩
 rintro ⟨hok,hz⟩;have hF:I.zbQ H:=Ifc.zbV (by simp [I]) rfl ⟨⟨⟨_,he,_,rfl,fun _ _ h=>h⟩,rfl⟩,trivial⟩
 have hS:∀ (keep:List Nat) {H2:List SO},H2[0]? = some (.obj (.zaU kPr vS es c))->zcC I.big (I.seen keep) (I.out base keep) H2 (qpb I.ents 0) [(m,.obj (.zaU kPr vS es c))]:=fun keep H2 h0=>⟨⟨rfl,.inr ⟨_,_,h0,rfl,fun _ _ h=>h,rfl⟩⟩,trivial⟩;refine ⟨fun hn => ?_,fun hn => ?_⟩
 . have hn:es=[]:=by unfold zeZ at hn; simpa using hn
   refine qqc (c:=zc1) hH I (by intro g j hg; cases hg) ha hF [] (by simp) (by simp) (qec (q71 vS hok hz) fun v H2 ⟨h0,h⟩ => ?_)
   rcases h with ⟨_,rfl⟩ | ⟨h,_⟩
   . exact ⟨.refl _,rfl,hS _ h0,trivial⟩
   . exact absurd hn h
 . have hn:es≠[]:=by unfold zeZ at hn; simpa using hn
   refine qqc (c:=zc1) hH I (by intro g j hg; cases hg) ha hF [6] (by simp [I]) (by simp) (qec (q71 vS hok hz) fun v H2 ⟨h0,h⟩ => ?_)
   rcases h with ⟨h,_⟩ | ⟨_,rfl,h⟩
   . exact absurd h hn
   . have hl:(zbS zby (q5c es)).length=es.length:=by
      rw [zbq.length_eq]; simp [q5c]
     refine ⟨?_,?_,hS _ h0,⟨.inl ⟨_,_,_,_,h,trivial,?_,rfl⟩,trivial⟩⟩
     . show SV.Imp (.slice ⟨I.out base [6] 6,.lit 0⟩ (.sym es.length) (.rest (I.out base [6] 6) 0)) _;rw [zhx (by simp [I])]
       exact .refl _
     . show (I.seen [6] 6 && I.seen [6] 6)=true;rw [qfw]; rfl
     . have:=jmb (zbS zby (q5c es));rw [hl] at this;exact this
end
noncomputable section
open Go.Sim
open Go.Proofs
variable {α:Type}
def zaG (s:ByteArray) (i:Nat):Int:=((s.data.getD i 0).toBitVec.toNat:Int)
theorem qvd (s:ByteArray) (a b:Nat):(s.extract a b).size=min b s.size - a:=by
 show (s.extract a b).data.size=_;rw [ByteArray.data_extract,Array.size_extract];rfl
theorem q5k {s:ByteArray} {a b i:Nat} (h:a+i<min b s.size):zaG (s.extract a b) i=zaG s (a+i):=by
 have h2:min b s.data.size=min b s.size:=rfl;unfold zaG;rw [ByteArray.data_extract,Array.getD_eq_getD_getElem?,Array.getD_eq_getD_getElem?,Array.getElem?_extract,if_pos (by omega)]
theorem jwf {s:ByteArray} {k a:Nat} (hk:k<=s.size):(s.extract k s.size).extract a (s.extract k s.size).size=s.extract (k+a) s.size:=by
 apply ByteArray.ext;rw [ByteArray.data_extract,ByteArray.data_extract,ByteArray.data_extract,Array.extract_extract,qvd];congr 1;omega
theorem zcR (s:ByteArray):s.extract 0 s.size=s:=by
 apply ByteArray.ext;rw [ByteArray.data_extract];show s.data.extract 0 s.data.size=_;rw [Array.extract_size]
theorem q4y {s:ByteArray} {i:Nat} (h:i<s.size) (c:UInt8):(s[i]! == c)=true↔zaG s i=(c.toNat:Int):=by
 have hd:i<s.data.size:=h;have e1:s[i]! = s.data[i]:=by
  rw [getElem!_pos s i h]; rfl
 have e2:s.data.getD i 0=s.data[i]:=by
  rw [Array.getD_eq_getD_getElem?,Array.getElem?_eq_getElem hd]; rfl
 unfold zaG;rw [e1,e2];constructor
 . intro he;rw [eq_of_beq he]; rfl
 . intro he;have:(s.data[i]).toNat=c.toNat:=by
    have he:(((s.data[i]).toNat:Nat):Int)=(c.toNat:Int):=he;omega
   rw [UInt8.toNat_inj.1 this];exact beq_self_eq_true c
theorem q9g (r:ByteArray) (c:UInt8):(firstIdx r c = -1/\∀ i,i<r.size->zaG r i≠(c.toNat:Int))\/∃ m:Nat,firstIdx r c=(m:Int)/\m<r.size/\zaG r m=(c.toNat:Int)/\∀ j:Nat,j<m->zaG r j≠(c.toNat:Int):=by
 unfold firstIdx;cases h:(List.range r.size).find? fun i=>r[i]! == c with
 | none =>
   refine .inl ⟨rfl,fun i hi he => ?_⟩;have:=List.find?_eq_none.1 h i (List.mem_range.2 hi);exact this ((q4y hi c).2 he)
 | some m =>
   obtain ⟨h1,h2,h3⟩:=List.find?_range_eq_some.1 h;have h2:=List.mem_range.1 h2;refine .inr ⟨m,rfl,h2,(q4y h2 c).1 h1,fun j hj he => ?_⟩;have h4:=h3 j hj;rw [(q4y (by omega) c).2 he] at h4
   cases h4
theorem qdo {s:ByteArray} (h:s.size=0):s=⟨#[]⟩:=by
 apply ByteArray.ext;exact Array.eq_empty_of_size_eq_zero h
end
noncomputable section
open Go.Sim
open Go.Proofs
variable {α:Type}
def rmT (st:Option (Nat × Nat)) (s:ByteArray):Tree:=qka (zb6.at st) 20000 51 [.str (.sym s)] []
def rmS1 (s:ByteArray):SS:=qub (rmT (some (2,3)) s) [true,false]
def rmS2 (s:ByteArray):SS:=qub (rmT (some (3,3)) s) [true,false,false,false,false]
def rmS3 (s:ByteArray):SS:=qub (rmT (some (3,3)) s) [true,false,false,true,false]
def zdk:ByteArray:=⟨#[46]⟩
def zfe:ByteArray:=⟨#[]⟩
def rmB (s lab:ByteArray) (i:Nat):List (Nat × SV):=[(0,.str (.sym s)),(2,.ptr ⟨0,.lit 0⟩),(3,.str (.sym lab)),(15,.int .i64 (.sym (lab.size:Int))),(16,.int .i64 (.sym i))]
def rmO:List (Nat × SV):=[(0,.func (.yield 5) [] []),(1,.ptr ⟨2,.lit 0⟩),(2,.ptr ⟨1,.lit 0⟩),(3,.ptr ⟨3,.lit 0⟩),(9,.str (.lit zdk)),(10,.int .i64 (.lit 1)),(11,.bool (.lit false))]
def rmR (s:ByteArray):List (Nat × SV):=[(0,.str (.sym s)),(2,.ptr ⟨0,.lit 0⟩)]
def rmE (S:SS) (j:Nat):HP:=zah (nth S.heap j) (.ent .gone) HP.ent
def rmH (S:SS) (s r:ByteArray):List HP:=[rmE S 0,.ent (.own (.lst [.str (.sym r)]) true 9),rmE S 2,rmE S 3,rmE S 4,qes (nth S.heap 5) (rmR s)]
def zdm (s r:ByteArray):Cut:=⟨q0b (rmS1 s).frames [rmO,rmR s],rmH (rmS1 s) s r⟩
def zcp (s r lab:ByteArray) (n:Int) (i:Nat):Cut:=⟨q0b (rmS2 s).frames [rmB s lab i,(7,.int .i64 (.sym n))::rmO,rmR s],rmH (rmS2 s) s r⟩
def zcz (s r:ByteArray) (i:Nat):Cut:=⟨q0b (rmS3 s).frames [rmB s r i,rmO,rmR s],rmH (rmS3 s) s r⟩
def rmN:List Nat:=[0,1,2,3,4,5]
def fiI (r:ByteArray):Int:=firstIdx r 46
def ze0 (r:ByteArray):ByteArray:=r.extract 0 (fiI r+0).toNat
def noR:Option ((SV × List (Option SO)) ⊕ Seen):=some (.inl (.bool (.lit false),[]))
def zgD:Option ((SV × List (Option SO)) ⊕ Seen):=some (.inl (.bool (.lit true),[]))
def chC (c:Int) (k:Nat):List Prop:=match k with
 | 0=>(decide (c<65)=false)::zba (decide (c > 90)=false) 5
 | 1=>app (zba (decide (c<65)=true) 3) ((decide (c<48)=false)::zba (decide (c > 57)=false) 3)
 | 2=>app (zba (decide (c<65)=true) 3) (app (zba (decide (c<48)=true) 3) [(c != 45)=false])
 | 3=>app (zba (decide (c<65)=true) 3) (app (zba (decide (c<48)=true) 3) [(c != 45)=true])
 | 4=>app (zba (decide (c<65)=true) 3) [decide (c<48)=false,decide (c > 57)=true,(c != 45)=true]
 | _=>[decide (c<65)=false,decide (c > 90)=true,decide (c<48)=false,decide (c > 57)=true,(c != 45)=true]
def chD (k:Nat):List Bool:=match k with
 | 0=>[false,false,false,false,false,false]
 | 1=>[true,true,true,false,false,false,false]
 | 2=>[true,true,true,true,true,true,false]
 | 3=>[true,true,true,true,true,true,true]
 | 4=>[true,true,true,false,true,true]
 | _=>[false,true,false,true,true]
def inC (r:ByteArray) (i:Nat) (q:List Prop):List Prop:=(decide ((i:Int)<(r.size:Int))=true)::((0:Int)<=(i:Int)/\(i:Int)<(r.size:Int))::q
def nxC (r:ByteArray) (b:Bool):List Prop:=[decide (zdk=r)=false,decide (fiI r<0)=false,qna (fiI r+0),0<=fiI r+0/\fiI r+0<=(r.size:Int),decide (ze0 r=zfe)=b]
section
variable (s r lab:ByteArray) (n:Int) (i:Nat)
theorem jjj:za4 [] (rmT none s) (zba false 4)=(zba (decide ((s.size:Int)>=1)=false) 4,some (.bool (.lit false),[])):=by kernel_rfl
theorem jxf:za4 [] (rmT none s) [true,true]=([decide ((s.size:Int)>=1)=true,(!decide ((s.size:Int)<=32))=true],some (.bool (.lit false),[])):=by kernel_rfl
theorem jyf (z:Nat->Nat->Nat):zaq [] (zdm s s) rmN (rmT (some (2,3)) s) [true,false] z=([decide ((s.size:Int)>=1)=true,(!decide ((s.size:Int)<=32))=false],some (.inr (qja rmN 6 (zdm s s)))):=by kernel_rfl
theorem zix (J:zaQ) (z:Nat->Nat->Nat):zaq [] (zcp s r (ze0 r) (fiI r) 0) rmN (za9 (zb6.at (some (3,3))) 20000 ((zdm s r).fill J)) [false,false,false] z=(nxC r false,some (.inr (qva [(0,16,.int .i64 (.lit 0))] [] (qja rmN 6 (zcp s r (ze0 r) (fiI r) 0))))):=by kernel_rfl
theorem jkj (J:zaQ) (z:Nat->Nat->Nat):zaq [] (zcz s r 0) rmN (za9 (zb6.at (some (3,3))) 20000 ((zdm s r).fill J)) [false,true,false] z=([decide (zdk=r)=false,decide (fiI r<0)=true,decide (r=zfe)=false],some (.inr (qva [(0,16,.int .i64 (.lit 0))] [] (qja rmN 6 (zcz s r 0))))):=by kernel_rfl
theorem jlj (J:zaQ) (z:Nat->Nat->Nat):zaq [] (zdm s r) rmN (za9 (zb6.at none) 20000 ((zdm s r).fill J)) [true,true] z=([decide (zdk=r)=true,0<=r.size,decide (r.extract 0 (0+0)=zfe)=true],noR):=by kernel_rfl
theorem jnb (J:zaQ) (z:Nat->Nat->Nat):zaq [] (zdm s r) rmN (za9 (zb6.at none) 20000 ((zdm s r).fill J)) [false,false,true] z=(nxC r true,noR):=by kernel_rfl
theorem jzf (J:zaQ) (z:Nat->Nat->Nat):zaq [] (zdm s r) rmN (za9 (zb6.at none) 20000 ((zdm s r).fill J)) [false,true,true] z=([decide (zdk=r)=false,decide (fiI r<0)=true,decide (r=zfe)=true],noR):=by kernel_rfl
theorem ziD (J:zaQ) (z:Nat->Nat->Nat):zaq [] (zcp s r lab n i) rmN (za9 (zb6.at (some (3,3))) 20000 ((zcp s r lab n i).fill J)) (true::chD 0) z=(inC lab i (app (chC (zaG lab i) 0) [qna ((i:Int)+1)]),some (.inr (qja rmN 6 (zcp s r lab n (i+1))))):=by kernel_rfl
theorem ziC (J:zaQ) (z:Nat->Nat->Nat):zaq [] (zcp s r lab n i) rmN (za9 (zb6.at (some (3,3))) 20000 ((zcp s r lab n i).fill J)) (true::chD 1) z=(inC lab i (app (chC (zaG lab i) 1) [qna ((i:Int)+1)]),some (.inr (qja rmN 6 (zcp s r lab n (i+1))))):=by kernel_rfl
theorem ziB (J:zaQ) (z:Nat->Nat->Nat):zaq [] (zcp s r lab n i) rmN (za9 (zb6.at (some (3,3))) 20000 ((zcp s r lab n i).fill J)) (true::chD 2) z=(inC lab i (app (chC (zaG lab i) 2) [qna ((i:Int)+1)]),some (.inr (qja rmN 6 (zcp s r lab n (i+1))))):=by kernel_rfl
theorem ziA (J:zaQ) (z:Nat->Nat->Nat):zaq [] (zcp s r lab n i) rmN (za9 (zb6.at none) 20000 ((zcp s r lab n i).fill J)) (true::chD 3) z=(inC lab i (chC (zaG lab i) 3),noR):=by kernel_rfl
theorem ziz (J:zaQ) (z:Nat->Nat->Nat):zaq [] (zcp s r lab n i) rmN (za9 (zb6.at none) 20000 ((zcp s r lab n i).fill J)) (true::chD 4) z=(inC lab i (chC (zaG lab i) 4),noR):=by kernel_rfl
theorem ziy (J:zaQ) (z:Nat->Nat->Nat):zaq [] (zcp s r lab n i) rmN (za9 (zb6.at none) 20000 ((zcp s r lab n i).fill J)) (true::chD 5) z=(inC lab i (chC (zaG lab i) 5),noR):=by kernel_rfl
theorem ziw (J:zaQ) (z:Nat->Nat->Nat):zaq [] (zdm s (r.extract (n+1).toNat r.size)) rmN (za9 (zb6.at (some (2,3))) 20000 ((zcp s r lab n i).fill J)) [false] z=([decide ((i:Int)<(lab.size:Int))=false,qna (n+1),0<=n+1/\n+1<=(r.size:Int)],some (.inr (qja rmN 6 (zdm s (r.extract (n+1).toNat r.size))))):=by kernel_rfl
theorem ziJ (J:zaQ) (z:Nat->Nat->Nat):zaq [] (zcz s r i) rmN (za9 (zb6.at (some (3,3))) 20000 ((zcz s r i).fill J)) (true::chD 0) z=(inC r i (app (chC (zaG r i) 0) [qna ((i:Int)+1)]),some (.inr (qja rmN 6 (zcz s r (i+1))))):=by kernel_rfl
theorem ziI (J:zaQ) (z:Nat->Nat->Nat):zaq [] (zcz s r i) rmN (za9 (zb6.at (some (3,3))) 20000 ((zcz s r i).fill J)) (true::chD 1) z=(inC r i (app (chC (zaG r i) 1) [qna ((i:Int)+1)]),some (.inr (qja rmN 6 (zcz s r (i+1))))):=by kernel_rfl
theorem ziH (J:zaQ) (z:Nat->Nat->Nat):zaq [] (zcz s r i) rmN (za9 (zb6.at (some (3,3))) 20000 ((zcz s r i).fill J)) (true::chD 2) z=(inC r i (app (chC (zaG r i) 2) [qna ((i:Int)+1)]),some (.inr (qja rmN 6 (zcz s r (i+1))))):=by kernel_rfl
theorem ziG (J:zaQ) (z:Nat->Nat->Nat):zaq [] (zcz s r i) rmN (za9 (zb6.at none) 20000 ((zcz s r i).fill J)) (true::chD 3) z=(inC r i (chC (zaG r i) 3),noR):=by kernel_rfl
theorem ziF (J:zaQ) (z:Nat->Nat->Nat):zaq [] (zcz s r i) rmN (za9 (zb6.at none) 20000 ((zcz s r i).fill J)) (true::chD 4) z=(inC r i (chC (zaG r i) 4),noR):=by kernel_rfl
theorem ziE (J:zaQ) (z:Nat->Nat->Nat):zaq [] (zcz s r i) rmN (za9 (zb6.at none) 20000 ((zcz s r i).fill J)) (true::chD 5) z=(inC r i (chC (zaG r i) 5),noR):=by kernel_rfl
theorem jmj (J:zaQ) (z:Nat->Nat->Nat):zaq [] (zcz s r i) rmN (za9 (zb6.at none) 20000 ((zcz s r i).fill J)) [false] z=([decide ((i:Int)<(r.size:Int))=false],zgD):=by kernel_rfl
theorem jsd:zab (qua 0 rmN (zdm s r) (zdm s r)) (zaO qpa (zdm s r).heap) false=true:=by kernel_rfl
theorem ziv:zab (qua 0 rmN (zcp s r lab n i) (zcp s r lab n i)) (zaO qpa (zcp s r lab n i).heap) false=true:=by kernel_rfl
theorem q5y (j:Nat):zab (qua 0 rmN (zcp s r lab n i) (zcp s r lab n j)) (zaO qpa (zcp s r lab n j).heap) false=true:=by kernel_rfl
theorem qgw (j:Nat):zab (qua 0 rmN (zcz s r i) (zcz s r j)) (zaO qpa (zcz s r j).heap) false=true:=by kernel_rfl
theorem zit:(((zcp s r lab n i).frames[0]?).bind fun p=>p.tmps[16]?)=some (some (.int .i64 (.sym i))):=by kernel_rfl
theorem ziu:(((zcz s r i).frames[0]?).bind fun p=>p.tmps[16]?)=some (some (.int .i64 (.sym i))):=by kernel_rfl
end
end
noncomputable section
open Go.Sim
open Go.Proofs
variable {α:Type}
def okc (c:Int):Prop:=(65<=c/\c<=90)\/(48<=c/\c<=57)\/c=45
def chP (s:ByteArray) (i:Nat):Prop:=okc (zaG s i)\/(zaG s i=46/\i≠0/\i+1≠s.size/\zaG s (i - 1)≠46)
def zbl (s:ByteArray):Prop:=1<=s.size/\s.size<=32/\∀ i,i<s.size->chP s i
def zax (s:ByteArray):Bool:=@decide (zbl s) (Classical.propDecidable _)
theorem qcg {s:ByteArray} (h:zbl s):zax s=true:=@decide_eq_true _ (Classical.propDecidable _) h
theorem qif {s:ByteArray} (h:¬ zbl s):zax s=false:=@decide_eq_false _ (Classical.propDecidable _) h
theorem q6k {c:Int} (h:okc c):c≠46:=by rcases h with h | h | h <;> omega
def q4j (s:ByteArray) (k:Nat):Prop:=k<=s.size/\(k=0\/(1<=k/\zaG s (k - 1)=46))/\∀ i,i<k->okc (zaG s i)\/(zaG s i=46/\i≠0/\zaG s (i - 1)≠46)
theorem q81 {s:ByteArray} {k:Nat} (h:q4j s k) (hk:k<s.size) (hd:zaG s k=46):¬ zbl s:=by
 rintro ⟨_,_,ha⟩;rcases ha k hk with h1 | ⟨_,h2,_,h4⟩
 . exact q6k h1 hd
 . rcases h.2.1 with h5 | ⟨_,h5⟩
   . exact h2 h5
   . exact h4 h5
theorem j0f {s:ByteArray} (h1:1<=s.size) {k:Nat} (h:q4j s k) (hk:k=s.size):¬ zbl s:=by
 rintro ⟨_,_,ha⟩;rcases h.2.1 with h5 | ⟨h6,h5⟩
 . omega
 . rcases ha (k - 1) (by omega) with h7 | ⟨_,_,h7,_⟩
   . exact q6k h7 h5
   . exact h7 (by omega)
theorem qk8 {s:ByteArray} {i:Nat} (hi:i<s.size) (h1:¬ okc (zaG s i)) (h2:zaG s i≠46):¬ zbl s:=fun h=>by
 rcases h.2.2 i hi with h3 | ⟨h3,_⟩
 . exact h1 h3
 . exact h2 h3
theorem job {s:ByteArray} {k m:Nat} (h:q4j s k) (hm:1<=m) (hk:k+m<s.size) (hd:zaG s (k+m)=46) (ho:∀ j,j<m->okc (zaG s (k+j))):q4j s (k+(m+1)):=by
 refine ⟨by omega,.inr ⟨by omega,by rw [show k+(m+1) - 1=k+m by omega]; exact hd⟩,fun i hi => ?_⟩
 by_cases c1:i<k
 . exact h.2.2 i c1
 . by_cases c2:i<k+m
   . have:=ho (i - k) (by omega)
     rw [show k+(i - k)=i by omega] at this
     exact .inl this
   . have e:i=k+m:=by omega
     subst e;refine .inr ⟨hd,by omega,?_⟩
     have:=ho (m - 1) (by omega)
     rw [show k+(m - 1)=k+m - 1 by omega] at this
     exact q6k this
theorem jpb {s:ByteArray} {k:Nat} (h1:1<=s.size) (h32:s.size<=32) (h:q4j s k) (hk:k<s.size) (ho:∀ j,j<s.size - k->okc (zaG s (k+j))):zbl s:=by
 refine ⟨h1,h32,fun i hi => ?_⟩;by_cases c1:i<k
 . rcases h.2.2 i c1 with h2 | ⟨h2,h3,h4⟩
   . exact .inl h2
   . exact .inr ⟨h2,h3,by omega,h4⟩
 . have:=ho (i - k) (by omega)
   rw [show k+(i - k)=i by omega] at this
   exact .inl this
inductive Rm where
 | out (r:ByteArray)
 | inn (r lab:ByteArray) (n:Int) (i:Nat)
 | fin (r:ByteArray) (i:Nat)
def rmC (s:ByteArray):Rm->Cut
 | .out r=>zdm s r
 | .inn r lab n i=>zcp s r lab n i
 | .fin r i=>zcz s r i
def rmQ (s:ByteArray):Rm->Prop
 | .out r=>∃ k,q4j s k/\r=s.extract k s.size
 | .inn r lab n i=>∃ k m:Nat,q4j s k/\r=s.extract k s.size/\1<=m/\k+m<s.size/\n=m/\lab=r.extract 0 m/\zaG s (k+m)=46/\(∀ j,j<m->zaG s (k+j)≠46)/\(∀ j,j<i->okc (zaG s (k+j)))/\i<=m
 | .fin r i=>∃ k,q4j s k/\r=s.extract k s.size/\1<=r.size/\(∀ j,j<r.size->zaG s (k+j)≠46)/\(∀ j,j<i->okc (zaG s (k+j)))/\i<=r.size
def zgI:Rm->Nat
 | .out r=>100 * r.size+99
 | .inn r lab _ i=>100 * r.size+(lab.size - i)
 | .fin r i=>100 * r.size+(r.size - i)
theorem q6y {c:Int} (h:65<=c/\c<=90):∀ p∈chC c 0,p:=zaa (decide_eq_false (by omega)) (qqb (decide_eq_false (by omega)) 5)
theorem q7y {c:Int} (h:48<=c/\c<=57):∀ p∈chC c 1,p:=qbb (qqb (decide_eq_true (by omega)) 3) (zaa (decide_eq_false (by omega)) (qqb (decide_eq_false (by omega)) 3))
theorem q8y {c:Int} (h:c=45):∀ p∈chC c 2,p:=qbb (qqb (decide_eq_true (by omega)) 3) (qbb (qqb (decide_eq_true (by omega)) 3) (zaa (by subst h; rfl) qaa))
theorem q9y {c:Int} (h:c<48) (h2:c≠45):∀ p∈chC c 3,p:=qbb (qqb (decide_eq_true (by omega)) 3) (qbb (qqb (decide_eq_true (by omega)) 3) (zaa (bne_iff_ne.2 h2) qaa))
theorem qaz {c:Int} (h:57<c) (h2:c<65):∀ p∈chC c 4,p:=qbb (qqb (decide_eq_true (by omega)) 3) (zaa (decide_eq_false (by omega)) (zaa (decide_eq_true (by omega)) (zaa (bne_iff_ne.2 (by omega)) qaa)))
theorem qbz {c:Int} (h:90<c):∀ p∈chC c 5,p:=zaa (decide_eq_false (by omega)) (zaa (decide_eq_true (by omega)) (zaa (decide_eq_false (by omega)) (zaa (decide_eq_true (by omega)) (zaa (bne_iff_ne.2 (by omega)) qaa))))
theorem q91 {r:ByteArray} {i:Nat} (h:i<r.size) {q:List Prop} (hq:∀ p∈q,p):∀ p∈inC r i q,p:=zaa (decide_eq_true (by omega)) (zaa ⟨by omega,by omega⟩ hq)
theorem j1f (s:ByteArray) (h1:1<=s.size) (h32:s.size<=32):Runs zb6 51 [.str (.sym s)] [] fun v _=>∃ b,v=.bool b/\b.den=zax s:=by
 have hno:¬ zbl s->∀ H:List SO,(fun (v:SV) (_:List SO)=>∃ b,v=.bool b/\b.den=zax s) (.bool (.lit false)) H:=fun hn _=>⟨_,rfl,(qif hn).symm⟩;refine q6d q2h (rmC s) (rmQ s) zgI (fun g nm hg=>by cases hg) ?_ fun a ha J => ?_
 . exact qfm (some (2,3)) 20000 (.out s) ⟨0,⟨by omega,.inl rfl,fun i hi=>by omega⟩,(zcR s).symm⟩ (jyf s) (jsd s s) (zaa (decide_eq_true (by omega)) (zaa (by rw [decide_eq_true (show ((s.size:Nat):Int)<=32 by omega)]; rfl) qaa))
 cases a with
 | out r =>
   obtain ⟨k,hI,hr⟩:=ha;have hk:=hI.1;have hsz:r.size=s.size - k:=by rw [hr,qvd]; omega
   have hb:∀ j,j<r.size->zaG r j=zaG s (k+j):=fun j hj=>by rw [hr]; exact q5k (by omega)
   show qlb zb6 _ (rmC s) _ _ ((zdm s r).fill J);by_cases hd:zdk=r
   . have hs1:r.size=1:=by rw [← hd]; rfl
     have hb0:zaG s k=46:=by
      have:=hb 0 (by omega)
      rw [Nat.add_zero] at this;rw [← this,← hd]; rfl
     exact qza none 20000 (jlj s r J) (zaa (decide_eq_true hd) (zaa (Nat.zero_le _) (zaa (decide_eq_true (qdo (by rw [qvd]; omega))) qaa))) fun H _=>hno (q81 hI (by omega) hb0) H
   . have hd':decide (zdk=r)=false:=decide_eq_false hd;rcases q9g r 46 with ⟨h0,hnd⟩ | ⟨m,hm,hlt,hdot,hmin⟩
     . have h0':fiI r = -1:=h0;have hneg:decide (fiI r<0)=true:=decide_eq_true (by omega)
       by_cases hr0:r.size=0
       . exact qza none 20000 (jzf s r J) (zaa hd' (zaa hneg (zaa (decide_eq_true (qdo hr0)) qaa))) fun H _=>hno (j0f h1 hI (by omega)) H
       . refine qzb (some (3,3)) 20000 (.fin r 0) ⟨⟨k,hI,hr,by omega,fun j hj=>by rw [← hb j hj]; exact hnd j hj,fun j hj=>by omega,by omega⟩,by show 100 * r.size+(r.size - 0)<100 * r.size+99; omega⟩ (jkj s r J) (qgw s r 0 0) (fun q hq p u hp hu => ?_) (fun e he=>by cases he) (zaa hd' (zaa hneg (zaa (decide_eq_false (fun e=>hr0 (by rw [e]; rfl))) qaa)))
         obtain rfl:q=(0,16,.int .i64 (.lit 0)):=by simpa using hq
         exact q2a (ziu s r 0) hp hu (q6a rfl)
     . have hm':fiI r=(m:Int):=hm;have hle:(fiI r+0).toNat=m:=by omega
       have hlab:ze0 r=r.extract 0 m:=by unfold ze0; rw [hle]
       have hdm:zaG s (k+m)=46:=by rw [← hb m hlt]; exact hdot
       have c1:decide (fiI r<0)=false:=decide_eq_false (by omega)
       have c2:qna (fiI r+0):=⟨by omega,by omega⟩
       have c3:0<=fiI r+0/\fiI r+0<=(r.size:Int):=⟨by omega,by omega⟩
       have hls:(ze0 r).size=m:=by rw [hlab,qvd]; omega
       by_cases hm0:m=0
       . exact qza none 20000 (jnb s r J) (zaa hd' (zaa c1 (zaa c2 (zaa c3 (zaa (decide_eq_true (qdo (by omega))) qaa))))) fun H _=>hno (q81 hI (by omega) (by rw [hm0,Nat.add_zero] at hdm; exact hdm)) H
       . refine qzb (some (3,3)) 20000 (.inn r (ze0 r) (fiI r) 0) ⟨⟨k,m,hI,hr,by omega,by omega,hm',hlab,hdm,fun j hj=>by rw [← hb j (by omega)]; exact hmin j hj,fun j hj=>by omega,by omega⟩,by show 100 * r.size+((ze0 r).size - 0)<100 * r.size+99; omega⟩ (zix s r J) (ziv s r (ze0 r) (fiI r) 0) (fun q hq p u hp hu => ?_) (fun e he=>by cases he)
          (zaa hd' (zaa c1 (zaa c2 (zaa c3 (zaa (decide_eq_false (fun e=>hm0 (by rw [← hls,e]; rfl))) qaa)))))
         obtain rfl:q=(0,16,.int .i64 (.lit 0)):=by simpa using hq
         exact q2a (zit s r (ze0 r) (fiI r) 0) hp hu (q6a rfl)
 | inn r lab n i =>
   obtain ⟨k,m,hI,hr,hm1,hkm,hn,hlab,hdm,hmin,ho,him⟩:=ha;have hk:=hI.1;have hsz:r.size=s.size - k:=by rw [hr,qvd]; omega
   have hls:lab.size=m:=by rw [hlab,qvd]; omega
   have hb:∀ j,j<m->zaG lab j=zaG s (k+j):=fun j hj=>by
    rw [hlab,q5k (by omega),Nat.zero_add,hr]
    exact q5k (by omega)
   show qlb zb6 _ (rmC s) _ _ ((zcp s r lab n i).fill J);by_cases hi:i<m
   . have hc:=hb i hi;have hne:=hmin i hi;have hq:okc (zaG s (k+i))->(rmQ s (.inn r lab n (i+1)))/\zgI (.inn r lab n (i+1))<zgI (.inn r lab n i):=fun hok=>⟨⟨k,m,hI,hr,hm1,hkm,hn,hlab,hdm,hmin,fun j hj=>by
      by_cases c:j<i
      . exact ho j c
      . obtain rfl:j=i:=by omega
        exact hok,by omega⟩,by show 100 * r.size+(lab.size - (i+1))<100 * r.size+(lab.size - i); omega⟩
     have hin:∀ q:List Prop,(∀ p∈q,p)->∀ p∈inC lab i q,p:=fun q hq=>q91 (by omega) hq
     have h64:qna ((i:Int)+1):=⟨by omega,by omega⟩
     by_cases a1:65<=zaG s (k+i)/\zaG s (k+i)<=90
     . exact q1a (some (3,3)) 20000 (.inn r lab n (i+1)) (hq (.inl a1)) (ziD s r lab n i J) (q5y s r lab n i (i+1)) (hin _ (qbb (by rw [hc]; exact q6y a1) (zaa h64 qaa)))
     by_cases a2:48<=zaG s (k+i)/\zaG s (k+i)<=57
     . exact q1a (some (3,3)) 20000 (.inn r lab n (i+1)) (hq (.inr (.inl a2))) (ziC s r lab n i J) (q5y s r lab n i (i+1)) (hin _ (qbb (by rw [hc]; exact q7y a2) (zaa h64 qaa)))
     by_cases a3:zaG s (k+i)=45
     . exact q1a (some (3,3)) 20000 (.inn r lab n (i+1)) (hq (.inr (.inr a3))) (ziB s r lab n i J) (q5y s r lab n i (i+1)) (hin _ (qbb (by rw [hc]; exact q8y a3) (zaa h64 qaa)))
     have hbad:¬ zbl s:=qk8 (i:=k+i) (by omega) (fun h=>by rcases h with h | h | h; exact a1 h; exact a2 h; exact a3 h) hne
     by_cases a4:zaG s (k+i)<48
     . exact qza none 20000 (ziA s r lab n i J) (hin _ (by rw [hc]; exact q9y a4 a3)) fun H _=>hno hbad H
     by_cases a5:zaG s (k+i)<65
     . exact qza none 20000 (ziz s r lab n i J) (hin _ (by rw [hc]; exact qaz (by omega) a5)) fun H _=>hno hbad H
     . exact qza none 20000 (ziy s r lab n i J) (hin _ (by rw [hc]; exact qbz (by omega))) fun H _=>hno hbad H
   . have e:i=m:=by omega
     subst e;have hnt:(n+1).toNat=i+1:=by omega
     have hr':r.extract (n+1).toNat r.size=s.extract (k+(i+1)) s.size:=by
      rw [hnt,hr];exact jwf hk
     have hsz':(r.extract (n+1).toNat r.size).size=s.size - (k+(i+1)):=by rw [hr',qvd]; omega
     exact q1a (some (2,3)) 20000 (.out (r.extract (n+1).toNat r.size)) ⟨⟨k+(i+1),job hI hm1 hkm hdm ho,hr'⟩,by show 100 * (r.extract (n+1).toNat r.size).size+99<100 * r.size+(lab.size - i); omega⟩ (ziw s r lab n i J) (jsd s _)
      (zaa (decide_eq_false (by omega)) (zaa ⟨by omega,by omega⟩ (zaa ⟨by omega,by omega⟩ qaa)))
 | fin r i =>
   obtain ⟨k,hI,hr,hr1,hnd,ho,hir⟩:=ha;have hk:=hI.1;have hsz:r.size=s.size - k:=by rw [hr,qvd]; omega
   have hb:∀ j,j<r.size->zaG r j=zaG s (k+j):=fun j hj=>by rw [hr]; exact q5k (by omega)
   show qlb zb6 _ (rmC s) _ _ ((zcz s r i).fill J);by_cases hi:i<r.size
   . have hc:=hb i hi;have hne:=hnd i hi;have hq:okc (zaG s (k+i))->(rmQ s (.fin r (i+1)))/\zgI (.fin r (i+1))<zgI (.fin r i):=fun hok=>⟨⟨k,hI,hr,hr1,hnd,fun j hj=>by
      by_cases c:j<i
      . exact ho j c
      . obtain rfl:j=i:=by omega
        exact hok,by omega⟩,by show 100 * r.size+(r.size - (i+1))<100 * r.size+(r.size - i); omega⟩
     have hin:∀ q:List Prop,(∀ p∈q,p)->∀ p∈inC r i q,p:=fun q hq=>q91 hi hq;have h64:qna ((i:Int)+1):=⟨by omega,by omega⟩
     by_cases a1:65<=zaG s (k+i)/\zaG s (k+i)<=90
     . exact q1a (some (3,3)) 20000 (.fin r (i+1)) (hq (.inl a1)) (ziJ s r i J) (qgw s r i (i+1)) (hin _ (qbb (by rw [hc]; exact q6y a1) (zaa h64 qaa)))
     by_cases a2:48<=zaG s (k+i)/\zaG s (k+i)<=57
     . exact q1a (some (3,3)) 20000 (.fin r (i+1)) (hq (.inr (.inl a2))) (ziI s r i J) (qgw s r i (i+1)) (hin _ (qbb (by rw [hc]; exact q7y a2) (zaa h64 qaa)))
     by_cases a3:zaG s (k+i)=45
     . exact q1a (some (3,3)) 20000 (.fin r (i+1)) (hq (.inr (.inr a3))) (ziH s r i J) (qgw s r i (i+1)) (hin _ (qbb (by rw [hc]; exact q8y a3) (zaa h64 qaa)))
     have hbad:¬ zbl s:=qk8 (i:=k+i) (by omega) (fun h=>by rcases h with h | h | h; exact a1 h; exact a2 h; exact a3 h) hne
     by_cases a4:zaG s (k+i)<48
     . exact qza none 20000 (ziG s r i J) (hin _ (by rw [hc]; exact q9y a4 a3)) fun H _=>hno hbad H
     by_cases a5:zaG s (k+i)<65
     . exact qza none 20000 (ziF s r i J) (hin _ (by rw [hc]; exact qaz (by omega) a5)) fun H _=>hno hbad H
     . exact qza none 20000 (ziE s r i J) (hin _ (by rw [hc]; exact qbz (by omega))) fun H _=>hno hbad H
   . have e:i=r.size:=by omega
     exact qza none 20000 (jmj s r i J) (zaa (decide_eq_false (by omega)) qaa) fun H _=>⟨_,rfl,(qcg (jpb h1 h32 hI (by omega) fun j hj=>ho j (by omega))).symm⟩
def rlmS:za3:=fun args _ _=>qrg args fun v=>zah (zb0 v) (.stuck 7796) fun s=>.ok ⟨.bool (.sym (zax s.den)),[],[]⟩
theorem ziK:qeb Tryd.prog 51 rlmS:=by
 intro glob O w0 β H w base args vs hH hG ha;refine qdd fun v hv=>qfa fun s hs => ?_
 rw [hv,q8a hs] at ha;have ha:=qoa (q7b (t:=.sym s.den) rfl) qdc _ _ ha;show qtb Tryd.prog H β w base _ vs ⟨.bool (.sym (zax s.den)),[],[]⟩;generalize s.den=s at ha ⊢
 let I:Ifc:=⟨[],[],[.str (.sym s)]⟩
 have hb:∀ b:SB,b.den=zax s->∀ H2:List SO,I.zde base [] ⟨.bool (.sym (zax s)),[],[]⟩ (.bool b) H2:=fun b hb H2=>qbg rfl ⟨b,rfl,hb⟩;by_cases h1:1<=s.size
 . by_cases h32:s.size<=32
   . exact qqc (c:=zb6) hH I (by intro g j hg; cases hg) ha (qkd rfl).q [] (by simp) (by simp) (qec (j1f s h1 h32) fun v H h=>qbg rfl h)
   . refine qcb q2h 20000 hH I (by intro g j hg; cases hg) ha (qkd rfl).q [] (by simp) (by simp) (q0a (jxf s) (zaa (decide_eq_true (by omega)) (zaa (by rw [decide_eq_false (show ¬ ((s.size:Nat):Int)<=32 by omega)]; rfl) qaa)) fun H2 _=>hb (.lit false) (qif fun h=>h32 h.2.1).symm H2)
 . refine qcb q2h 20000 hH I (by intro g j hg; cases hg) ha (qkd rfl).q [] (by simp) (by simp) (q0a (jjj s) (qqb (decide_eq_false (by omega)) 4) fun H2 _=>hb (.lit false) (qif fun h=>h1 h.1).symm H2)
end
noncomputable section
open Go.Sim
open Go.Proofs
variable {α:Type}
section
variable (s:ByteArray) (i:Nat)
def rdT (st:Option (Nat × Nat)):Tree:=qka (zb6.at st) 4000 54 [.str (.sym s)] []
def rdC:Cut:=⟨q0b (qub (rdT s (some (1,3))) []).frames [[(0,.str (.sym s)),(3,.int .i64 (.sym i))]],[]⟩
def qq5:Int:=((s.data.getD ((i:Int) - 1).toNat 0).toBitVec.toNat:Int)
def rdI (q:List Prop):List Prop:=(decide ((i:Int)<(s.size:Int))=true)::((0:Int)<=(i:Int)/\(i:Int)<(s.size:Int))::q
def zkl (q:List Prop):List Prop:=((zaG s i == 46)=true)::q
def jtd (b:Bool) (q:List Prop):List Prop:=zkl s i ((((i:Int) == 0)=false)::qna ((s.size:Int) - 1)::(((i:Int) == (s.size:Int) - 1)=false)::qna ((i:Int) - 1)::((0:Int)<=(i:Int) - 1/\(i:Int) - 1<(s.size:Int))::((qq5 s i == 46)=b)::q)
def zhd (q:List Prop):List Prop:=app (zba ((zaG s i == 46)=false) 7) (((zaG s i != 46)=true)::q)
def zhA (q:List Prop):List Prop:=zhd s i (((zaG s i != 45)=true)::app (zba (decide (zaG s i>=65)=false) 3) q)
def rdN (J:zaQ) (ds:List Bool) (z:Nat->Nat->Nat):zgA:=zaq [] (rdC s i) [] (za9 (zb6.at (some (1,3))) 4000 ((rdC s i).fill J)) (true::ds) z
def rdE (J:zaQ) (ds:List Bool) (z:Nat->Nat->Nat):zgA:=zaq [] (rdC s i) [] (za9 (zb6.at none) 4000 ((rdC s i).fill J)) ds z
def rdX:Option ((SV × List (Option SO)) ⊕ Seen):=some (.inr (qja [] 0 (rdC s (i+1))))
variable (J:zaQ) (z:Nat->Nat->Nat)
theorem j2f:zaq [] (rdC s 0) [] (rdT s (some (1,3))) [] z=([],some (.inr (qva [(0,3,.int .i64 (.lit 0))] [] (qja [] 0 (rdC s 0))))):=by kernel_rfl
theorem ziW:rdN s i J [true,false,false,false,false,false,false] z=(rdI s i (jtd s i false (app (zba ((zaG s i != 46)=false) 3) [qna ((i:Int)+1)])),rdX s i):=by kernel_rfl
theorem ziV:rdN s i J (app (zba false 7) (true::zba false 6)) z=(rdI s i (zhd s i (app (zba ((zaG s i != 45)=false) 6) [qna ((i:Int)+1)])),rdX s i):=by kernel_rfl
theorem ziU:rdN s i J (app (zba false 7) (true::true::true::zba false 6)) z=(rdI s i (zhd s i (((zaG s i != 45)=true)::(decide (zaG s i>=65)=true)::app (zba ((!decide (zaG s i<=90))=false) 6) [qna ((i:Int)+1)])),rdX s i):=by kernel_rfl
theorem ziT:rdN s i J (app (zba false 7) (true::true::app (zba false 3) [true,false])) z=(rdI s i (zhA s i [decide (zaG s i>=48)=true,(!decide (zaG s i<=57))=false,qna ((i:Int)+1)]),rdX s i):=by kernel_rfl
theorem ziS:rdE s i J (true::true::zba true 6) z=(rdI s i (zkl s i (zba (((i:Int) == 0)=true) 6)),noR):=by kernel_rfl
theorem ziR:rdE s i J (true::true::false::zba true 6) z=(rdI s i (zkl s i ((((i:Int) == 0)=false)::qna ((s.size:Int) - 1)::zba (((i:Int) == (s.size:Int) - 1)=true) 6)),noR):=by kernel_rfl
theorem ziQ:rdE s i J [true,true,false,false,true] z=(rdI s i (jtd s i true []),noR):=by kernel_rfl
theorem ziZ:rdE s i J (true::app (zba false 7) (true::true::zba false 6)) z=(rdI s i (zhA s i (zba (decide (zaG s i>=48)=false) 3)),noR):=by kernel_rfl
theorem ziY:rdE s i J (true::app (zba false 7) (true::true::app (zba false 3) [true,true])) z=(rdI s i (zhA s i [decide (zaG s i>=48)=true,(!decide (zaG s i<=57))=true]),noR):=by kernel_rfl
theorem ziX:rdE s i J (true::app (zba false 7) [true,true,true,true,true,true]) z=(rdI s i (zhd s i [(zaG s i != 45)=true,decide (zaG s i>=65)=true,(!decide (zaG s i<=90))=true,decide (zaG s i>=48)=true,(!decide (zaG s i<=57))=true]),noR):=by kernel_rfl
theorem jnj:rdE s i J [false,true] z=([decide ((i:Int)<(s.size:Int))=false,decide ((s.size:Int)>=1)=true],some (.inl (.bool (.sym (decide ((s.size:Int)<=32))),[]))):=by kernel_rfl
theorem joj:rdE s i J (zba false 5) z=((decide ((i:Int)<(s.size:Int))=false)::zba (decide ((s.size:Int)>=1)=false) 4,noR):=by kernel_rfl
theorem qlj (j:Nat):zab (qua 0 [] (rdC s i) (rdC s j)) (zaO qpa (rdC s j).heap) false=true:=by kernel_rfl
theorem jpj:(((rdC s i).frames[0]?).bind fun p=>p.tmps[3]?)=some (some (.int .i64 (.sym i))):=by kernel_rfl
end
theorem zhi {a b:Int} (h:a≠b):(a == b)=false:=beq_eq_false_iff_ne.2 h
theorem bneF {a b:Int} (h:a=b):(a != b)=false:=by subst h; simp
theorem bneT {a b:Int} (h:a≠b):(a != b)=true:=bne_iff_ne.2 h
theorem eqT {a b:Int} (h:a=b):(a == b)=true:=by subst h; simp
theorem zjh {p:Prop} [Decidable p] (h:¬ p):(!decide p)=true:=by rw [decide_eq_false h]; rfl
theorem notF {p:Prop} [Decidable p] (h:p):(!decide p)=false:=by rw [decide_eq_true h]; rfl
theorem j3f (s:ByteArray) (hbig:s.size<=9223372036854775807):Runs zb6 54 [.str (.sym s)] [] fun v _=>∃ b,v=.bool b/\b.den=zax s:=by
 have hno:¬ zbl s->∀ H:List SO,(fun (v:SV) (_:List SO)=>∃ b,v=.bool b/\b.den=zax s) (.bool (.lit false)) H:=fun hn _=>⟨_,rfl,(qif hn).symm⟩;refine q6d q2h (rdC s) (fun i=>i<=s.size/\∀ j,j<i->chP s j) (fun i=>s.size - i) (fun g nm hg=>by cases hg) ?_ fun i hi J => ?_
 . refine qfd (some (1,3)) 4000 0 ⟨Nat.zero_le _,fun j hj=>by omega⟩ (j2f s) (qlj s 0 0) (fun m hm p u hp hu => ?_) (by simp) qaa
   obtain rfl:m=(0,3,.int .i64 (.lit 0)):=by simpa using hm
   exact q2a (jpj s 0) hp hu (q6a rfl)
 obtain ⟨hi1,hi2⟩:=hi;by_cases hin:i<s.size
 . have hI:∀ q:List Prop,(∀ p∈q,p)->∀ p∈rdI s i q,p:=fun q hq=>zaa (decide_eq_true (by omega)) (zaa ⟨by omega,by omega⟩ hq)
   have h64:qna ((i:Int)+1):=⟨by omega,by omega⟩
   have hnext:chP s i->(i+1<=s.size/\∀ j,j<i+1->chP s j)/\s.size - (i+1)<s.size - i:=fun hc=>⟨⟨by omega,fun j hj=>by
    by_cases hj':j<i
    . exact hi2 j hj'
    . obtain rfl:j=i:=by omega
      exact hc⟩,by omega⟩
   have hbad:¬ chP s i->¬ zbl s:=fun hc h=>hc (h.2.2 i hin);have zg1:i≠0->qq5 s i=zaG s (i - 1):=fun h0=>by
    unfold qq5 zaG;rw [show ((i:Int) - 1).toNat=i - 1 by omega]
   by_cases hd:zaG s i=46
   . have hdT:=eqT hd;have hok:okc (zaG s i)->False:=fun h=>q6k h hd;by_cases h0:i=0
     . exact qza none 4000 (ziS s i J) (hI _ (zaa hdT (qqb (eqT (by omega)) 6))) fun H _=>hno (hbad fun h=>by rcases h with h | h; exact hok h; exact h.2.1 h0) H
     have h0F:((i:Int) == 0)=false:=zhi (by omega)
     have c1:qna ((s.size:Int) - 1):=⟨by omega,by omega⟩
     by_cases hl:i+1=s.size
     . exact qza none 4000 (ziR s i J) (hI _ (zaa hdT (zaa h0F (zaa c1 (qqb (eqT (by omega)) 6))))) fun H _=>hno (hbad fun h=>by rcases h with h | h; exact hok h; exact h.2.2.1 hl) H
     have hlF:((i:Int) == (s.size:Int) - 1)=false:=zhi (by omega)
     have c2:qna ((i:Int) - 1):=⟨by omega,by omega⟩
     have c3:(0:Int)<=(i:Int) - 1/\(i:Int) - 1<(s.size:Int):=⟨by omega,by omega⟩
     by_cases hp:zaG s (i - 1)=46
     . exact qza none 4000 (ziQ s i J) (hI _ (zaa hdT (zaa h0F (zaa c1 (zaa hlF (zaa c2 (zaa c3 (zaa (eqT (by rw [zg1 h0]; exact hp)) qaa)))))))) fun H _=>hno (hbad fun h=>by rcases h with h | h; exact hok h; exact h.2.2.2 hp) H
     . exact q1a (some (1,3)) 4000 (i+1) (hnext (.inr ⟨hd,h0,hl,hp⟩)) (ziW s i J) (qlj s i (i+1)) (hI _ (zaa hdT (zaa h0F (zaa c1 (zaa hlF (zaa c2 (zaa c3 (zaa (zhi (by rw [zg1 h0]; exact hp)) (qbb (qqb (bneF hd) 3) (zaa h64 qaa))))))))))
   . have hC:∀ q:List Prop,(∀ p∈q,p)->∀ p∈zhd s i q,p:=fun q hq=>qbb (qqb (zhi hd) 7) (zaa (bneT hd) hq);have zf2:¬ okc (zaG s i)->¬ zbl s:=fun hc=>hbad fun h=>by rcases h with h | h; exact hc h; exact hd h.1
     by_cases a3:zaG s i=45
     . exact q1a (some (1,3)) 4000 (i+1) (hnext (.inl (.inr (.inr a3)))) (ziV s i J) (qlj s i (i+1)) (hI _ (hC _ (qbb (qqb (bneF a3) 6) (zaa h64 qaa))))
     have a3T:=bneT a3;have hL:zaG s i<65->∀ q:List Prop,(∀ p∈q,p)->∀ p∈zhA s i q,p:=fun hl q hq=>hC _ (zaa a3T (qbb (qqb (decide_eq_false (by omega)) 3) hq))
     by_cases a1:65<=zaG s i
     . by_cases a2:zaG s i<=90
       . exact q1a (some (1,3)) 4000 (i+1) (hnext (.inl (.inl ⟨a1,a2⟩))) (ziU s i J) (qlj s i (i+1)) (hI _ (hC _ (zaa a3T (zaa (decide_eq_true a1) (qbb (qqb (notF a2) 6) (zaa h64 qaa))))))
       . exact qza none 4000 (ziX s i J) (hI _ (hC _ (zaa a3T (zaa (decide_eq_true a1) (zaa (zjh a2) (zaa (decide_eq_true (by omega)) (zaa (zjh (by omega)) qaa))))))) fun H _=>hno (zf2 fun h=>by rcases h with h | h | h <;> omega) H
     . by_cases a4:48<=zaG s i
       . by_cases a5:zaG s i<=57
         . exact q1a (some (1,3)) 4000 (i+1) (hnext (.inl (.inr (.inl ⟨a4,a5⟩)))) (ziT s i J) (qlj s i (i+1)) (hI _ (hL (by omega) _ (zaa (decide_eq_true a4) (zaa (notF a5) (zaa h64 qaa)))))
         . exact qza none 4000 (ziY s i J) (hI _ (hL (by omega) _ (zaa (decide_eq_true a4) (zaa (zjh a5) qaa)))) fun H _=>hno (zf2 fun h=>by rcases h with h | h | h <;> omega) H
       . exact qza none 4000 (ziZ s i J) (hI _ (hL (by omega) _ (qqb (decide_eq_false (by omega)) 3))) fun H _=>hno (zf2 fun h=>by rcases h with h | h | h <;> omega) H
 . have e:i=s.size:=by omega
   by_cases h1:1<=s.size
   . refine qza none 4000 (jnj s i J) (zaa (decide_eq_false (by omega)) (zaa (decide_eq_true (by omega)) qaa)) fun H _=>⟨_,rfl,?_⟩
     show decide ((s.size:Int)<=32)=_;by_cases h32:s.size<=32
     . rw [qcg ⟨h1,h32,fun j hj=>hi2 j (by omega)⟩]
       exact decide_eq_true (by omega)
     . rw [qif fun h=>h32 h.2.1];exact decide_eq_false (by omega)
   . exact qza none 4000 (joj s i J) (zaa (decide_eq_false (by omega)) (qqb (decide_eq_false (by omega)) 4)) fun H _=>hno (fun h=>h1 h.1) H
def rldS:za3:=fun args _ _=>qrg args fun v=>zah (zb0 v) (.stuck 7795) fun s=>.need (s.den.size<=9223372036854775807) (.ok ⟨.bool (.sym (zax s.den)),[],[]⟩)
theorem ziL:qeb Tryd.prog 54 rldS:=by
 intro glob O w0 β H w base args vs hH hG ha;refine qdd fun v hv=>qfa fun s hs=>fun hb => ?_
 rw [hv,q8a hs] at ha;have ha:=qoa (q7b (t:=.sym s.den) rfl) qdc _ _ ha;show qtb Tryd.prog H β w base _ vs ⟨.bool (.sym (zax s.den)),[],[]⟩;generalize s.den=s at ha hb ⊢
 let I:Ifc:=⟨[],[],[.str (.sym s)]⟩
 exact qqc (c:=zb6) hH I (by intro g j hg; cases hg) ha (qkd rfl).q [] (by simp) (by simp) (qec (j3f s hb) fun v H h=>qbg rfl h)
end
noncomputable section
open Go.Sim
open Go.Proofs
variable {α:Type}
def zc8 (S:Nat->ByteArray):Nat->SV:=fun i=>.str (.sym (S i))
def IsS (g:Nat->SV):Prop:=∀ i,g i=.str (.sym (zh9 (g i)))
theorem jqb (S:Nat->ByteArray):IsS (zc8 S):=fun _=>rfl
theorem jqj {g:Nat->SV} (h:IsS g):zc8 (fun i=>zh9 (g i))=g:=funext fun i=>(h i).symm
def uns (l:List SV):Option (List ByteArray):=List.rec (motive:=fun _=>Option (List ByteArray)) (some []) (fun v _ ih=>zah (zb0 v) none fun s=>zah ih none fun xs=>some (s.den::xs)) l
def qic (l:List ByteArray) (i:Nat):ByteArray:=(l[i]?).getD .empty
def sx (l:List ByteArray):List SV:=zas (fun s=>SV.str (.sym s)) l
theorem qsu {β γ:Type} {o:Option β} {f:β->Option γ} {r:γ} (h:zah o none f=some r):∃ x,o=some x/\f x=some r:=by
 cases o with
 | none=>cases h
 | some x=>exact ⟨x,rfl,h⟩
theorem qa2:∀ {l:List SV} {xs:List ByteArray},uns l=some xs->SV.zge l (sx xs)
 | [],xs,h=>by cases h; exact SV.zge.refl _
 | v::l,xs,h=>by
   obtain ⟨s,hs,h⟩:=qsu (show (zah (zb0 v) none fun s=>zah (uns l) none fun xs=>some (s.den::xs))=some xs from h)
   obtain ⟨ys,hy,h⟩:=qsu h;cases h;rw [q8a hs];exact qoa (q7b (t:=.sym s.den) rfl) (qa2 hy)
theorem ql8 {γ:Val}:∀ {xs:List ByteArray} {vs:List Value},SV.zal γ (sx xs)=some vs->zaj γ (.fn (zc8 (qic xs)) xs.length) vs
 | [],vs,h=>by cases h; exact ⟨rfl,fun i x hx=>by simp at hx⟩
 | x::xs,vs,h=>by
   obtain ⟨v,us,hv,hu,rfl⟩:=zae.1 (show SV.zal γ (.str (.sym x)::sx xs)=some vs from h)
   obtain ⟨h1,h2⟩:=ql8 hu;refine ⟨by simp [h1],fun i y hy => ?_⟩
   cases i with
   | zero =>
     simp at hy; subst hy;cases hv; rfl
   | succ i=>exact h2 i y (by simpa using hy)
def qr5 (c:Cells) (f:(Nat->ByteArray)->Nat->R α):R α :=
 Cells.rec (motive:=fun _=>R α) (fun l=>zah (uns l) (.stuck 7801) fun xs=>f (qic xs) (zay xs)) (fun g n=>.need (IsS g) (f (fun i=>zh9 (g i)) n)) (fun V n=>.need (∀ i,i<n->zdb .s (V i)) (f (fun i=>zd5 (V i)) n)) c
def jud (e:Option SO) (f:(Nat->ByteArray)->Nat->R α):R α :=
 zah e (.stuck 7803) fun e=>SO.rec (motive:=fun _=>R α) (fun c _ _=>qr5 c f) (fun c=>qr5 c f) (fun _ _ _ _ _ _ _ _=>.stuck 7804) (fun _=>.stuck 7804) (.stuck 7804) (fun _=>.stuck 7804) (fun _=>.stuck 7804) e
theorem qtu {c:Cells} {f:(Nat->ByteArray)->Nat->R α} {φ:α->Prop} (h:∀ S n,c.Imp (.fn (zc8 S) n)->(f S n).Sat φ):(qr5 c f).Sat φ:=by
 cases c with
 | lst l =>
   refine qfa fun xs hx=>h _ _ fun γ vs hv => ?_
   rw [qha];exact ql8 (qa2 hx _ _ hv)
 | fn g n =>
   intro hg;refine h _ _ ?_
   rw [jqj hg]; exact .refl _
 | raw V n =>
   intro hV;refine h _ _ fun γ vs hv => ?_
   obtain ⟨h1,h2⟩:=hv;refine ⟨h1,fun i x hx => ?_⟩;have hi:i<n:=by have:=(List.getElem?_eq_some_iff.1 hx).1; omega
   rw [h2 i x hx];exact hV i hi γ
theorem qm8 {e:Option SO} {f:(Nat->ByteArray)->Nat->R α} {φ:α->Prop} (h:∀ S n,(∀ g,∃ e',e=some e'/\Taken g (qe5 S n) e')->(f S n).Sat φ):(jud e f).Sat φ:=by
 refine qfa fun e' he => ?_
 cases e' with
 | own c w el=>exact qtu fun S n hi=>h S n fun g=>⟨_,he,q0j (c0:=c) (.inr ⟨w,el,rfl⟩) hi.front⟩
 | row c=>exact qtu fun S n hi=>h S n fun g=>⟨_,he,q0j (c0:=c) (.inl rfl) hi.front⟩
 | loop=>trivial
 | deferred=>trivial
 | gone=>trivial
 | obj=>trivial
 | mem=>trivial
theorem qs5 (p:Nat->Bool) (S:Nat->ByteArray) (n:Nat):(qe5 S n).zdg p:=fun _=>rfl
structure Ss where
 S:Nat->ByteArray
 N:Nat
 o:Nat
 n:Nat
 b:Bool
 k:Nat
def Ss.row (s:Ss):SO:=qe5 s.S s.N
def Ss.val (s:Ss) (nm:Nat):SV:=.slice ⟨nm,.sym s.o⟩ (.sym s.n) (zab s.b (.rest nm s.k) (.sym s.k))
def Ss.at (s:Ss) (i:Nat):ByteArray:=s.S (s.o+i)
def Ss.pl (s:Ss) (m:Nat):Ss:=⟨s.S,s.N,s.o,s.n,false,m⟩
def Ss.ok (s:Ss):Prop:=s.o+s.n<=s.N/\s.n<=1099511627776
def capL (nm:Nat) (c:SC):Option (Bool × Nat):=SC.rec (motive:=fun _=>Option (Bool × Nat)) (fun m=>some (false,m)) (fun m=>some (false,m)) (fun q k=>zab (Nat.beq q nm) (some (true,k)) none) c
theorem jrb {nm:Nat} {c:SC} {bk:Bool × Nat} (h:capL nm c=some bk) (γ:Val):c.den γ=(zab bk.1 (.rest nm bk.2) (.sym bk.2):SC).den γ:=by
 cases c with
 | lit m=>cases h; rfl
 | sym m=>cases h; rfl
 | rest q k =>
   have h:zab (Nat.beq q nm) (some (true,k)) none=some bk:=h;cases hq:Nat.beq q nm with
   | false=>rw [hq] at h; cases h
   | true =>
     rw [hq] at h;cases h;rw [Nat.eq_of_beq_eq_true hq]; rfl
def jvd:Ss:=⟨fun _=>.empty,0,0,0,false,0⟩
def qcz (H:List SO) (v:SV) (f:Ss->Nat->R α):R α:=v.asSlice (.stuck 7805) fun a l c=>zah (capL a.nm c) (.stuck 7806) fun bk=>jud (nth H a.nm) fun S N=>f ⟨S,N,a.off.den,l.den,bk.1,bk.2⟩ a.nm
theorem qt5 {H:List SO} {v:SV} {f:Ss->Nat->R α} {φ:α->Prop} (h:∀ t nm,(∀ g,∃ e',H[nm]? = some e'/\Taken g t.row e')->v.Imp (t.val nm)->(f t nm).Sat φ):(qcz H v f).Sat φ:=by
 unfold qcz;rcases q7h v with ⟨a,l,c,rfl⟩ | hv
 . refine qfa fun bk hbk=>qm8 fun S N ht=>h ⟨S,N,a.off.den,l.den,bk.1,bk.2⟩ a.nm (fun g=>by rw [← qda]; exact ht g) fun γ x hx => ?_
   rw [zaf] at hx;obtain ⟨A,C,hA,hC,hle,rfl⟩:=hx;rw [show (Ss.val ⟨S,N,a.off.den,l.den,bk.1,bk.2⟩ a.nm)=.slice ⟨a.nm,.sym a.off.den⟩ (.sym l.den) (zab bk.1 (.rest a.nm bk.2) (.sym bk.2)) from rfl,zaf]
   exact ⟨A,C,hA,by rw [← jrb hbk]; exact hC,hle,rfl⟩
 . rw [hv]; trivial
def q6o (H:List SO) (v:SV) (f:Ss->Option Nat->R α):R α:=q9r v (f jvd none) fun _ _=>qcz H v fun t tn=>f t (some tn)
theorem q5j {H:List SO} {v:SV} {f:Ss->Option Nat->R α} {φ:α->Prop} (h0:v=.zad->(f jvd none).Sat φ) (h:∀ t nm,(∀ g,∃ e',H[nm]? = some e'/\Taken g t.row e')->v.Imp (t.val nm)->(f t (some nm)).Sat φ):(q6o H v f).Sat φ :=
 qdm h0 fun _ _ _ _=>qt5 h
theorem Ss.zd7 (t:Ss) (p:Nat->Bool):t.row.zdg p:=qs5 _ _ _
theorem Ss.zex (t:Ss) (f:Nat->Nat) (nm:Nat):(t.val nm).ren f=t.val (f nm):=by
 unfold Ss.val;cases t.b <;> rfl
theorem Ss.zd4 (t:Ss) (p:Nat->Bool) (nm:Nat) (h:p nm=true):(t.val nm).uses p=true:=by
 unfold Ss.val;cases t.b with
 | false=>show p nm && true=true; rw [h]; rfl
 | true=>show (p nm && p nm)=true; rw [h]; rfl
theorem Ss.zey {t:Ss} {nm:Nat} {γ:Val} {x:Value} (h:(t.val nm).den γ=some x):∃ m,t.n<=m/\((t.pl m).val nm).den γ=some x:=by
 obtain ⟨m,hm,hd,_,_⟩:=qju (show (SV.slice ⟨nm,.sym t.o⟩ (.sym t.n) (zab t.b (.rest nm t.k) (.sym t.k))).den γ=some x from h)
 exact ⟨m,hm,hd⟩
end
noncomputable section
open Go.Sim
open Go.Proofs
variable {α:Type}
theorem qom {c:Cfg} (hc:zaC c) (C:Nat->Cut) (p:Nat->Prop) (n:Nat) {D:SV->List SO->Prop} {f:FuncId} {args:List SV} {H:List SO} (hgl:∀ g nm,c.glob g=some nm->nm<H.length)
  (h0:∀ Q:Nat->Prop,Q 0->q3k c H.length C Q D f args H)
  (h1:∀ i,i<n->p i->∀ J (Q:Nat->Prop),Q (i+1)->qlb c H.length C Q D ((C i).fill J))
  (h2:∀ i,i<n->¬ p i->∀ J (Q:Nat->Prop),qlb c H.length C Q D ((C i).fill J))
  (h3:(∀ j,j<n->p j)->∀ J (Q:Nat->Prop),qlb c H.length C Q D ((C n).fill J)):Runs c f args H D:=by
 refine q6d hc C (fun i=>i<=n/\∀ j,j<i->p j) (fun i=>n - i) hgl (h0 _ ⟨Nat.zero_le _,fun j hj=>by omega⟩) fun i hi J => ?_
 by_cases hin:i<n
 . by_cases hp:p i
   . refine h1 i hin hp J _ ⟨⟨by omega,fun j hj => ?_⟩,by omega⟩
     by_cases c:j<i
     . exact hi.2 j c
     . obtain rfl:j=i:=by omega
       exact hp
   . exact h2 i hin hp J _
 . have e:i=n:=by have:=hi.1; omega
   subst e;exact h3 hi.2 J _
def cB (p:Prop):Bool:=@decide p (Classical.propDecidable _)
theorem qrc {p:Prop} (h:p):cB p=true:=@decide_eq_true _ (Classical.propDecidable _) h
theorem q8b {p:Prop} (h:¬ p):cB p=false:=@decide_eq_false _ (Classical.propDecidable _) h
def q7k (t:Bool) (v:SV):Prop:=∃ b,v=.bool b/\b.den=t
def rlL:List (FuncId × za3):=[(51,rlmS),(54,rldS)]
theorem jwd:∀ y∈rlL,qeb Tryd.prog y.1 y.2:=zcu ziK (all1 ziL)
def zcr:Cfg:=qhc (qkc rlL)
theorem q5e:zaC zcr:=qpc jwd
def inS (t:Ss) (i:Nat) (q:List Prop):List Prop:=(decide ((i:Int)<(t.n:Int))=true)::((0:Int)<=(i:Int)/\(i:Int)<(t.n:Int))::(t.o+i * 1<t.N)::q
def Ss.el (t:Ss) (i:Nat):ByteArray:=t.S (t.o+i * 1)
theorem Ss.zc0 (t:Ss) (i:Nat):t.el i=t.at i:=by unfold Ss.el Ss.at; rw [Nat.mul_one]
theorem qdg {t:Ss} {i:Nat} (ht:t.ok) (h:i<t.n) {q:List Prop} (hq:∀ p∈q,p):∀ p∈inS t i q,p:=by
 have:=ht.1;exact zaa (decide_eq_true (by omega)) (zaa ⟨by omega,by omega⟩ (zaa (by omega) hq))
section
variable (t:Ss) (k:Nat) (m:Int) (i:Nat) (J:zaQ) (z:Nat->Nat->Nat)
def fwT (st:Option (Nat × Nat)) (v:SV) (H:List SO) (m:Int):Tree:=qka (zcr.at st) 4000 7 [v,.int .i64 (.sym m)] H
def rsT (st:Option (Nat × Nat)) (v:SV) (H:List SO):Tree:=qka (zcr.at st) 4000 34 [v] H
def vdT (st:Option (Nat × Nat)) (v:SV) (H:List SO):Tree:=qka (zcr.at st) 4000 36 [v] H
def fwC:Cut:=⟨q0b (qub (fwT (some (1,3)) ((t.pl k).val 0) [(t.pl k).row] m) [false]).frames [[(0,(t.pl k).val 0),(5,.int .i64 (.sym i))]],[.ent t.row]⟩
def rsC:Cut:=⟨q0b (qub (rsT (some (1,3)) ((t.pl k).val 0) [(t.pl k).row]) []).frames [[(5,(t.pl k).val 0),(6,.int .i64 (.sym (t.n:Int))),(7,.int .i64 (.sym i))]],[.ent t.row]⟩
def vdC:Cut:=⟨q0b (qub (vdT (some (1,3)) ((t.pl k).val 0) [(t.pl k).row]) []).frames [[(0,(t.pl k).val 0),(3,.int .i64 (.sym i))]],[.ent t.row]⟩
theorem j4f:za4 [] (fwT none .zad [] m) [false]=([decide ((0:Int) > m)=false],some (.bool (.lit true),[])):=by kernel_rfl
theorem j5f:za4 [] (fwT none .zad [] m) [true]=([decide ((0:Int) > m)=true],some (.bool (.lit false),[])):=by kernel_rfl
theorem jrj:za4 [] (rsT none .zad []) []=([],some (.bool (.lit true),[])):=by kernel_rfl
theorem jsj:za4 [] (vdT none .zad []) []=([],some (.bool (.lit true),[])):=by kernel_rfl
theorem j6f:zaq [] (fwC t k m 0) [0] (fwT (some (1,3)) ((t.pl k).val 0) [(t.pl k).row] m) [false] z=([decide ((t.n:Int) > m)=false],some (.inr (qva [(0,5,.int .i64 (.lit 0))] [] (qja [0] 1 (fwC t k m 0))))):=by kernel_rfl
theorem j7f:zaq [] (rsC t k 0) [0] (rsT (some (1,3)) ((t.pl k).val 0) [(t.pl k).row]) [] z=([],some (.inr (qva [(0,7,.int .i64 (.lit 0))] [] (qja [0] 1 (rsC t k 0))))):=by kernel_rfl
theorem j8f:zaq [] (vdC t k 0) [0] (vdT (some (1,3)) ((t.pl k).val 0) [(t.pl k).row]) [] z=([],some (.inr (qva [(0,3,.int .i64 (.lit 0))] [] (qja [0] 1 (vdC t k 0))))):=by kernel_rfl
theorem j9f:zaq [] (fwC t k m i) [0] (za9 (zcr.at (some (1,3))) 4000 ((fwC t k m i).fill J)) [true,false] z=(inS t i [decide (((t.el i).size:Int) > 60)=false,qna ((i:Int)+1)],some (.inr (qja [0] 1 (fwC t k m (i+1))))):=by kernel_rfl
theorem jag:zaq [] (rsC t k i) [0] (za9 (zcr.at (some (1,3))) 4000 ((rsC t k i).fill J)) [true,false] z=(inS t i [(!zax (t.el i))=false,qna ((i:Int)+1)],some (.inr (qja [0] 1 (rsC t k (i+1))))):=by kernel_rfl
theorem jbg:zaq [] (vdC t k i) [0] (za9 (zcr.at (some (1,3))) 4000 ((vdC t k i).fill J)) [true,false] z=(inS t i [(t.el i).size<=9223372036854775807,(!zax (t.el i))=false,qna ((i:Int)+1)],some (.inr (qja [0] 1 (vdC t k (i+1))))):=by kernel_rfl
theorem jcg:zaq [] (fwC t k m i) [0] (za9 (zcr.at none) 4000 ((fwC t k m i).fill J)) [true,true] z=(inS t i [decide (((t.el i).size:Int) > 60)=true],noR):=by kernel_rfl
theorem jdg:zaq [] (rsC t k i) [0] (za9 (zcr.at none) 4000 ((rsC t k i).fill J)) [true,true] z=(inS t i [(!zax (t.el i))=true],noR):=by kernel_rfl
theorem jeg:zaq [] (vdC t k i) [0] (za9 (zcr.at none) 4000 ((vdC t k i).fill J)) [true,true] z=(inS t i [(t.el i).size<=9223372036854775807,(!zax (t.el i))=true],noR):=by kernel_rfl
theorem jtj:zaq [] (fwC t k m i) [0] (za9 (zcr.at none) 4000 ((fwC t k m i).fill J)) [false] z=([decide ((i:Int)<(t.n:Int))=false],zgD):=by kernel_rfl
theorem juj:zaq [] (rsC t k i) [0] (za9 (zcr.at none) 4000 ((rsC t k i).fill J)) [false] z=([decide ((i:Int)<(t.n:Int))=false],zgD):=by kernel_rfl
theorem jvj:zaq [] (vdC t k i) [0] (za9 (zcr.at none) 4000 ((vdC t k i).fill J)) [false] z=([decide ((i:Int)<(t.n:Int))=false],zgD):=by kernel_rfl
theorem qdz (j:Nat):zab (qua 1 [0] (fwC t k m i) (fwC t k m j)) (zaO qpa (fwC t k m j).heap) false=true:=by kernel_rfl
theorem qez (j:Nat):zab (qua 1 [0] (rsC t k i) (rsC t k j)) (zaO qpa (rsC t k j).heap) false=true:=by kernel_rfl
theorem qfz (j:Nat):zab (qua 1 [0] (vdC t k i) (vdC t k j)) (zaO qpa (vdC t k j).heap) false=true:=by kernel_rfl
theorem jwj:(((fwC t k m i).frames[0]?).bind fun p=>p.tmps[5]?)=some (some (.int .i64 (.sym i))):=by kernel_rfl
theorem jxj:(((rsC t k i).frames[0]?).bind fun p=>p.tmps[7]?)=some (some (.int .i64 (.sym i))):=by kernel_rfl
theorem jyj:(((vdC t k i).frames[0]?).bind fun p=>p.tmps[3]?)=some (some (.int .i64 (.sym i))):=by kernel_rfl
end
def zhK (t:Ss) (m:Int):Prop:=(t.n:Int)<=m/\∀ i,i<t.n->(t.at i).size<=60
def zeG (t:Ss):Prop:=∀ i,i<t.n->zbl (t.at i)
theorem qet {s:ByteArray}:zbl s->(!zax s)=false:=fun h=>by rw [qcg h]; rfl
theorem qgz {s:ByteArray}:¬ zbl s->(!zax s)=true:=fun h=>by rw [qif h]; rfl
theorem jfg {t:Ss} (k:Nat) {m:Int} (ht:t.ok) (hm:(t.n:Int)<=m):Runs zcr 7 [(t.pl k).val 0,.int .i64 (.sym m)] [(t.pl k).row] fun v _=>q7k (cB (zhK t m)) v:=by
 have hn:=ht.2;refine qom q5e (fwC t k m) (fun i=>(t.at i).size<=60) t.n (fun g nm hg=>by cases hg) (fun Q hQ => ?_) (fun i hi hp J Q hQ => ?_) (fun i hi hp J Q => ?_) (fun hp J Q => ?_)
 . refine qfd (some (1,3)) 4000 0 hQ (j6f t k m) (qdz t k m 0 0) (fun q hq p u hp hu => ?_) (fun e he=>by cases he) (zaa (decide_eq_false (by omega)) qaa)
   obtain rfl:q=(0,5,.int .i64 (.lit 0)):=by simpa using hq
   exact q2a (jwj t k m 0) hp hu (q6a rfl)
 . exact q1a (some (1,3)) 4000 (i+1) hQ (j9f t k m i J) (qdz t k m i (i+1)) (qdg ht hi (zaa (decide_eq_false (by rw [t.zc0]; omega)) (zaa ⟨by omega,by omega⟩ qaa)))
 . exact qza none 4000 (jcg t k m i J) (qdg ht hi (zaa (decide_eq_true (by rw [t.zc0]; omega)) qaa)) fun H _=>⟨_,rfl,(q8b fun h=>hp (h.2 i hi)).symm⟩
 . exact qza none 4000 (jtj t k m t.n J) (zaa (decide_eq_false (by omega)) qaa) fun H _=>⟨_,rfl,(qrc ⟨hm,hp⟩).symm⟩
theorem jgg {t:Ss} (k:Nat) (ht:t.ok):Runs zcr 34 [(t.pl k).val 0] [(t.pl k).row] fun v _=>q7k (cB (zeG t)) v:=by
 have hn:=ht.2;refine qom q5e (rsC t k) (fun i=>zbl (t.at i)) t.n (fun g nm hg=>by cases hg) (fun Q hQ => ?_) (fun i hi hp J Q hQ => ?_) (fun i hi hp J Q => ?_) (fun hp J Q => ?_)
 . refine qfd (some (1,3)) 4000 0 hQ (j7f t k) (qez t k 0 0) (fun q hq p u hp hu => ?_) (fun e he=>by cases he) qaa
   obtain rfl:q=(0,7,.int .i64 (.lit 0)):=by simpa using hq
   exact q2a (jxj t k 0) hp hu (q6a rfl)
 . exact q1a (some (1,3)) 4000 (i+1) hQ (jag t k i J) (qez t k i (i+1)) (qdg ht hi (zaa (by rw [t.zc0]; exact qet hp) (zaa ⟨by omega,by omega⟩ qaa)))
 . exact qza none 4000 (jdg t k i J) (qdg ht hi (zaa (by rw [t.zc0]; exact qgz hp) qaa)) fun H _=>⟨_,rfl,(q8b fun h=>hp (h i hi)).symm⟩
 . exact qza none 4000 (juj t k t.n J) (zaa (decide_eq_false (by omega)) qaa) fun H _=>⟨_,rfl,(qrc hp).symm⟩
theorem jhg {t:Ss} (k:Nat) (ht:t.ok) (hs:∀ i,i<t.n->(t.at i).size<=9223372036854775807):Runs zcr 36 [(t.pl k).val 0] [(t.pl k).row] fun v _=>q7k (cB (zeG t)) v:=by
 have hn:=ht.2;refine qom q5e (vdC t k) (fun i=>zbl (t.at i)) t.n (fun g nm hg=>by cases hg) (fun Q hQ => ?_) (fun i hi hp J Q hQ => ?_) (fun i hi hp J Q => ?_) (fun hp J Q => ?_)
 . refine qfd (some (1,3)) 4000 0 hQ (j8f t k) (qfz t k 0 0) (fun q hq p u hp hu => ?_) (fun e he=>by cases he) qaa
   obtain rfl:q=(0,3,.int .i64 (.lit 0)):=by simpa using hq
   exact q2a (jyj t k 0) hp hu (q6a rfl)
 . exact q1a (some (1,3)) 4000 (i+1) hQ (jbg t k i J) (qfz t k i (i+1)) (qdg ht hi (zaa (by rw [t.zc0]; exact hs i hi) (zaa (by rw [t.zc0]; exact qet hp) (zaa ⟨by omega,by omega⟩ qaa))))
 . exact qza none 4000 (jeg t k i J) (qdg ht hi (zaa (by rw [t.zc0]; exact hs i hi) (zaa (by rw [t.zc0]; exact qgz hp) qaa))) fun H _=>⟨_,rfl,(q8b fun h=>hp (h i hi)).symm⟩
 . exact qza none 4000 (jvj t k t.n J) (zaa (decide_eq_false (by omega)) qaa) fun H _=>⟨_,rfl,(qrc hp).symm⟩
end
noncomputable section
open Go.Sim
open Go.Proofs
variable {α:Type}
theorem qhz {g:FuncId->Option za3} {f:FuncId} {O:Nat->Prop} {w0 w:World} {β:Val} {H:List SO} {base:Nat} {vs:List Value} (hH:HeapRel0 Tryd.prog O w0 β H w) {v:SV} {t:Ss} {nm:Nat} {rest:List SV} (ha:SV.zal β (v::rest)=some vs)
  (ht:∀ g,∃ e',H[nm]? = some e'/\Taken g t.row e') (hi:v.Imp (t.val nm)) (hr:∀ f,SV.zbJ f rest=rest) (hu:∀ p,SV.zbi p rest=true) {b:Bool} (hrun:∀ k,Runs (qhc g) f ((t.pl k).val 0::rest) [t.row] fun v _=>q7k b v) :
  qtb Tryd.prog H β w base f vs ⟨.bool (.sym b),[],[]⟩:=by
 obtain ⟨x,ys,hx,hys,rfl⟩:=zae.1 ha;obtain ⟨k,_,hx'⟩:=Ss.zey (hi _ _ hx);refine qqc (c:=qhc g) hH ⟨[nm],[t.row],(t.pl k).val 0::rest⟩ (by intro g j hg; cases hg) ?_ (Ifc.zbV (by simp) ?_ ⟨⟨ht _,t.zd7 _⟩,trivial⟩) [] (by simp) (by simp) (qec (hrun k) fun v H h=>qbg rfl h)
 . show SV.zal β (((t.pl k).val 0).ren _::SV.zbJ _ rest)=_;rw [Ss.zex,hr]; exact zae.2 ⟨_,_,hx',hys,rfl⟩
 . show (((t.pl k).val 0).uses _ && SV.zbi _ rest)=true;rw [Ss.zd4 _ _ _ rfl,hu]; rfl
theorem q8k {g:FuncId->Option za3} (hc:zaC (qhc g)) {f:FuncId} {O:Nat->Prop} {w0 w:World} {β:Val} {H:List SO} {base:Nat} {vs:List Value} (hH:HeapRel0 Tryd.prog O w0 β H w) {args:List SV} (ha:SV.zal β args=some vs) (hr:∀ f,SV.zbJ f args=args) (hu:∀ p,SV.zbi p args=true)
  {b t:Bool} {ds:List Bool} {ps:List Prop} {n:Nat} (hrun:za4 [] (qka (qhc g) n f args []) ds=(ps,some (.bool (.lit b),[]))) (hp:∀ p∈ps,p) (hb:b=t):qtb Tryd.prog H β w base f vs ⟨.bool (.sym t),[],[]⟩:=by
 subst hb;refine qcb hc n hH ⟨[],[],args⟩ (by intro g j hg; cases hg) ?_ (Ifc.zbV (by simp) (hu _) trivial) [] (by simp) (by simp) (q0a hrun hp fun H2 _=>qbg rfl ⟨_,rfl,rfl⟩)
 show SV.zal β (SV.zbJ _ args)=_;rw [hr]; exact ha
def zhE (v:SV):Option SI:=v.asInt none fun k n=>zab (i64K k) (some n) none
theorem qeo {v:SV} {n:SI} (h:zhE v=some n):v=.int .i64 n:=by
 cases v <;> first | (cases h; done) | skip
 rename_i k m;cases k <;> first | (cases h; rfl) | (cases h; done)
def bR (p:Prop):zaH:=⟨.bool (.sym (cB p)),[],[]⟩
def fewS:za3:=fun args H _=>quf args fun v mv=>zah (zhE mv) (.stuck 7810) fun m=>q6o H v fun t _=>.need ((t.n:Int)<=m.den->t.ok) (.ok (bR (zhK t m.den)))
def zgJ:za3:=fun args H _=>qrg args fun v=>q6o H v fun t _=>.need t.ok (.ok (bR (zeG t)))
def zh3:za3:=fun args H _=>qrg args fun v=>q6o H v fun t _=>.need (t.ok/\∀ i,i<t.n->(t.at i).size<=9223372036854775807) (.ok (bR (zeG t)))
theorem zki:qeb Tryd.prog 7 fewS:=by
 intro glob O w0 β H w base args vs hH hG ha;refine qed fun v mv hv=>qfa fun m hm => ?_
 rw [hv,qeo hm] at ha;have ha:=qoa (.refl v) (qoa (q6a (b:=.sym m.den) rfl) qdc) _ _ ha;refine q5j (fun hn=>fun _ => ?_) fun t nm ht hi=>fun hok => ?_
 . rw [hn] at ha;by_cases c:(0:Int) > m.den
   . exact q8k q5e hH ha (fun _=>rfl) (fun _=>rfl) (j5f m.den) (zaa (decide_eq_true c) qaa) (q8b fun h=>by have:(0:Int)<=m.den:=h.1; omega).symm
   . exact q8k q5e hH ha (fun _=>rfl) (fun _=>rfl) (j4f m.den) (zaa (decide_eq_false c) qaa) (qrc ⟨by show (0:Int)<=m.den; omega,fun i hi=>by have:i<0:=hi; omega⟩).symm
 . refine qhz (g:=qkc rlL) hH ha ht hi (fun _=>rfl) (fun _=>rfl) fun k => ?_
   by_cases c:(t.n:Int)<=m.den
   . exact jfg k (hok c) c
   . refine q6d q5e (fun _:Nat=>fwC t k m.den 0) (fun _=>False) (fun _=>0) (fun g nm hg=>by cases hg) ?_ fun _ h _=>h.elim
     refine qg8 none 4000 (M:=fwC t k m.den 0) (names:=[0]) (js:=[]) (ds:=[true]) (ps:=[decide ((t.n:Int) > m.den)=true]) (v:=.bool (.lit false)) (es:=[]) (fun z => ?_) (zaa (decide_eq_true (by omega)) qaa) fun H _=>⟨_,rfl,(q8b fun h=>c h.1).symm⟩
     kernel_rfl
theorem qhw:qeb Tryd.prog 34 zgJ:=by
 intro glob O w0 β H w base args vs hH hG ha;refine qdd fun v hv => ?_
 rw [hv] at ha;refine q5j (fun hn=>fun _ => ?_) fun t nm ht hi=>fun hok=>qhz (g:=qkc rlL) hH ha ht hi (fun _=>rfl) (fun _=>rfl) fun k=>jgg k hok;rw [hn] at ha;exact q8k q5e hH ha (fun _=>rfl) (fun _=>rfl) jrj qaa (qrc fun i hi=>by have:i<0:=hi; omega).symm
theorem zh4:qeb Tryd.prog 36 zh3:=by
 intro glob O w0 β H w base args vs hH hG ha;refine qdd fun v hv => ?_
 rw [hv] at ha;refine q5j (fun hn=>fun _ => ?_) fun t nm ht hi=>fun ⟨hok,hs⟩=>qhz (g:=qkc rlL) hH ha ht hi (fun _=>rfl) (fun _=>rfl) fun k=>jhg k hok hs;rw [hn] at ha;exact q8k q5e hH ha (fun _=>rfl) (fun _=>rfl) jsj qaa (qrc fun i hi=>by have:i<0:=hi; omega).symm
end
noncomputable section
open Go.Sim
open Go.Proofs
variable {α:Type}
def zc2:Cfg:=qhc fun _=>none
theorem qui:zaC zc2:=⟨zcq.prog,fun f s h=>(by cases h),fun f s h=>by cases h⟩
def rwV (V:Nat->Value) (N:Nat):SO:=.row (.raw V (N * 2))
def slP (nm n k:Nat):SV:=.slice ⟨nm,.lit 0⟩ (.sym n) (.sym k)
theorem zgv (s:ByteArray):zdb .s (.string s):=fun _=>rfl
structure Pw where
 V:Nat->Value
 N:Nat
 n:Nat
end
noncomputable section
open Go.Sim
open Go.Proofs
variable {α:Type}
def lsV (xs:List ByteArray) (j:Nat):Value:=.string (qic xs j)
def Pw.row (t:Pw):SO:=rwV t.V t.N
end
noncomputable section
open Go.Sim
open Go.Proofs
variable {α:Type}
section
variable (V:Nat->Value) (N n:Nat) (b:Bool) (k:Nat) (x y:ByteArray) (i:Nat) (J:zaQ) (z:Nat->Nat->Nat)
def twS:Ss:=⟨qic [x,y],2,0,2,false,2⟩
end
end
end Go.Proofs.YtbhlngmhgplepaaDoor.Aes
namespace Go.Sim
noncomputable section
open Go.RowKit
theorem qb1 {c:Cfg} {O:Nat->Prop} {w0 w:World} {β:Val} {H:List SO} {base:Nat} {f:FuncId} {vs:List Value} (hH:HeapRel0 c.P O w0 β H w)
  (I:Ifc) (hgl:∀ g j,c.glob g=some j->I.known j=true/\∃ l,β (I.big j)=some l/\l.blk=g/\l.off=0) (ha:SV.zal β (SV.zbJ I.big I.args)=some vs) (hI:I.zbQ H) {r:zaH} (turn:List Nat) (ht1:∀ (j:Nat) E,I.ents[j]? = some E->E.owned=true->j∈turn) (ht2:∀ j∈turn,∃ E,I.ents[j]? = some E/\E.owned=true) (htn:turn.Nodup:=by simp)
  (hbody:∃ fn,c.P.funcs[f]? = some fn/\fn.body.isSome=true)
  (hrun:zac c.P (I.zeH β) w (I.val β) I.ents w->zaD c.glob (I.val β)->SV.zal (I.val β) I.args=some vs->Calls c.P f vs.toArray w (Came c.P (I.zeH β) w (I.val β) fun v H2=>∃ keep:List Nat,(∀ j∈keep,I.names.length<=j)/\keep.Nodup/\I.zhU base turn keep r v H2)):qtb c.P H β w base f vs r:=by
 intro hfree;have hH':=Ifc.zg8 hH hI;have ha':SV.zal (I.val β) I.args=some vs:=by
  rw [SV.zaJ,SV.zaY Ifc.zaw _ hI.zeB] at ha; exact ha
 have zcs:=hrun hH' (fun g j hg=>let ⟨hk,l,h1,h2⟩:=hgl g j hg; ⟨l,by rw [← Ifc.zaw j hk]; exact h1,h2⟩) ha'
 have hown:∀ j∈turn,∃ e l,H[I.big j]? = some e/\e.owned=true/\β (I.big j)=some l/\I.val β j=some l/\j<I.names.length:=by
  intro j hj;obtain ⟨E,he,ho⟩:=ht2 j hj;obtain ⟨e,he',ht⟩:=hI.ent j _ he;have hu:=hI.zco j _ he;have hjl:j<I.names.length:=by rw [← hI.len]; exact (List.getElem?_eq_some_iff.1 he).1
  have hpl:e.placed=true\/∃ o,e=.obj o:=by
   cases E with
   | own=>obtain ⟨_,rfl,_⟩:=ht; exact .inl rfl
   | row=>cases ho
   | loop=>exact hu.elim
   | deferred=>exact hu.elim
   | gone=>cases ho
   | mem=>exact hu.elim
   | obj=>obtain ⟨_,rfl,_⟩:=ht; exact .inr ⟨_,rfl⟩
  obtain ⟨l,hl⟩:=(hH.entries _ _ he').loc hpl;exact ⟨e,l,he',ht.owned hu ho,hl,by rw [← Ifc.zaw j ((I.zaI j).2 hjl)]; exact hl,hjl⟩
 have zci:∀ (keep:List Nat) (v:SV) (H'':List SO),I.zhU base turn keep r v H''->∀ m e,(m,e)∈r.sets->∃ j∈turn,m=I.big j/\zbe (I.seen keep) (I.out base keep) H''[j]? e/\∃ i:Nat,turn[i]? = some j/\r.sets[i]? = some (m,e):=by
  intro keep v H'' hout m e hm;obtain ⟨i,hi⟩:=List.mem_iff_getElem?.1 hm;have hil:=(List.getElem?_eq_some_iff.1 hi).1;rw [hout.zcK] at hil;obtain ⟨e',h1,h2⟩:=hout.sets i _ (List.getElem?_eq_getElem hil);rw [hi] at h1;cases h1;exact ⟨_,List.getElem_mem hil,rfl,h2,i,List.getElem?_eq_getElem hil,hi⟩
 refine ⟨?_,.inl ⟨hbody,?_⟩⟩
 . intro m e hm;obtain ⟨e',w',fr,zbL,_⟩:=zcs [];obtain ⟨v,H'',x,β'',_,⟨keep,hk,hkn,hout⟩,_⟩:=zbL;obtain ⟨j,hj,rfl,hg,_⟩:=zci keep v H'' hout m e hm;obtain ⟨e0,l,h1,h2,_⟩:=hown j hj;exact ⟨_,h1,h2,.not hg.notMem⟩
 . intro cs;obtain ⟨e',w',fr,zbL,hst⟩:=zcs cs;refine ⟨e',w',fr,?_,hst⟩;obtain ⟨v,H'',x,β'',rfl,⟨keep,hk,hkn,hout⟩,hle,hv,hH2⟩:=zbL
   let βb:Val:=fun n=>if base<=n/\n<base+keep.length then (keep[n - base]?).bind β'' else β n
   have zcj:r.news.length=keep.length:=hout.newsLen;have hfree':∀ i,i<keep.length->β (base+i)=none:=fun i hi=>hfree i (by rw [zcj]; exact hi)
   have hβle:β.le βb:=by
    intro n l hn;show (if _ then _ else _)=_
    rw [if_neg]
    . exact hn
    . rintro ⟨h1,h2⟩;have:=hfree' (n - base) (by omega)
      rw [show base+(n - base)=n from by omega,hn] at this; cases this
   have zbb:∀ j,I.seen keep j=true->βb (I.out base keep j)=β'' j:=by
    intro j hj;unfold Ifc.seen at hj;unfold Ifc.out;cases hkn':I.known j with
    | true =>
      rw [zak];have hjl:=(I.zaI j).1 hkn';obtain ⟨E,hE⟩:∃ E,I.ents[j]? = some E:=⟨_,List.getElem?_eq_getElem (by rw [hI.len]; exact hjl)⟩
      obtain ⟨e,he,htk⟩:=hI.ent j E hE;have hu:=hI.zco j E hE;have hpl:e.placed=true\/∃ o,e=.obj o:=by
       cases E with
       | own cc ww el=>obtain ⟨c1,rfl,_⟩:=htk; exact .inl rfl
       | row cc=>obtain ⟨c1,rfl | ⟨ww,el,rfl⟩,_⟩:=htk <;> exact .inl rfl
       | loop=>exact hu.elim
       | deferred=>exact hu.elim
       | gone=>obtain ⟨_,_,h⟩:=htk; exact h
       | mem=>exact hu.elim
       | obj=>obtain ⟨_,rfl,_⟩:=htk; exact .inr ⟨_,rfl⟩
      obtain ⟨l,hl⟩:=(hH.entries _ _ he).loc hpl;rw [hβle _ _ hl];have:I.val β j=some l:=by rw [← Ifc.zaw j hkn']; exact hl
      rw [hle _ _ this]
    | false =>
      rw [hkn',zam,zch] at hj;rw [zam];have h1:=q3e hj;have h2:=(List.getElem?_eq_some_iff.1 h1).1;show (if _ then _ else _)=_
      rw [if_pos (by omega),show base+zcZ j keep - base=zcZ j keep from by omega,h1]; rfl
   have zb2:∀ (j:Nat) (e:SO),zbe (I.seen keep) (I.out base keep) H''[j]? e->I.seen keep j=true->e.owned=true/\zaz c.P βb w' (I.out base keep j) e:=by
    intro j e hg hs;rcases hg with ⟨cc,ww,el,c',he,hu,himp,rfl⟩ | ⟨o,o',he,hu,himp,rfl⟩
    . obtain ⟨l,vs,rest,lo,hi,hl,h0,hcl,hh,hfz,hw,hcap⟩:=hH2.entries j _ he;exact ⟨rfl,l,vs,rest,lo,hi,(zbb j hs).trans hl,h0,himp _ _ ((zaj.ren hu zbb).2 hcl),hh,hfz,hw,hcap⟩
    . obtain ⟨l,y,hl,h0,hd,hh⟩:=hH2.entries j _ he;exact ⟨rfl,l,y,(zbb j hs).trans hl,h0,himp _ _ (by rw [zaW.zaF,zaW.zaM (β:=fun n=>βb (I.out base keep n)) (β':=β'') zbb hu]; exact hd),hh⟩
   have zfj:∀ (j:Nat) (e:SO),zbe (I.seen keep) (I.out base keep) H''[j]? e->∃ e0 l,H''[j]? = some e0/\e0.owned=true/\β'' j=some l:=by
    intro j e hg;rcases hg with ⟨cc,ww,el,c',he,_⟩ | ⟨o,o',he,_⟩
    . obtain ⟨l,vs2,rest,lo,hi2,hl,_⟩:=hH2.entries j _ he;exact ⟨_,l,he,rfl,hl⟩
    . obtain ⟨l,y,hl,_⟩:=hH2.entries j _ he;exact ⟨_,l,he,rfl,hl⟩
   have zdq:∀ j∈turn,I.seen keep j=true/\I.out base keep j=I.big j:=by
    intro j hj;obtain ⟨_,_,_,_,_,_,hjl⟩:=hown j hj;have:=(I.zaI j).2 hjl;unfold Ifc.seen Ifc.out;rw [this]; exact ⟨rfl,rfl⟩
   have zdr:∀ j∈keep,I.seen keep j=true/\I.known j=false:=by
    intro j hj;have hnk:I.known j=false:=by
     cases hx:I.known j with
     | false=>rfl
     | true=>have:=(I.zaI j).1 hx; have:=hk j hj; omega
    unfold Ifc.seen;rw [hnk]; exact ⟨q9f hj,rfl⟩
   have zcO:∀ (i:Nat) (e:SO),r.news[i]? = some e->∃ j,keep[i]? = some j/\zbe (I.seen keep) (I.out base keep) H''[j]? e:=by
    intro i e hi;have hil:=(List.getElem?_eq_some_iff.1 hi).1;rw [zcj] at hil;obtain ⟨e',h1,h2⟩:=hout.news i _ (List.getElem?_eq_getElem hil);rw [hi] at h1; cases h1;exact ⟨_,List.getElem?_eq_getElem hil,h2⟩
   refine ⟨x,βb,rfl,?_,⟨hβle,hH2.keep.os,hH2.keep.tape,hH2.keep.output,hH2.keep.drawn,hH2.keep.size,?_,?_,?_,?_,?_,?_⟩⟩
   . refine hout.val _ _ ?_
     rw [SV.zaF,SV.zaM zbb _ hout.uv]; exact hv
   . intro n hn;rw [zcj] at hn;show (if _ then _ else _)=_
     rw [if_neg (by omega)]
   . intro b hb hno _;refine hH2.keep.block b hb ?_
     rintro ⟨j,E,l,hj,ho,hl,rfl⟩;have hjt:=ht1 j E hj ho;obtain ⟨i,hi⟩:=List.mem_iff_getElem?.1 hjt;obtain ⟨e,he,_⟩:=hout.sets i j hi;exact hno (I.big j) e l (List.mem_of_getElem? he) hl rfl
   . intro m e e' h1 h2;obtain ⟨j,hj,hm1,hg1,i1,ht1',hs1⟩:=zci keep v H'' hout m e h1;obtain ⟨k,hk',hm2,hg2,i2,zgX,hs2⟩:=zci keep v H'' hout m e' h2;obtain ⟨_,_,_,_,_,_,hjl⟩:=hown j hj;obtain ⟨_,_,_,_,_,_,hkl⟩:=hown k hk';have hjk:k=j:=hI.nodup k j (I.big k) (Ifc.zbA hkl) (by rw [← hm2,hm1]; exact Ifc.zbA hjl)
     subst hjk;have:i1=i2:=(List.getElem?_inj (List.getElem?_eq_some_iff.1 ht1').1 htn).1 (ht1'.trans zgX.symm);subst this;rw [hs1] at hs2;exact (Prod.mk.inj (Option.some.inj hs2)).2
   . intro m e hm;obtain ⟨j,hj,rfl,hg,_⟩:=zci keep v H'' hout m e hm;obtain ⟨hs,hb⟩:=zdq j hj;rw [← hb];exact (zb2 j e hg hs).2
   . intro i e hi;obtain ⟨j,hj,hg⟩:=zcO i e hi;have hjm:=List.mem_of_getElem? hj;obtain ⟨hs,hnk⟩:=zdr j hjm;have zds:I.out base keep j=base+i:=by
      unfold Ifc.out;rw [hnk,zam];have h1:=q3e hjm;have:zcZ j keep=i:=(List.getElem?_inj (List.getElem?_eq_some_iff.1 h1).1 hkn).1 (h1.trans hj.symm);rw [this]
     obtain ⟨ho,hor⟩:=zb2 j e hg hs;refine ⟨ho,zds▸hor,?_⟩;obtain ⟨e0,l,he,he0,hl⟩:=zfj j e hg;refine ⟨l,by rw [← zds,zbb j hs]; exact hl,.inl ?_⟩
     rcases hH2.fresh j _ l he he0 hl with h1 | ⟨k,E,lk,hk1,hko,hk2,hk3⟩
     . exact h1
     . exfalso;have hkt:=ht1 k E hk1 hko;obtain ⟨i3,hi3⟩:=List.mem_iff_getElem?.1 hkt;obtain ⟨e3,_,hg3⟩:=hout.sets i3 k hi3;obtain ⟨e4,l4,he4,ho4,hl4⟩:=zfj k e3 hg3;obtain ⟨_,l2,_,_,hb2,hv2,hkl⟩:=hown k hkt;rw [hb2] at hk2; cases hk2;rw [hle _ _ hv2] at hl4; cases hl4;refine hH2.sep k j _ _ lk l he4 he ho4 he0 ?_ (hle _ _ hv2) hl hk3;have:=hk j hjm; omega
   . intro i j l l' hij hi hj hl hl';rw [zcj] at hi hj;have hone:∀ i,i<keep.length->∀ l,βb (base+i)=some l->∃ k,keep[i]? = some k/\β'' k=some l:=by
      intro i hi l hl;have hl:(if base<=base+i/\base+i<base+keep.length then (keep[base+i - base]?).bind β'' else β (base+i))=some l:=hl
      rw [if_pos (by omega),show base+i - base=i from by omega,List.getElem?_eq_getElem hi] at hl
      exact ⟨_,List.getElem?_eq_getElem hi,hl⟩
     obtain ⟨k1,hk1,hb1⟩:=hone i hi l hl;obtain ⟨k2,hk2,hb2⟩:=hone j hj l' hl';obtain ⟨n1,_,hg1⟩:=hout.news i k1 hk1;obtain ⟨n2,_,hg2⟩:=hout.news j k2 hk2;obtain ⟨e1,_,he1,ho1,_⟩:=zfj k1 n1 hg1;obtain ⟨e2,_,he2,ho2,_⟩:=zfj k2 n2 hg2;refine hH2.sep k1 k2 _ _ l l' he1 he2 ho1 ho2 (fun h => ?_) hb1 hb2;subst h;exact hij ((List.getElem?_inj (List.getElem?_eq_some_iff.1 hk1).1 hkn).1 (hk1.trans hk2.symm))
def Ifc.zkP (I:Ifc) (base:Nat) (r:zaH) (v:SV) (H:List SO):Prop:=∃ keep:List Nat,(∀ j∈keep,I.names.length<=j)/\keep.Nodup/\I.zde base keep r v H
end
noncomputable section
theorem quu {c:Cfg} {O:Nat->Prop} {w0 w:World} {β:Val} {H:List SO} {base:Nat} {f:FuncId} {vs:List Value} (hH:HeapRel0 c.P O w0 β H w)
  (I:Ifc) (hgl:∀ g j,c.glob g=some j->I.known j=true/\∃ l,β (I.big j)=some l/\l.blk=g/\l.off=0) (ha:SV.zal β (SV.zbJ I.big I.args)=some vs) (hI:I.zbQ H) {r:zaH}
  (hr:Runs c f I.args I.ents (I.zkP base r)):qtb c.P H β w base f vs r:=by
 refine qb1 hH I hgl ha hI (qpb I.ents 0) (fun j E h ho=>(q7d _ _ _).2 ⟨j,E,by omega,h,ho⟩) (fun j hj => ?_) (qvf _ _) hr.1 fun hH' hG ha'=>(hr.2 _ _ _ _ _ hH' hG ha').mono fun e w' zbL => ?_
 . obtain ⟨i,E,h,h',ho⟩:=(q7d _ _ _).1 hj;exact ⟨E,by rw [h,Nat.zero_add]; exact h',ho⟩
 . obtain ⟨v,H',x,β',he,⟨keep,hk,hkn,h⟩,hle,hv,hH2⟩:=zbL;exact ⟨v,H',x,β',he,⟨keep,hk,hkn,h.val,h.uv,h.sets.length,h.sets.get,h.news.length,h.news.get⟩,hle,hv,hH2⟩
end
end Go.Sim
namespace Go.Proofs.YtbhlngmhgplepaaDoor.Aes
noncomputable section
open Go.Sim
open Go.Proofs
variable {α:Type}
def zek (l:List Pr) (p:Pr):List Pr:=l.takeWhile (fun q=>decide (zdh q p))++p::l.dropWhile (fun q=>decide (zdh q p))
theorem q0c (x y:ByteArray):(twS x y).ok:=⟨Nat.le_refl _,by show (2:Nat)<=_; omega⟩
theorem zd6 {x y:ByteArray}:zeG (twS x y)↔zbl x/\zbl y:=by
 constructor
 . intro h;exact ⟨h 0 (by show (0:Nat)<2; omega),h 1 (by show (1:Nat)<2; omega)⟩
 . rintro ⟨h1,h2⟩ i hi;have hi:i<2:=hi;rcases (show i=0\/i=1 by omega) with rfl | rfl
   . exact h1
   . exact h2
theorem qu5 {p:Prop} (h:¬ p):(!cB p)=true:=by rw [q8b h]; rfl
theorem qiw {p:Prop} (h:p):(!cB p)=false:=by rw [qrc h]; rfl
def zgr (x y:ByteArray):Bool:=cB (zbl x/\zbl y/\x≠y)
end
noncomputable section
open Go.Sim
open Go.Proofs
variable {α:Type}
end
noncomputable section
open Go.Sim
open Go.Proofs
variable {α:Type}
def vBo:MSh:=⟨false,[.b]⟩
section
variable (es:List MapEntry) (c:Nat) (V:Nat->Value) (N n:Nat) (b:Bool) (k:Nat) (i:Nat) (J:zaQ) (z:Nat->Nat->Nat)
def agG:Prop:=zdG es c/\es.length<=1000000
def srL:List Pr:=zbS zby (q5c es)
def cF (l:List Pr) (j:Nat):ByteArray:=zab (Nat.beq (j % 2) 0) (prN l (j / 2)).1 (prN l (j / 2)).2
end
end
noncomputable section
open Go.Sim
open Go.Proofs
open Go.Sort
variable {α:Type}
def q7o (v:SV):Option Nat:=match v with
 | .ptr ⟨nm,.lit 0⟩=>some nm
 | _=>none
theorem qbe {v:SV} {nm:Nat} (h:q7o v=some nm):v=.ptr ⟨nm,.lit 0⟩:=by
 unfold q7o at h;split at h
 . cases h; rfl
 . cases h
def q8o (k:MSh):Bool:=match k with
 | ⟨false,[.b]⟩=>true
 | _=>false
theorem qki {k:MSh} (h:q8o k=true):k=vBo:=by
 unfold q8o at h;split at h
 . rfl
 . cases h
end
noncomputable section
open Go.Sim
open Go.Proofs
variable {α:Type}
def rwA (V:Nat->Value) (N:Nat):SO:=.row (.raw V (N * 3))
section
variable (V:Nat->Value) (N n k:Nat) (m:Int) (i:Nat) (J:zaQ) (z:Nat->Nat->Nat)
def shT (st:Option (Nat × Nat)):Tree:=qka (zc2.at st) 20000 6 [slP 0 n k,.int .i64 (.sym m)] [rwA V N]
def shZ:Tree:=qka zc2 20000 6 [.zad,.int .i64 (.sym m)] []
def shC:Cut:=⟨q0b (qub (shT V N n k m (some (1,3))) [false]).frames [[(0,slP 0 n k),(5,.int .i64 (.sym i))]],[.ent (rwA V N)]⟩
def shS (st:Option (Nat × Nat)):Tree:=za9 (zc2.at st) 20000 ((shC V N n k m i).fill J)
def aFr (i:Nat):ByteArray:=zd5 (V (0+i * 3+1))
def aTo (i:Nat):ByteArray:=zd5 (V (0+i * 3+2))
def shA (j:Nat) (q:List Prop):List Prop:=((0:Int)<=(i:Int)/\(i:Int)<(n:Int))::(0+i * 3+j<N * 3)::zdb .s (V (0+i * 3+j))::q
theorem jig:za4 [] (shT V N n k m none) [true]=([decide ((n:Int) > m)=true],some (.bool (.lit false),[])):=by kernel_rfl
theorem jjg:za4 [] (shZ m) [false]=([decide ((0:Int) > m)=false],some (.bool (.lit true),[])):=by kernel_rfl
theorem jkg:za4 [] (shZ m) [true]=([decide ((0:Int) > m)=true],some (.bool (.lit false),[])):=by kernel_rfl
theorem jlg:zaq [] (shC V N n k m 0) [0] (shT V N n k m (some (1,3))) [false] z=([decide ((n:Int) > m)=false],some (.inr (qva [(0,5,.int .i64 (.lit 0))] [] (qja [0] 1 (shC V N n k m 0))))):=by kernel_rfl
theorem jmg:zaq [] (shC V N n k m i) [0] (shS V N n k m i J (some (1,3))) [true,false,false] z=((decide ((i:Int)<(n:Int))=true)::shA V N n i 1 ((decide (((aFr V i).size:Int) > 60)=false)::shA V N n i 2 [decide (((aTo V i).size:Int) > 60)=false,qna ((i:Int)+1)]),some (.inr (qja [0] 1 (shC V N n k m (i+1))))):=by kernel_rfl
theorem zij:zaq [] (shC V N n k m i) [0] (shS V N n k m i J none) (true::zba true 8) z=((decide ((i:Int)<(n:Int))=true)::shA V N n i 1 (zba (decide (((aFr V i).size:Int) > 60)=true) 8),noR):=by kernel_rfl
theorem zii:zaq [] (shC V N n k m i) [0] (shS V N n k m i J none) [true,false,true] z=((decide ((i:Int)<(n:Int))=true)::shA V N n i 1 ((decide (((aFr V i).size:Int) > 60)=false)::shA V N n i 2 [decide (((aTo V i).size:Int) > 60)=true]),noR):=by kernel_rfl
theorem jzj:zaq [] (shC V N n k m i) [0] (shS V N n k m i J none) [false] z=([decide ((i:Int)<(n:Int))=false],zgD):=by kernel_rfl
theorem qiz (j:Nat):zab (qua 1 [0] (shC V N n k m i) (shC V N n k m j)) (zaO qpa (shC V N n k m j).heap) false=true:=by kernel_rfl
theorem j0j:(((shC V N n k m i).frames[0]?).bind fun p=>p.tmps[5]?)=some (some (.int .i64 (.sym i))):=by kernel_rfl
end
def zfJ (V:Nat->Value) (n:Nat):Prop:=∀ i,i<n->(∃ z,V (0+i * 3)=.int .i64 z)/\V (0+i * 3+1)=.string (aFr V i)/\V (0+i * 3+2)=.string (aTo V i)
def Pw.okA (t:Pw):Prop:=t.n<=t.N/\zfJ t.V t.n
def shP (t:Pw) (m:Int):Prop:=(t.n:Int)<=m/\∀ i,i<t.n->(aFr t.V i).size<=60/\(aTo t.V i).size<=60
theorem jng {t:Pw} (k:Nat) {m:Int} (ht:t.okA) (hm:(t.n:Int)<=m) (hz:t.n<=1000000):Runs zc2 6 [slP 0 t.n k,.int .i64 (.sym m)] [rwA t.V t.N] fun v _=>q7k (cB (shP t m)) v:=by
 obtain ⟨h1,h2⟩:=ht;have hA:∀ {i j:Nat} {q:List Prop},i<t.n->(j=1\/j=2)->(∀ p∈q,p)->∀ p∈shA t.V t.N t.n i j q,p:=fun {i j q} hi hj hq=>by
  obtain ⟨_,h3,h4⟩:=h2 i hi;refine zaa ⟨by omega,by omega⟩ (zaa (by omega) (zaa ?_ hq))
  rcases hj with rfl | rfl
  . rw [h3]; exact zgv _
  . rw [h4]; exact zgv _
 refine qom qui (shC t.V t.N t.n k m) (fun i=>(aFr t.V i).size<=60/\(aTo t.V i).size<=60) t.n (fun g nm hg=>by cases hg) (fun Q hQ => ?_) (fun i hi hp J Q hQ => ?_) (fun i hi hp J Q => ?_) (fun hp J Q => ?_)
 . refine qfd (some (1,3)) 20000 0 hQ (jlg t.V t.N t.n k m) (qiz t.V t.N t.n k m 0 0) (fun q hq p u hp hu => ?_) (fun e he=>by cases he) (zaa (decide_eq_false (by omega)) qaa)
   obtain rfl:q=(0,5,.int .i64 (.lit 0)):=by simpa using hq
   exact q2a (j0j t.V t.N t.n k m 0) hp hu (q6a rfl)
 . exact q1a (some (1,3)) 20000 (i+1) hQ (jmg t.V t.N t.n k m i J) (qiz t.V t.N t.n k m i (i+1)) (zaa (decide_eq_true (by omega)) (hA hi (.inl rfl) (zaa (decide_eq_false (by omega)) (hA hi (.inr rfl) (zaa (decide_eq_false (by omega)) (zaa ⟨by omega,by omega⟩ qaa))))))
 . by_cases c:(aFr t.V i).size<=60
   . have c2:¬ (aTo t.V i).size<=60:=fun h=>hp ⟨c,h⟩;exact qza none 20000 (zii t.V t.N t.n k m i J) (zaa (decide_eq_true (by omega)) (hA hi (.inl rfl) (zaa (decide_eq_false (by omega)) (hA hi (.inr rfl) (zaa (decide_eq_true (by omega)) qaa))))) fun H _=>⟨_,rfl,(q8b fun h=>hp (h.2 i hi)).symm⟩
   . exact qza none 20000 (zij t.V t.N t.n k m i J) (zaa (decide_eq_true (by omega)) (hA hi (.inl rfl) (qqb (decide_eq_true (by omega)) 8))) fun H _=>⟨_,rfl,(q8b fun h=>hp (h.2 i hi)).symm⟩
 . exact qza none 20000 (jzj t.V t.N t.n k m t.n J) (zaa (decide_eq_false (by omega)) qaa) fun H _=>⟨_,rfl,(qrc ⟨hm,hp⟩).symm⟩
end
end Go.Proofs.YtbhlngmhgplepaaDoor.Aes
namespace Go.Sim
noncomputable section
theorem qce {P:Program} {O:Nat->Prop} {w0 w:World} {β:Val} {H:List SO} {base:Nat} {f:FuncId} {vs:List Value} (hH:HeapRel0 P O w0 β H w) {n:Nat} {k v k' v':MSh} {es:List MapEntry} {c:Nat} (hn:H[n]? = some (.obj (.zaU k v es c))) {r:SV} {news:List SO}
  (h:qtb P H β w base f vs ⟨r,[(n,.obj (.zaU k' v' es c))],news⟩):qtb P H β w base f vs ⟨r,[],news⟩:=by
 intro hf;obtain ⟨_,h2⟩:=h hf;have hx:∃ l,β n=some l/\w.heap[l.blk]? = some (.map es.toArray c):=by
  obtain ⟨l,x,hl,_,hd,hh⟩:zaz P β w n (.obj (.zaU k v es c)):=(hH.entries n _ hn).zfL rfl;exact ⟨l,hl,by rw [hh,(zaW.za2.1 hd).2]⟩
 obtain ⟨l,hl,hh⟩:=hx;have key:∀ {β':Val} {w':World},Eff P β w base [(n,.obj (.zaU k' v' es c))] news β' w'->Eff P β w base [] news β' w':=fun {β' w'} hE=>by
  obtain ⟨l',x',hl',_,hd',hh'⟩:zaz P β' w' n (.obj (.zaU k' v' es c)):=hE.turned n _ (by simp)
  have e1:l'=l:=by rw [hE.le _ _ hl] at hl'; exact (Option.some.inj hl').symm
  rw [(zaW.za2.1 hd').2,e1] at hh';refine ⟨hE.le,hE.os,hE.tape,hE.output,hE.drawn,hE.size,hE.dom,fun b hb _ _ => ?_,fun _ _ _ h=>(by cases h),fun _ _ h=>(by cases h),fun i e he => ?_,hE.apart⟩
  . by_cases c':l.blk=b
    . rw [← c',hh,hh']
    . exact hE.frame b hb (fun m e l2 hm hl2=>by
       have hm:=List.mem_singleton.1 hm;cases hm;rw [hl] at hl2; cases hl2;exact c') fun m m' hm=>by
       have hm:=List.mem_singleton.1 hm;cases hm
  . obtain ⟨h1,h2,l2,h3,h4⟩:=hE.made i e he;refine ⟨h1,h2,l2,h3,.inl ?_⟩;rcases h4 with h4 | ⟨m,l3,h5,_⟩
    . exact h4
    . have h5:=List.mem_singleton.1 h5;cases h5
 refine ⟨fun _ _ h=>(by cases h),?_⟩
 rcases h2 with ⟨hb,hc⟩ | ⟨v1,w1,β1,h3,h4,h5⟩
 . exact .inl ⟨hb,hc.mono fun e w' ⟨v1,β1,h3,h4,h5⟩=>⟨v1,β1,h3,h4,key h5⟩⟩
 . exact .inr ⟨v1,w1,β1,h3,h4,key h5⟩
end
end Go.Sim
namespace Go.Proofs.YtbhlngmhgplepaaDoor.Aes
noncomputable section
open Go.Sim
open Go.Proofs
variable {α:Type}
def q9o (e:SO):Option SV:=match e with
 | .own (.lst [v]) _ _=>some v
 | .row (.lst [v])=>some v
 | _=>none
theorem qli {e:SO} {v:SV} (h:q9o e=some v):e=.row (.lst [v])\/∃ w el,e=.own (.lst [v]) w el:=by
 unfold q9o at h;split at h
 . cases h; exact .inr ⟨_,_,rfl⟩
 . cases h; exact .inl rfl
 . cases h
theorem qpe {f:Nat->Nat} {v v':SV} {e:SO} (h:e=.row (.lst [v'])\/∃ w el,e=.own (.lst [v']) w el) (hv:v'=v.ren f):zcb f (.row (.lst [v])) e:=by
 subst hv;exact ⟨_,h,Cells.Imp.front (Cells.zaR rfl)⟩
section
variable (es:List MapEntry) (c:Nat) (x y:ByteArray)
def mtT:Tree:=qka zc2 4000 17 [.ptr ⟨0,.lit 0⟩,.str (.sym x),.str (.sym y)] [.row (.lst [.map 1]),.obj (.zaU kPr vBo es c)]
def mtZ:Tree:=qka zc2 4000 17 [.ptr ⟨0,.lit 0⟩,.str (.sym x),.str (.sym y)] [.row (.lst [.zau])]
def pK:Value:=.agg #[.string x,.string y]
theorem j1j:za4 [] (mtZ x y) []=([],some (.bool (.lit false),[])):=by kernel_rfl
theorem zjl:za4 [1] (mtT es c x y) [false]=([za5 es (pK x y)=false],some (.bool (.lit false),[some (.obj (.zaU kPr vBo es c))])):=by kernel_rfl
theorem j2j:za4 [1] (mtT es c x y) [true]=([za5 es (pK x y)=true],some (.bool (.sym (zeA (zbM es (pK x y)))),[some (.obj (.zaU kPr vBo es c))])):=by kernel_rfl
end
def mtB (es:List MapEntry) (x y:ByteArray):Bool:=za5 es (pK x y) && zeA (zbM es (pK x y))
def zjm:za3:=fun args H _=>q4o args fun p xv yv=>zah (zb0 xv) (.stuck 7900) fun x=>zah (zb0 yv) (.stuck 7900) fun y=>zah (q7o p) (.stuck 7901) fun m=>zah (nth H m) (.stuck 7902) fun e=>zah (q9o e) (.stuck 7903) fun s =>
 zab (qkj s) (.ok ⟨.bool (.lit false),[],[]⟩) (zah (qkm s) (.stuck 7904) fun mm=>zah (nth H mm) (.stuck 7905) fun e=>match e with
  | .obj (.zaU k v es c)=>zab (qnm k) (zab (q8o v) (zab (qmg [m,mm]) (.ok ⟨.bool (.sym (mtB es x.den y.den)),[],[]⟩) (.stuck 7906)) (.stuck 7906)) (.stuck 7906)
  | _=>.stuck 7907)
theorem mtOK:qeb Tryd.prog 17 zjm:=by
 intro glob O w0 β H w base args vs hH hG ha;refine q1h fun p xv yv hv=>qfa fun x hx=>qfa fun y hy=>qfa fun m hm=>qfa fun e he=>qfa fun s hs => ?_
 rw [hv,qbe hm,q8a hx,q8a hy] at ha;have ha:=qoa (.refl _) (qoa (q7b (t:=.sym x.den) rfl) (qoa (q7b (t:=.sym y.den) rfl) qdc)) _ _ ha;generalize x.den=x at ha ⊢;generalize y.den=y at ha ⊢;have hs:=qli hs;rw [qda] at he;refine R.Sat.zab (fun hnl => ?_) fun _=>qfa fun mm hmm=>qfa fun e2 he2 => ?_
 . rw [qqf hnl] at hs
   let I:Ifc:=⟨[m],[.row (.lst [.zau])],[.ptr ⟨0,.lit 0⟩,.str (.sym x),.str (.sym y)]⟩
   exact qcb qui 4000 hH I (by intro g j hg; cases hg) ha (Ifc.zbV (by simp [I]) rfl ⟨⟨⟨_,he,qpe hs rfl⟩,rfl⟩,trivial⟩) [] (by simp) (by simp) (q0a (j1j x y) qaa fun H2 _=>⟨.refl _,rfl,trivial,trivial⟩)
 . split
   . rename_i k v es c;refine qgb fun hk=>qgb fun hv=>qgb fun hd => ?_
     have hd:=qtd hd;rw [qhf hmm] at hs;rw [qda] at he2;rw [qvg hk,qki hv] at he2;refine qce (k':=kPr) (v':=vBo) hH he2 ?_
     let I:Ifc:=⟨[m,mm],[.row (.lst [.map 1]),.obj (.zaU kPr vBo es c)],[.ptr ⟨0,.lit 0⟩,.str (.sym x),.str (.sym y)]⟩
     have hF:I.zbQ H:=Ifc.zbV hd rfl ⟨⟨⟨_,he,qpe hs rfl⟩,rfl⟩,⟨⟨_,he2,_,rfl,fun _ _ h=>h⟩,rfl⟩,trivial⟩;have go:∀ {ds ps b},za4 [1] (mtT es c x y) ds=(ps,some (.bool b,[some (.obj (.zaU kPr vBo es c))]))->(∀ p∈ps,p)->b.den=mtB es x y->qtb Tryd.prog H β w base 17 vs ⟨.bool (.sym (mtB es x y)),[(mm,.obj (.zaU kPr vBo es c))],[]⟩:=fun {ds ps b} hr hp hb =>
      qcb qui 4000 hH I (by intro g j hg; cases hg) ha hF [] (by simp) (by simp) (q0a hr hp fun H2 hH2=>⟨fun γ x hx=>by
       have hx:some (Value.bool b.den)=some x:=hx;rw [hb] at hx;exact hx,rfl,⟨⟨rfl,.inr ⟨_,_,(List.cons.inj hH2).1,rfl,fun _ _ h=>h,rfl⟩⟩,trivial⟩,trivial⟩)
     cases hh:za5 es (pK x y) with
     | true=>exact go (j2j es c x y) (zaa hh qaa) (by unfold mtB; rw [hh]; rfl)
     | false=>exact go (zjl es c x y) (zaa hh qaa) (by unfold mtB; rw [hh]; rfl)
   . trivial
end
end Go.Proofs.YtbhlngmhgplepaaDoor.Aes
namespace Go.Sim
noncomputable section
open Go.Proofs Go.Shelf
end
end Go.Sim
namespace Go.Proofs
noncomputable section
open Go.Shelf
end
end Go.Proofs
namespace Go.Proofs.YtbhlngmhgplepaaDoor.Aes
noncomputable section
open Go.Sim
open Go.Proofs
end
noncomputable section
open Go.Sim
open Go.Proofs
variable {α:Type}
def ntC (n:Nat) (a:α) (f:Nat->α):α:=Nat.rec (motive:=fun _=>α) a (fun k _=>f k) n
section
variable (V:Nat->Value) (N n k:Nat) (J:zaQ) (z:Nat->Nat->Nat)
variable (mn re:Bool) (es:List MapEntry) (c:Nat) (W:Nat->Value) (m i:Nat)
variable (X Y:ByteArray)
def rlN (b:Bool):Prop:=(!cB (zeG (twS X Y)))=b
def cTw (q:List Prop):List Prop:=(twS X Y).ok::rlN X Y false::(decide (X=Y)=false)::q
def zgy (o:Nat):List Prop:=ntC o ((twS X Y).ok::zba (rlN X Y true) 4) fun _=>[(twS X Y).ok,rlN X Y false,decide (X=Y)=true]
def zhQ (o:Nat):List Bool:=ntC o (zba true 4) fun _=>[false,true]
def fuP (l:List MapEntry) (b:Bool):Prop:=decide ((l.length:Int)>=1000)=b
def seN (names:List Nat) (q:Nat) (C:Cut):Option ((SV × List (Option SO)) ⊕ Seen):=some (.inr (qja names q C))
def tiK:List MapEntry:=zcI es c (pK X Y) (.bool true)
end
section
variable (V:Nat->Value) (N n k:Nat) (J:zaQ) (z:Nat->Nat->Nat) (re:Bool) (es:List MapEntry) (c:Nat) (W:Nat->Value) (m i:Nat)
def zeY (X Y:ByteArray):List MapEntry:=[⟨kyP (X,Y),.bool true,0⟩]
end
end
noncomputable section
open Go.Sim
open Go.Proofs
open Go.Sort
variable {α:Type}
def SoP (l:List Pr):Prop:=l.Pairwise fun a b=>¬ zdh b a
theorem qb2 (l:List Pr):SoP (zbS zby l):=by
 have h:=List.pairwise_mergeSort (le:=fun x y:Pr => !(ltOf zby) y x) (fun a b c h1 h2=>by
  simp only [Bool.not_eq_true'] at h1 h2 ⊢;exact ze7.ntrans _ _ _ h2 h1) (fun a b=>by
  simp only [Bool.or_eq_true,Bool.not_eq_true'];by_cases c:ltOf zby b a=false
  . exact .inl c
  . refine .inr ?_
    rw [zfu] at c ⊢;have c:zdh b a:=by simpa using c
    exact decide_eq_false fun k=>qqh _ (qgf c k)) l
 refine h.imp fun {a b} hab => ?_
 rw [zfu] at hab;simpa using hab
theorem qjz {l:List Pr} (h:SoP l):zbS zby l=l:=by
 unfold zbS;refine List.mergeSort_of_pairwise (h.imp fun {a b} hab => ?_);show (!(ltOf zby) b a)=true;rw [zfu]; simpa using hab
theorem zdQ {l:List Pr} {p x:Pr}:x∈zek l p↔x=p\/x∈l:=by
 have h:=List.takeWhile_append_dropWhile (p:=fun q=>decide (zdh q p)) (l:=l);unfold zek
 conv=>rhs; rw [← h]
 simp only [List.mem_append,List.mem_cons];constructor
 . rintro (h | h | h)
   . exact .inr (.inl h)
   . exact .inl h
   . exact .inr (.inr h)
 . rintro (h | h | h)
   . exact .inr (.inl h)
   . exact .inl h
   . exact .inr (.inr h)
theorem jsb (l:List Pr) (p:Pr):(zek l p).Perm (p::l):=by
 have h:=List.takeWhile_append_dropWhile (p:=fun q=>decide (zdh q p)) (l:=l);unfold zek;refine List.perm_middle.trans ?_
 rw [h]
theorem jog {l:List Pr} (p:Pr) (h:SoP l):SoP (zek l p):=by
 induction l with
 | nil=>exact List.pairwise_singleton _ _
 | cons a l ih =>
   obtain ⟨h1,h2⟩:=List.pairwise_cons.1 h;by_cases c:zdh a p
   . have e:zek (a::l) p=a::zek l p:=by
      unfold zek;rw [List.takeWhile_cons_of_pos (by simpa using c),List.dropWhile_cons_of_pos (by simpa using c)]
      rfl
     rw [e];refine List.pairwise_cons.2 ⟨fun b hb => ?_,ih h2⟩;rcases zdQ.1 hb with rfl | hb
     . exact fun k=>qqh _ (qgf c k)
     . exact h1 b hb
   . have e:zek (a::l) p=p::a::l:=by
      unfold zek;rw [List.takeWhile_cons_of_neg (by simpa using c),List.dropWhile_cons_of_neg (by simpa using c)]
      rfl
     rw [e];refine List.pairwise_cons.2 ⟨fun b hb => ?_,h⟩;rcases List.mem_cons.1 hb with rfl | hb
     . exact c
     . intro k;rcases qim a p with k1 | rfl | k1
       . exact c k1
       . exact h1 b hb k
       . exact h1 b hb (qgf k k1)
def zkM (re:Bool) (W:Nat->Value) (m:Nat) (l:List Pr):Prop:=zab re (l=[]) (PrV W m/\prL W m=l)
structure zdF (es:List MapEntry) (c:Nat):Prop where
 ok:zdG es c
 key:∀ e∈es,e.key=kyP (prK e.key)
 val:∀ e∈es,e.val=.bool true
 nd:(q5c es).Nodup
theorem zbc {K:Value} {e:MapEntry}:qvc K e=true↔e.key=K:=by unfold qvc; simp
theorem zbd {es:List MapEntry} (h:∀ e∈es,e.key=kyP (prK e.key)) {p:Pr}:za5 es (kyP p)=true↔p∈srL es:=by
 unfold srL;rw [zbq.mem_iff];unfold za5 q5c;rw [List.any_eq_true,List.mem_map];constructor
 . rintro ⟨e,he,hk⟩;refine ⟨e,he,?_⟩;rw [zbc.1 hk]; rfl
 . rintro ⟨e,he,hk⟩;exact ⟨e,he,zbc.2 (by rw [h e he,hk])⟩
theorem qvu {es:List MapEntry} (h:∀ e∈es,e.val=.bool true) {K:Value} (hk:za5 es K=true):zeA (zbM es K)=true:=by
 obtain ⟨j,e,_,_,_,h2,h3⟩:=qau hk;rw [h2,h e h3]; rfl
theorem zdF.ins {es:List MapEntry} {c:Nat} (h:zdF es c) {p:Pr} (hp:p ∉ srL es):zdF (zcI es c (kyP p) (.bool true)) (c+1)/\srL (zcI es c (kyP p) (.bool true))=zek (srL es) p:=by
 have hk:q5c (zcI es c (kyP p) (.bool true))=q5c es++[p]:=by unfold q5c zcI; rw [List.map_append]; rfl
 have hp':p ∉ q5c es:=fun k=>hp (by unfold srL; exact zbq.mem_iff.2 k)
 refine ⟨⟨⟨?_,fun e he => ?_⟩,fun e he => ?_,fun e he => ?_,?_⟩,?_⟩
 . unfold zcI;rw [List.map_append,List.nodup_append];refine ⟨h.ok.nd,by simp,fun a ha b hb => ?_⟩
   obtain ⟨e,he,rfl⟩:=List.mem_map.1 ha;have hb:b=c:=by simpa using hb
   have:=h.ok.lt e he;omega
 . rcases List.mem_append.1 he with he | he
   . have:=h.ok.lt e he; omega
   . obtain rfl:=List.mem_singleton.1 he;exact Nat.lt_succ_self c
 . rcases List.mem_append.1 he with he | he
   . exact h.key e he
   . obtain rfl:=List.mem_singleton.1 he;rfl
 . rcases List.mem_append.1 he with he | he
   . exact h.val e he
   . obtain rfl:=List.mem_singleton.1 he;rfl
 . rw [hk,List.nodup_append];refine ⟨h.nd,by simp,fun a ha b hb => ?_⟩
   obtain rfl:b=p:=by simpa using hb
   exact fun e=>hp' (e▸ha)
 . have e1:srL (zcI es c (kyP p) (.bool true))=zbS zby (zek (srL es) p):=by
    show zbS zby (q5c _)=_;rw [hk];refine qru ((List.perm_append_singleton p (q5c es)).trans ?_);exact ((List.Perm.cons p (zbq (l:=q5c es)).symm).trans (jsb (srL es) p).symm)
   rw [e1];exact qjz (jog p (qb2 _))
theorem qn8 {es:List MapEntry} {c:Nat} (h:zdF es c):(srL es).Nodup:=(zbq (l:=q5c es)).nodup_iff.2 h.nd
theorem zdF.one (p:Pr):zdF [⟨kyP p,.bool true,0⟩] 1/\srL [⟨kyP p,.bool true,0⟩]=[p]:=by
 refine ⟨⟨⟨by simp,fun e he => ?_⟩,fun e he => ?_,fun e he => ?_,by simp [q5c]⟩,?_⟩
 . obtain rfl:=List.mem_singleton.1 he; exact Nat.zero_lt_one
 . obtain rfl:=List.mem_singleton.1 he; rfl
 . obtain rfl:=List.mem_singleton.1 he; rfl
 . exact qjz (l:=[p]) (List.pairwise_singleton _ _)
theorem qc2 (es:List MapEntry):(srL es).length=es.length:=by
 unfold srL;rw [zbq.length_eq]; simp [q5c]
end
noncomputable section
open Go.Sim
open Go.Proofs
variable {α:Type}
structure LwS where
 mn:Bool
 re:Bool
 es:List MapEntry
 c:Nat
 W:Nat->Value
 m:Nat
 i:Nat
def LwS.fit (a:LwS) (l:List Pr):Prop:=zkM a.re a.W a.m l/\l.length<=1000/\zab a.mn (l=[]/\a.re=true) (zdF a.es a.c/\l=srL a.es)
inductive Two (X Y:ByteArray):Nat->Prop
 | bad:zgr X Y=false->(∀ p∈zgy X Y 0,p)->Two X Y 0
 | same:zgr X Y=false->(∀ p∈zgy X Y 1,p)->Two X Y 1
 | ok:zgr X Y=true->(∀ {q:List Prop},(∀ p∈q,p)->∀ p∈cTw X Y q,p)->Two X Y 2
theorem qd2 (X Y:ByteArray):∃ o,Two X Y o:=by
 by_cases h:zbl X/\zbl Y
 . have h1:=qiw (zd6.2 h);by_cases h2:X=Y
   . exact ⟨1,.same (q8b fun k=>k.2.2 h2) (zaa (q0c X Y) (zaa h1 (zaa (decide_eq_true h2) qaa)))⟩
   . exact ⟨2,.ok (qrc ⟨h.1,h.2,h2⟩) fun hq=>zaa (q0c X Y) (zaa h1 (zaa (decide_eq_false h2) hq))⟩
 . exact ⟨0,.bad (q8b fun k=>h ⟨k.1,k.2.1⟩) (zaa (q0c X Y) (qqb (qu5 fun k=>h (zd6.1 k)) 4))⟩
section
variable {V:Nat->Value} {N n:Nat} (k:Nat)
variable {k}
theorem j3j (N:Nat):N * 3 / 3=N:=by omega
end
end
noncomputable section
open Go.Sim
open Go.Proofs
variable {α:Type}
theorem qwu {c:Cfg} (hc:zaC c) (C:Nat->Cut) (p:Nat->Prop) (n:Nat) {D:SV->List SO->Prop} {f:FuncId} {args:List SV} {H:List SO} (hgl:∀ g nm,c.glob g=some nm->nm<H.length)
  (h0:∀ Q:Nat->Prop,Q 0->q3k c H.length C Q D f args H)
  (h1:∀ i,i<n->p i->∀ J (Q:Nat->Prop),Q (i+1)->qlb c H.length C Q D ((C i).fill J))
  (h2:∀ i,i<n->¬ p i->(∀ j,j<i->p j)->∀ J (Q:Nat->Prop),qlb c H.length C Q D ((C i).fill J))
  (h3:(∀ j,j<n->p j)->∀ J (Q:Nat->Prop),qlb c H.length C Q D ((C n).fill J)):Runs c f args H D:=by
 refine q6d hc C (fun i=>i<=n/\∀ j,j<i->p j) (fun i=>n - i) hgl (h0 _ ⟨Nat.zero_le _,fun j hj=>by omega⟩) fun i hi J => ?_
 by_cases hin:i<n
 . by_cases hp:p i
   . refine h1 i hin hp J _ ⟨⟨by omega,fun j hj => ?_⟩,by omega⟩
     by_cases c:j<i
     . exact hi.2 j c
     . obtain rfl:j=i:=by omega
       exact hp
   . exact h2 i hin hp hi.2 J _
 . have e:i=n:=by have:=hi.1; omega
   subst e;exact h3 hi.2 J _
section
variable (t u:Ss) (k k2:Nat) (x:ByteArray) (i:Nat) (J:zaQ) (z:Nat->Nat->Nat)
def ixT (st:Option (Nat × Nat)) (v:SV) (H:List SO) (x:ByteArray):Tree:=qka (zcr.at st) 4000 41 [v,.str (.sym x)] H
def ixC:Cut:=⟨q0b (qub (ixT (some (1,3)) ((t.pl k).val 0) [(t.pl k).row] x) []).frames [[(0,(t.pl k).val 0),(1,.str (.sym x)),(6,(t.pl k).val 0),(7,.int .i64 (.sym (t.n:Int))),(8,.int .i64 (.sym i))]],[.ent t.row]⟩
theorem j4j:za4 [] (ixT none .zad [] x) []=([],some (.int .i64 (.lit (-1)),[])):=by kernel_rfl
theorem jpg:zaq [] (ixC t k x 0) [0] (ixT (some (1,3)) ((t.pl k).val 0) [(t.pl k).row] x) [] z=([],some (.inr (qva [(0,8,.int .i64 (.lit 0))] [] (qja [0] 1 (ixC t k x 0))))):=by kernel_rfl
theorem jqg:zaq [] (ixC t k x i) [0] (za9 (zcr.at (some (1,3))) 4000 ((ixC t k x i).fill J)) [true,false] z=(inS t i [decide (x=t.el i)=false,qna ((i:Int)+1)],some (.inr (qja [0] 1 (ixC t k x (i+1))))):=by kernel_rfl
theorem j5j:zaq [] (ixC t k x i) [0] (za9 (zcr.at none) 4000 ((ixC t k x i).fill J)) [true,true] z=(inS t i [decide (x=t.el i)=true],some (.inl (.int .i64 (.sym (i:Int)),[]))):=by kernel_rfl
theorem j6j:zaq [] (ixC t k x i) [0] (za9 (zcr.at none) 4000 ((ixC t k x i).fill J)) [false] z=([decide ((i:Int)<(t.n:Int))=false],some (.inl (.int .i64 (.lit (-1)),[]))):=by kernel_rfl
theorem qkz (j:Nat):zab (qua 1 [0] (ixC t k x i) (ixC t k x j)) (zaO qpa (ixC t k x j).heap) false=true:=by kernel_rfl
theorem j7j:(((ixC t k x i).frames[0]?).bind fun p=>p.tmps[8]?)=some (some (.int .i64 (.sym i))):=by kernel_rfl
end
def inP (t:Ss) (x:ByteArray):Prop:=∃ i,i<t.n/\t.at i=x
def zfW (t:Ss) (x:ByteArray):Int:=match (List.range t.n).find? fun i=>cB (t.at i=x) with
 | some i=>i
 | none => -1
theorem zbR {p:Prop}:cB p=true↔p:=⟨fun h=>@of_decide_eq_true _ (Classical.propDecidable _) h,qrc⟩
theorem qfo {t:Ss} {x:ByteArray} (h:∀ i,i<t.n->t.at i≠x):zfW t x = -1:=by
 unfold zfW;rw [List.find?_eq_none.2 fun i hi hc=>h i (List.mem_range.1 hi) (zbR.1 hc)]
theorem qxu {t:Ss} {x:ByteArray} {i:Nat} (hi:i<t.n) (h:t.at i=x) (hm:∀ j,j<i->t.at j≠x):zfW t x=(i:Int):=by
 unfold zfW;rw [List.find?_range_eq_some.2 ⟨zbR.2 h,List.mem_range.2 hi,fun j hj=>by rw [q8b (hm j hj)]; rfl⟩]
theorem jrg {t:Ss} (k:Nat) (x:ByteArray) (ht:t.ok):Runs zcr 41 [(t.pl k).val 0,.str (.sym x)] [t.row] fun v _=>∃ n,v=.int .i64 n/\n.den=zfW t x:=by
 have hn:=ht.2;refine qwu q5e (ixC t k x) (fun i=>t.at i≠x) t.n (fun g nm hg=>by cases hg) (fun Q hQ => ?_) (fun i hi hp J Q hQ => ?_) (fun i hi hp hm J Q => ?_) (fun hp J Q => ?_)
 . refine qfd (some (1,3)) 4000 0 hQ (jpg t k x) (qkz t k x 0 0) (fun q hq p u hp hu => ?_) (fun e he=>by cases he) qaa
   obtain rfl:q=(0,8,.int .i64 (.lit 0)):=by simpa using hq
   exact q2a (j7j t k x 0) hp hu (q6a rfl)
 . exact q1a (some (1,3)) 4000 (i+1) hQ (jqg t k x i J) (qkz t k x i (i+1)) (qdg ht hi (zaa (decide_eq_false (by rw [t.zc0]; exact fun h=>hp h.symm)) (zaa ⟨by omega,by omega⟩ qaa)))
 . have hp:t.at i=x:=Classical.not_not.1 hp;exact qza none 4000 (j5j t k x i J) (qdg ht hi (zaa (decide_eq_true (by rw [t.zc0]; exact hp.symm)) qaa)) fun H _=>⟨_,rfl,(qxu hi hp hm).symm⟩
 . exact qza none 4000 (j6j t k x t.n J) (zaa (decide_eq_false (by omega)) qaa) fun H _=>⟨_,rfl,(qfo hp).symm⟩
end
noncomputable section
open Go.Sim
open Go.Proofs
variable {α:Type}
theorem qlz {base:Nat} {I:Ifc} {t:Int} {v:SV} {H:List SO} (ho:qpb I.ents 0=[]) (h:∃ n,v=.int .i64 n/\n.den=t):I.zde base [] ⟨.int .i64 (.sym t),[],[]⟩ v H:=by
 obtain ⟨n,rfl,rfl⟩:=h;refine ⟨fun β x hx=>hx,rfl,?_,trivial⟩;rw [ho];trivial
theorem j8j {g:FuncId->Option za3} {f:FuncId} {O:Nat->Prop} {w0 w:World} {β:Val} {H:List SO} {base:Nat} {vs:List Value} (hH:HeapRel0 Tryd.prog O w0 β H w) {v:SV} {t:Ss} {nm:Nat} {rest:List SV} (ha:SV.zal β (v::rest)=some vs)
  (ht:∀ g,∃ e',H[nm]? = some e'/\Taken g t.row e') (hi:v.Imp (t.val nm)) (hr:∀ f,SV.zbJ f rest=rest) (hu:∀ p,SV.zbi p rest=true) {r:zaH} {D:SV->List SO->Prop} (hrun:∀ k,Runs (qhc g) f ((t.pl k).val 0::rest) [t.row] D)
  (hD:∀ k v H,D v H->(⟨[nm],[t.row],(t.pl k).val 0::rest⟩:Ifc).zde base [] r v H) :
  qtb Tryd.prog H β w base f vs r:=by
 obtain ⟨x,ys,hx,hys,rfl⟩:=zae.1 ha;obtain ⟨k,_,hx'⟩:=Ss.zey (hi _ _ hx);refine qqc (c:=qhc g) hH ⟨[nm],[t.row],(t.pl k).val 0::rest⟩ (by intro g j hg; cases hg) ?_ (Ifc.zbV (by simp) ?_ ⟨⟨ht _,t.zd7 _⟩,trivial⟩) [] (by simp) (by simp) (qec (hrun k) fun v H h=>hD k v H h)
 . show SV.zal β (((t.pl k).val 0).ren _::SV.zbJ _ rest)=_;rw [Ss.zex,hr]; exact zae.2 ⟨_,_,hx',hys,rfl⟩
 . show (((t.pl k).val 0).uses _ && SV.zbi _ rest)=true;rw [Ss.zd4 _ _ _ rfl,hu]; rfl
def inS':za3:=fun args H _=>quf args fun v xv=>zah (zb0 xv) (.stuck 7811) fun x=>q6o H v fun t _=>.need t.ok (.ok (bR (inP t x.den)))
def ixS:za3:=fun args H _=>quf args fun v xv=>zah (zb0 xv) (.stuck 7812) fun x=>q6o H v fun t _=>.need t.ok (.ok ⟨.int .i64 (.sym (zfW t x.den)),[],[]⟩)
theorem ixOK:qeb Tryd.prog 41 ixS:=by
 intro glob O w0 β H w base args vs hH hG ha;refine qed fun v xv hv=>qfa fun x hx => ?_
 rw [hv,q8a hx] at ha;have ha:=qoa (.refl v) (qoa (q7b (t:=.sym x.den) rfl) qdc) _ _ ha;refine q5j (fun hn=>fun _ => ?_) fun t nm ht hi=>fun hok=>j8j (g:=qkc rlL) hH ha ht hi (fun _=>rfl) (fun _=>rfl) (fun k=>jrg k x.den hok) fun k v H h=>qlz rfl h;rw [hn] at ha;exact qcb q5e 4000 hH ⟨[],[],[.zad,.str (.sym x.den)]⟩ (by intro g j hg; cases hg) ha (Ifc.zbV (by simp) rfl trivial) [] (by simp) (by simp) (q0a (j4j x.den) qaa fun H2 _=>qlz rfl ⟨_,rfl,(qfo fun i hi=>by have:i<0:=hi; omega).symm⟩)
def rlL2:List (FuncId × za3):=(41,ixS)::rlL
theorem j9j:∀ y∈rlL2,qeb Tryd.prog y.1 y.2:=zcu ixOK jwd
end
end Go.Proofs.YtbhlngmhgplepaaDoor.Aes
namespace Go.Sim
noncomputable section
open Go
def jak (β:Val):List SF->List SF->Prop
 | s::r,s'::r'=>(s'.fn=s.fn/\s'.todo=s.todo/\s'.defers=s.defers/\s'.roundOf=s.roundOf/\∀ vs,SV.zal β s.tmps=some vs->SV.zal β s'.tmps=some vs)/\jak β r r'
 | [],[]=>True
 | _,_=>False
end
end Go.Sim
namespace Go.Proofs.YtbhlngmhgplepaaDoor.Aes
noncomputable section
open Go.Sim
open Go.Proofs
variable {α:Type}
def ziM:List (FuncId × za3):=[(68,soSm)]
theorem qo8:∀ y∈ziM,qeb Tryd.prog y.1 y.2:=all1 soOK
def zcc:Cfg:={ qhc (qkc ziM) with zej:=some 2 }
theorem jsg:zaC zcc:=let h:=qpc qo8; ⟨h.prog,h.sums,h.zet⟩
def kS:MSh:=⟨false,[.s]⟩
def vV:MSh:=⟨false,[.v]⟩
def zev (L z:Nat):Nat:=if L<=z then z else L
def rdA (m:Mem) (A:Addr):ByteArray:=zd5 ((m.cell A).getD undef)
def ldM (m:Mem) (A:Addr) (q:List Prop):List Prop:=qc3 (.pointer (some A))::((m.cell A).isSome=true)::zdb .s ((m.cell A).getD undef)::q
section
variable (es:List MapEntry) (c:Nat) (x y:ByteArray) (m:Mem)
def sT (st:Option (Nat × Nat)) (n:Nat):Tree:=qka (zcc.at st) n 35 [.ptr ⟨0,.lit 0⟩,.str (.sym x),.str (.sym y)] [.row (.lst [.map 1]),.obj (.zaU kPr vBo es c),.mem m]
def zhl:SS:=qub (sT es c x y m (some (2,2)) 1000) [false]
def tgE (j:Nat):HP:=.ent ((nth (zhl es c x y m).heap j).getD .gone)
def tgF (j:Nat):List SV:=zah (nth (zhl es c x y m).frames j) [] fun f=>f.tmps
variable (es2:List MapEntry) (c2:Nat) (m2:Mem) (i:Nat) (J:zaQ)
def tgC:Cut:=⟨q0b (zhl es c x y m).frames [app (qji (tgF es c x y m 0) [0,1,5,6]) [(7,.int .i64 (.sym i))],qji (tgF es c x y m 1) [1,2,6,7]],
 [tgE es c x y m 0,tgE es c x y m 1,.ent (.mem m2),.ent (.obj (.zaU kS vV es2 c2)),tgE es c x y m 4,tgE es c x y m 5,tgE es c x y m 6,tgE es c x y m 7,qes (nth (zhl es c x y m).heap 8) (qji (tgF es c x y m 1) [1,2,6,7])]⟩
def tgS (st:Option (Nat × Nat)) (n:Nat):Tree:=za9 (zcc.at st) n ((tgC es c x y m es2 c2 m2 i).fill J)
def tgA:ByteArray:=cF (srL es) (0+i * 2+0)
def tgB:ByteArray:=cF (srL es) (0+i * 2+1)
def tgV:Value:=zbM es2 (.string (tgA es i))
variable (z:Nat->Nat->Nat)
def tg9:List Nat:=[0,1,2,3,4,5,6,7,8]
def tgP (q:List Prop):List Prop:=(decide ((i:Int)<(es.length:Int))=true)::((0:Int)<=(i:Int)/\(i:Int)<(es.length:Int))::(0+i * 2+2<=es.length * 2)::q
def tgR:List Prop:=[qna ((i:Int)+1)]
def tgY:Nat->Value:=fun j=>atV [.string (tgB es i)] (0+j)
def tgM0:Mem:=m2.put (zaV (tgV es es2 i)).block (zaL (tgV es es2 i) * 1) (1 * 1) (tgY es i)
def tgW0:Value:=.slice (some (zaV (tgV es es2 i))) (zaL (tgV es es2 i)+1) (zbY (tgV es es2 i))
def tgM1:Mem:=m2.add (m2.fresh (z 0 0)) ((zaL (tgV es es2 i)+1) * 1) (zev (zaL (tgV es es2 i)+1) (z 0 1)) 9 (zc5 (zcY m2 (zaV (tgV es es2 i))) (zaL (tgV es es2 i) * 1) (tgY es i))
def tgW1:Value:=.slice (some ⟨m2.fresh (z 0 0),0,none⟩) (zaL (tgV es es2 i)+1) (zev (zaL (tgV es es2 i)+1) (z 0 1) - 0)
def tgM2:Mem:=m2.add (m2.fresh (z 0 0)) 1 (zev 1 (z 0 1)) 9 (atV [.string (tgB es i)])
def tgW2:Value:=.slice (some ⟨m2.fresh (z 0 0),0,none⟩) 1 (zev 1 (z 0 1) - 0)
theorem jtb:zaq [] (tgC es c x y m es2 c2 m2 i) tg9 (tgS es c x y m es2 c2 m2 i J (some (2,2)) 20000) [true,true,true,true] z=(tgP es i ((za5 es2 (.string (tgA es i))=true)::zcH (tgV es es2 i)::(1<=1)::qhg (tgV es es2 i)::(decide (zaL (tgV es es2 i)+1<=zbY (tgV es es2 i))=true) ::
  ((∃ k cap,m2.own (zaV (tgV es es2 i)).block=some (k,cap,9)/\zbY (tgV es es2 i)<=cap)/\zaV (tgV es es2 i)=⟨(zaV (tgV es es2 i)).block,0,none⟩/\∀ j,j<1 * 1->(tgY es i j).oneCell'=true)::(za5 es2 (.string (tgA es i))=true)::tgR i),
  some (.inr (qja tg9 11 (tgC es c x y m (zdL es2 (.string (tgA es i)) (tgW0 es es2 i)) c2 (tgM0 es es2 m2 i) (i+1))))):=by kernel_rfl
theorem jub:zaq [] (tgC es c x y m es2 c2 m2 i) tg9 (tgS es c x y m es2 c2 m2 i J (some (2,2)) 20000) [true,true,false,true] z=(tgP es i ((za5 es2 (.string (tgA es i))=true)::zcH (tgV es es2 i)::(1<=1)::qhg (tgV es es2 i)::(decide (zaL (tgV es es2 i)+1<=zbY (tgV es es2 i))=false) ::
  (zcH (tgV es es2 i)/\(zez (tgV es es2 i)=none->zaL (tgV es es2 i)=0)/\∀ j,j<zaL (tgV es es2 i) * 1->(m2.cell ((zaV (tgV es es2 i)).add j)).isSome=true)::((zaL (tgV es es2 i)+1) * 16<140737488355328/\zaL (tgV es es2 i)+1<140737488355328)::(za5 es2 (.string (tgA es i))=true)::tgR i),
  some (.inr (qja tg9 12 (tgC es c x y m (zdL es2 (.string (tgA es i)) (tgW1 es es2 m2 i z)) c2 (tgM1 es es2 m2 i z) (i+1))))):=by kernel_rfl
theorem jvb:zaq [] (tgC es c x y m es2 c2 m2 i) tg9 (tgS es c x y m es2 c2 m2 i J (some (2,2)) 20000) [true,false,false] z=(tgP es i ((za5 es2 (.string (tgA es i))=false)::(za5 es2 (.string (tgA es i))=false)::tgR i),
  some (.inr (qja tg9 12 (tgC es c x y m (zcI es2 c2 (.string (tgA es i)) (tgW2 m2 z)) (c2+1) (tgM2 es m2 i z) (i+1))))):=by kernel_rfl
theorem jtg:zaq [] (tgC es c x y m [] 0 m 0) tg9 (sT es c x y m (some (2,2)) 20000) [false] z=([agG es c,zeZ es=false],some (.inr (qva [(0,7,.int .i64 (.lit 0))] [(3,.ent (.obj (.map [] 0)))] (qja tg9 9 (tgC es c x y m [] 0 m 0))))):=by kernel_rfl
theorem qpm (zhL:List MapEntry) (c2':Nat) (m2':Mem) (i':Nat):zab (qua 3 tg9 (tgC es c x y m es2 c2 m2 i) (tgC es c x y m zhL c2' m2' i')) (zaO qpa (tgC es c x y m zhL c2' m2' i').heap) false=true:=by kernel_rfl
theorem jbk:(((tgC es c x y m es2 c2 m2 i).frames[0]?).bind fun p=>p.tmps[7]?)=some (some (.int .i64 (.sym i))):=by kernel_rfl
theorem jck:(tgC es c x y m es2 c2 m2 i).heap[3]? = some (.ent (.obj (.zaU kS vV es2 c2))):=by kernel_rfl
end
end
noncomputable section
open Go.Sim
open Go.Proofs
variable {α:Type}
structure LvS where
 f:Bool
 V:Nat->Value
 n:Nat
structure RwS where
 b:Bool
 V:Nat->Value
 n:Nat
def lvNQ (l:LvS):SN:=zab l.f (.lit 1) (.sym l.n)
def lvIQ (l:LvS):SV:=.int .i64 (zab l.f (.lit 1) (.sym (l.n:Int)))
def jxd (l:LvS):SV:=.slice ⟨8,.lit 0⟩ (lvNQ l) (zab l.f (.lit 1) (.rest 8 0))
def lvEQ (l:LvS):HP:=zab l.f (.ent (.own (.raw l.V 1) true 25)) (.ent (.own (.raw l.V l.n) false 25))
def qv5 (nm:Nat) (r:RwS):SV:=zab r.b (.slice ⟨nm,.lit 0⟩ (.sym r.n) (.rest nm 0)) .zad
def rwEQ (r:RwS):HP:=zab r.b (.ent (.own (.raw r.V r.n) false 25)) (.ent .gone)
section
variable (es:List MapEntry) (c:Nat) (x y:ByteArray) (es2:List MapEntry) (c2:Nat) (J:zaQ)
def m0Q:Mem:=zcF
def J0Q:zaQ:=⟨fun _ _=>undef,fun _ _=>undef⟩
def bS0Q:SS:=qub (tgS es c x y m0Q es2 c2 m0Q 0 J0Q (some (1,8)) 1000) [false]
def bFQ (j:Nat):List SV:=zah (nth (bS0Q es c x y es2 c2).frames j) [] fun f=>f.tmps
structure BSt where
 m:Mem
 es3:List MapEntry
 c3:Nat
 lv:LvS
 p:Nat
 nx:RwS
variable (s:BSt)
def seFQ (j:Nat):List SV:=zas (fun v=>v.ren fun n=>zab (Nat.beq n 9) 5 (zab (Nat.beq n 10) 6 n)) (bFQ es c x y es2 c2 j)
def bTQ:List (Nat × SV):=app (qji (seFQ es c x y es2 c2 0) [1,2,6,7,10,11,12]) [(13,jxd s.lv),(14,qv5 9 s.nx),(42,jxd s.lv),(43,lvIQ s.lv),(44,.int .i64 (.sym s.p))]
def bHQ (l:RwS):List HP:=[tgE es c x y m0Q 0,tgE es c x y m0Q 1,.ent (.mem s.m),.ent (.obj (.zaU kS vV es2 c2)),tgE es c x y m0Q 4,.ent (.obj (.zaU kS vBo s.es3 s.c3)),.ent (.own (.lst [.map 5]) true 105),tgE es c x y m0Q 7,lvEQ s.lv,rwEQ s.nx,rwEQ l]
def bCQ:Cut:=⟨q0b (bS0Q es c x y es2 c2).frames [bTQ es c x y es2 c2 s],bHQ es c x y es2 c2 s ⟨false,fun _=>undef,0⟩⟩
def bSQ (st:Option (Nat × Nat)) (n:Nat):Tree:=za9 (zcc.at st) n ((bCQ es c x y es2 c2 s).fill J)
end
def st0Q:BSt:=⟨m0Q,[],0,⟨true,fun _=>undef,0⟩,0,⟨false,fun _=>undef,0⟩⟩
section
variable (es:List MapEntry) (c:Nat) (x y:ByteArray) (es2:List MapEntry) (c2:Nat) (J:zaQ) (s:BSt)
def cS0Q:SS:=qub (bSQ es c x y es2 c2 J0Q st0Q (some (2,3)) 1000) [true,true]
def cFQ (j:Nat):List SV:=zah (nth (cS0Q es c x y es2 c2).frames j) [] fun f=>f.tmps
structure CSt where
 pv:Value
 sv:Value
 j:Nat
 l:RwS
variable (q:CSt)
def cCQ:Cut:=⟨q0b (cS0Q es c x y es2 c2).frames [app (qji (cFQ es c x y es2 c2 0) [1,2,4]) [(0,.val q.pv),(5,qv5 10 q.l),(15,.val q.sv),(16,.int .i64 (.sym (zaL q.sv:Int))),(17,.int .i64 (.sym (q.j:Int)))],bTQ es c x y es2 c2 s],bHQ es c x y es2 c2 s q.l⟩
def cSQ (st:Option (Nat × Nat)) (n:Nat):Tree:=za9 (zcc.at st) n ((cCQ es c x y es2 c2 s q).fill J)
end
section
variable (es:List MapEntry) (c:Nat) (x y:ByteArray) (es2:List MapEntry) (c2:Nat) (J:zaQ) (s:BSt)
def q0Q:CSt:=⟨undef,undef,0,⟨true,fun _=>undef,0⟩⟩
def dS0Q:SS:=qub (cSQ es c x y es2 c2 J0Q st0Q q0Q (some (1,12)) 1000) [false]
variable (l:RwS) (k:Nat)
def dCQ:Cut:=⟨q0b (dS0Q es c x y es2 c2).frames [app (bTQ es c x y es2 c2 s) [(50,qv5 10 l),(51,.int .i64 (.sym (l.n:Int))),(52,.int .i64 (.sym (k:Int)))]],bHQ es c x y es2 c2 s l⟩
def dSQ (st:Option (Nat × Nat)) (n:Nat):Tree:=za9 (zcc.at st) n ((dCQ es c x y es2 c2 s l k).fill J)
end
section
variable (es:List MapEntry) (c:Nat) (x y:ByteArray) (m:Mem) (es2:List MapEntry) (c2:Nat) (m2:Mem) (i:Nat) (J:zaQ) (z:Nat->Nat->Nat)
def zhm:Mem:=m2.add (m2.fresh (z 0 0)) 1 (zev 0 (z 0 1)) 9 (atV [.string x])
def tgN:List Nat:=[0,1,2,3,4,9,10,7,12,5,6]
end
def lvM (l:LvS):Nat:=zab l.f 1 l.n
def qjw (v:Value):Addr:=(zaV v).add (((zaL v:Int) - 1).toNat * 1)
def qqm (m:Mem) (v:Value):ByteArray:=rdA m (qjw v)
def qw5 (m:Mem) (v:Value) (q:List Prop):List Prop:=zcH v::qna ((zaL v:Int) - 1)::qhg v::((0:Int)<=(zaL v:Int) - 1/\(zaL v:Int) - 1<(zaL v:Int))::ldM m (qjw v) q
def bV (s:BSt):Value:=s.lv.V (0+s.p * 1)
def bL (s:BSt):ByteArray:=qqm s.m (bV s)
def bG (s:BSt) (q:List Prop):List Prop:=(decide ((s.p:Int)<(lvM s.lv:Int))=true)::((0:Int)<=(s.p:Int)/\(s.p:Int)<(lvM s.lv:Int))::(0+s.p * 1<lvM s.lv)::qw5 s.m (bV s) q
def noRw:RwS:=⟨false,fun _=>undef,0⟩
section
variable (es:List MapEntry) (c:Nat) (x y:ByteArray) (es2:List MapEntry) (c2:Nat) (J:zaQ) (m:Mem) (es3:List MapEntry) (c3:Nat) (f:Bool) (VL:Nat->Value) (n p:Nat) (b:Bool) (VN:Nat->Value) (nn:Nat) (z:Nat->Nat->Nat)
def bst:BSt:=⟨m,es3,c3,⟨f,VL,n⟩,p,⟨b,VN,nn⟩⟩
def n11:List Nat:=[0,1,2,3,4,5,6,7,8,9,10]
theorem jdk:zaq [] (bCQ es c x y es2 c2 (bst m es3 c3 f VL n p b VN nn)) n11 (bSQ es c x y es2 c2 J (bst m es3 c3 f VL n p b VN nn) (some (1,8)) 20000) [true,false] z =
  (bG (bst m es3 c3 f VL n p b VN nn) [za5 es2 (.string (bL (bst m es3 c3 f VL n p b VN nn)))=false,qna ((p:Int)+1)],some (.inr (qja n11 11 (bCQ es c x y es2 c2 (bst m es3 c3 f VL n (p+1) b VN nn))))):=by cases f <;> cases b <;> kernel_rfl
theorem b_go:zaq [] (cCQ es c x y es2 c2 (bst m es3 c3 f VL n p b VN nn) ⟨bV (bst m es3 c3 f VL n p b VN nn),zbM es2 (.string (bL (bst m es3 c3 f VL n p b VN nn))),0,noRw⟩) n11 (bSQ es c x y es2 c2 J (bst m es3 c3 f VL n p b VN nn) (some (2,3)) 20000) [true,true] z =
  (bG (bst m es3 c3 f VL n p b VN nn) [za5 es2 (.string (bL (bst m es3 c3 f VL n p b VN nn)))=true,zcH (zbM es2 (.string (bL (bst m es3 c3 f VL n p b VN nn))))],some (.inr (qva [(0,17,.int .i64 (.lit 0))] [] (qja n11 11 (cCQ es c x y es2 c2 (bst m es3 c3 f VL n p b VN nn) ⟨bV (bst m es3 c3 f VL n p b VN nn),zbM es2 (.string (bL (bst m es3 c3 f VL n p b VN nn))),0,noRw⟩))))):=by cases f <;> cases b <;> kernel_rfl
theorem jek:zaq [] (bCQ es c x y es2 c2 (bst m es3 c3 false VN nn 0 false VN nn)) [0,1,2,3,4,5,6,7,9,8,10] (bSQ es c x y es2 c2 J (bst m es3 c3 f VL n p true VN nn) (some (1,8)) 20000) [false,true] z=([decide ((p:Int)<(lvM ⟨f,VL,n⟩:Int))=false,decide ((nn:Int) > 0)=true],some (.inr (qva [(0,44,.int .i64 (.lit 0))] [] (qja [0,1,2,3,4,5,6,7,9,8,10] 11 (bCQ es c x y es2 c2 (bst m es3 c3 false VN nn 0 false VN nn)))))):=by cases f <;> kernel_rfl
end
end
noncomputable section
open Go.Sim
open Go.Proofs
variable {α:Type}
def xA (sv:Value) (j:Nat):Addr:=(zaV sv).add (j * 1)
def xG (m:Mem) (sv:Value) (j:Nat) (q:List Prop):List Prop:=(decide ((j:Int)<(zaL sv:Int))=true)::qhg sv::((0:Int)<=(j:Int)/\(j:Int)<(zaL sv:Int))::ldM m (xA sv j) q
def xP (v:Value):Value:=.slice (some (if ((zaL v:Int)).toNat=0 then zaV v else (zaV v).add (0 * 1))) ((zaL v:Int).toNat - 0) ((zaL v:Int).toNat - 0)
def xK (m:Mem) (pv:Value) (q:List Prop):List Prop:=zcH pv::zcH pv::(qhg pv/\zaL pv<=zbY pv)::((0:Int)<=(zaL pv:Int)/\(zaL pv:Int)<=(zbY pv:Int))::((0:Int)<=(zaL pv:Int)/\(zaL pv:Int)<=(((zaL pv:Int).toNat:Nat):Int)) ::
 zcH (xP pv)::(1<=1)::qhg (xP pv)::(decide (zaL (xP pv)+1<=zbY (xP pv))=false)::(zcH (xP pv)/\(zez (xP pv)=none->zaL (xP pv)=0)/\∀ j,j<zaL (xP pv) * 1->(m.cell ((zaV (xP pv)).add j)).isSome=true)::((zaL (xP pv)+1) * 16<140737488355328/\zaL (xP pv)+1<140737488355328)::q
def xY (m:Mem) (pv:Value) (b:ByteArray):Nat->Value:=zc5 (zcY m (zaV (xP pv))) (zaL (xP pv) * 1) fun j=>atV [.string b] (0+j)
section
variable (es:List MapEntry) (c:Nat) (x y:ByteArray) (es2:List MapEntry) (c2:Nat) (J:zaQ) (m:Mem) (es3:List MapEntry) (c3:Nat) (f:Bool) (VL:Nat->Value) (n p:Nat) (b:Bool) (VN:Nat->Value) (nn:Nat) (pv sv:Value) (j:Nat) (lb:Bool) (Vl:Nat->Value) (nl:Nat) (z:Nat->Nat->Nat)
def xB:ByteArray:=rdA m (xA sv j)
def xM:Mem:=m.add (m.fresh (z 0 0)) ((zaL (xP pv)+1) * 1) (zev (zaL (xP pv)+1) (z 0 1)) 9 (xY m pv (xB m sv j))
def xV:Value:=.slice (some ⟨m.fresh (z 0 0),0,none⟩) (zaL (xP pv)+1) (zev (zaL (xP pv)+1) (z 0 1) - 0)
def xS:List MapEntry:=zcI es3 c3 (.string (xB m sv j)) (.bool true)
def xF (q:List Prop):List Prop:=xG m sv j ((za5 es3 (.string (xB m sv j))=false)::(za5 es3 (.string (xB m sv j))=false)::xK m pv q)
theorem jfk:zaq [] (cCQ es c x y es2 c2 (bst m es3 c3 f VL n p b VN nn) ⟨pv,sv,j,⟨lb,Vl,nl⟩⟩) n11 (cSQ es c x y es2 c2 J (bst m es3 c3 f VL n p b VN nn) ⟨pv,sv,j,⟨lb,Vl,nl⟩⟩ (some (2,3)) 20000) [true,true,false] z =
  (xG m sv j [za5 es3 (.string (xB m sv j))=true,(!(zeA (zbM es3 (.string (xB m sv j)))))=false,qna ((j:Int)+1)],some (.inr (qja n11 11 (cCQ es c x y es2 c2 (bst m es3 c3 f VL n p b VN nn) ⟨pv,sv,j+1,⟨lb,Vl,nl⟩⟩)))):=by cases f <;> cases b <;> cases lb <;> kernel_rfl
def xC:Nat->SV:=zfA (fun i=>.val (Vl (0+i))) (nl * 1) fun i=>(nth [SV.slice ⟨12,.lit 0⟩ (.sym (zaL (xP pv)+1)) (.rest 12 0)] (0+i)).getD qsa
def xZ:Sub:=[(12,m.fresh (z 0 0),zev (zaL (xP pv)+1) (z 0 1))]
def xW:Nat->Value:=fun j=>zer (xZ m pv z) (xC pv Vl nl j)
theorem jgk:zaq [] (bCQ es c x y es2 c2 (bst m es3 c3 f VL n (p+1) b VN nn)) n11 (cSQ es c x y es2 c2 J (bst m es3 c3 f VL n p b VN nn) ⟨pv,sv,j,⟨false,Vl,nl⟩⟩ (some (1,8)) 20000) [false] z =
  ([decide ((j:Int)<(zaL sv:Int))=false,qna ((p:Int)+1)],some (.inr (qja n11 11 (bCQ es c x y es2 c2 (bst m es3 c3 f VL n (p+1) b VN nn))))):=by cases f <;> cases b <;> kernel_rfl
theorem jhk:zaq [] (dCQ es c x y es2 c2 (bst m es3 c3 f VL n p b VN nn) ⟨true,Vl,nl⟩ 0) n11 (cSQ es c x y es2 c2 J (bst m es3 c3 f VL n p b VN nn) ⟨pv,sv,j,⟨true,Vl,nl⟩⟩ (some (1,12)) 20000) [false] z =
  ([decide ((j:Int)<(zaL sv:Int))=false],some (.inr (qva [(0,52,.int .i64 (.lit 0))] [] (qja n11 11 (dCQ es c x y es2 c2 (bst m es3 c3 f VL n p b VN nn) ⟨true,Vl,nl⟩ 0))))):=by cases f <;> cases b <;> kernel_rfl
def dVq:Value:=Vl (0+j * 1)
def dG (q:List Prop):List Prop:=(decide ((j:Int)<(nl:Int))=true)::((0:Int)<=(j:Int)/\(j:Int)<(nl:Int))::(0+j * 1<nl)::qw5 m (dVq j Vl) q
theorem jug:zaq [] (dCQ es c x y es2 c2 (bst m es3 c3 f VL n p true (atV [dVq j Vl]) 1) ⟨true,Vl,nl⟩ (j+1)) [0,1,2,3,4,5,6,7,8,12,10] (dSQ es c x y es2 c2 J (bst m es3 c3 f VL n p false VN nn) ⟨true,Vl,nl⟩ j (some (1,12)) 20000) [true,false] z =
  (dG m j Vl nl [decide (qqm m (dVq j Vl)=y)=false,(dVq j Vl).oneCell'=true,qna ((j:Int)+1)],some (.inr (qva [(0,14,.slice ⟨12,.lit 0⟩ (.lit 1) (.rest 12 0))] [(9,.ent (.own (.lst [.val (dVq j Vl)]) false 25))] (qja [0,1,2,3,4,5,6,7,8,12,10] 13 (dCQ es c x y es2 c2 (bst m es3 c3 f VL n p true (atV [dVq j Vl]) 1) ⟨true,Vl,nl⟩ (j+1)))))):=by cases f <;> kernel_rfl
def dWq:Nat->Value:=zc5 (fun i=>VN (0+i)) (nn * 1) fun i=>atV [dVq j Vl] (0+i)
theorem jvg:zaq [] (dCQ es c x y es2 c2 (bst m es3 c3 f VL n p true (dWq VN nn j Vl) ((nn+1) * 1)) ⟨true,Vl,nl⟩ (j+1)) [0,1,2,3,4,5,6,7,8,12,10] (dSQ es c x y es2 c2 J (bst m es3 c3 f VL n p true VN nn) ⟨true,Vl,nl⟩ j (some (1,12)) 20000) [true,false] z =
  (dG m j Vl nl [decide (qqm m (dVq j Vl)=y)=false,(dVq j Vl).oneCell'=true,1<=1,0+nn * 1<=nn,((nn+1) * 24<140737488355328/\nn+1<140737488355328)/\∀ i,i<1 * 1->(atV [dVq j Vl] (0+i)).oneCell'=true,qna ((j:Int)+1)],
   some (.inr (qva [(0,14,.slice ⟨12,.lit 0⟩ (.sym (nn+1)) (.rest 12 0))] [] (qja [0,1,2,3,4,5,6,7,8,12,10] 13 (dCQ es c x y es2 c2 (bst m es3 c3 f VL n p true (dWq VN nn j Vl) ((nn+1) * 1)) ⟨true,Vl,nl⟩ (j+1)))))):=by cases f <;> kernel_rfl
theorem zkq:zaq [] (bCQ es c x y es2 c2 (bst m es3 c3 f VL n (p+1) b VN nn)) n11 (dSQ es c x y es2 c2 J (bst m es3 c3 f VL n p b VN nn) ⟨true,Vl,nl⟩ j (some (1,8)) 20000) [false] z =
  ([decide ((j:Int)<(nl:Int))=false,qna ((p:Int)+1)],some (.inr (qja n11 11 (bCQ es c x y es2 c2 (bst m es3 c3 f VL n (p+1) b VN nn))))):=by cases f <;> cases b <;> kernel_rfl
end
end
end Go.Proofs.YtbhlngmhgplepaaDoor.Aes
namespace Go.Bfs
noncomputable section
abbrev Str:=ByteArray
abbrev Pth:=List Str
def ext (p:Pth):List Str->List Str->List Pth × List Str
 | [],seen=>([],seen)
 | b::r,seen=>@ite _ (b∈seen) (Classical.propDecidable _) (ext p r seen) ((p++[b])::(ext p r (seen++[b])).1,(ext p r (seen++[b])).2)
theorem qde {p:Pth} {b:Str} {r seen:List Str} (h:b∈seen):ext p (b::r) seen=ext p r seen:=by
 rw [ext]; exact if_pos h
theorem qjf {p:Pth} {b:Str} {r seen:List Str} (h:b ∉ seen):ext p (b::r) seen=((p++[b])::(ext p r (seen++[b])).1,(ext p r (seen++[b])).2):=by
 rw [ext]; exact if_neg h
theorem qap (p:Pth):∀ (r r' seen:List Str),ext p (r++r') seen=((ext p r seen).1++(ext p r' (ext p r seen).2).1,(ext p r' (ext p r seen).2).2)
 | [],r',seen=>rfl
 | b::r,r',seen=>by
   by_cases h:b∈seen
   . rw [List.cons_append,qde h,qde h,qap p r r' seen]
   . rw [List.cons_append,qjf h,qjf h,qap p r r' (seen++[b])]; rfl
theorem qmv {p:Pth} {b:Str} {r seen:List Str} (h:b∈(ext p r seen).2):ext p (r++[b]) seen=ext p r seen:=by
 rw [qap,qde h]; simp [ext]
theorem qmz {p:Pth} {b:Str} {r seen:List Str} (h:b ∉ (ext p r seen).2):ext p (r++[b]) seen=((ext p r seen).1++[p++[b]],(ext p r seen).2++[b]):=by
 rw [qap,qjf h]; simp [ext]
def step (S:Pth->List Str):List Pth->List Str->List Pth × List Str
 | [],seen=>([],seen)
 | p::r,seen=>((ext p (S p) seen).1++(step S r (ext p (S p) seen).2).1,(step S r (ext p (S p) seen).2).2)
theorem zc9 (S:Pth->List Str):∀ (r r':List Pth) (seen:List Str),step S (r++r') seen=((step S r seen).1++(step S r' (step S r seen).2).1,(step S r' (step S r seen).2).2)
 | [],r',seen=>rfl
 | p::r,r',seen=>by
   rw [List.cons_append,step,step,zc9 S r r'];simp
theorem qgo (S:Pth->List Str) (r:List Pth) (p:Pth) (seen:List Str):step S (r++[p]) seen=((step S r seen).1++(ext p (S p) (step S r seen).2).1,(ext p (S p) (step S r seen).2).2):=by
 rw [zc9]; simp [step]
def qkf (y:Str) (p:Pth):Bool:=@decide (p.getLast? = some y) (Classical.propDecidable _)
theorem zcM {y:Str} {p:Pth}:qkf y p=true↔p.getLast? = some y:=by unfold qkf; simp
inductive Bfs (S:Pth->List Str) (y:Str):List Pth->List Str->Option Pth->Prop
 | found {L:List Pth} {seen:List Str} {q:Pth}:(step S L seen).1.find? (qkf y)=some q->Bfs S y L seen (some q)
 | over {L:List Pth} {seen:List Str}:(step S L seen).1=[]->Bfs S y L seen none
 | next {L:List Pth} {seen:List Str} {o:Option Pth}:(step S L seen).1.find? (qkf y)=none->(step S L seen).1≠[]->Bfs S y (step S L seen).1 (step S L seen).2 o->Bfs S y L seen o
theorem Bfs.det {S:Pth->List Str} {y:Str} {L:List Pth} {seen:List Str} {o o':Option Pth} (h:Bfs S y L seen o) (h':Bfs S y L seen o'):o=o':=by
 induction h generalizing o' with
 | found hf =>
   cases h' with
   | found hf'=>rw [hf] at hf'; exact hf'
   | over he=>rw [he] at hf; cases hf
   | next hn=>rw [hf] at hn; cases hn
 | over he =>
   cases h' with
   | found hf=>rw [he] at hf; cases hf
   | over=>rfl
   | next _ hne=>exact absurd he hne
 | next hn hne _ ih =>
   cases h' with
   | found hf=>rw [hn] at hf; cases hf
   | over he=>exact absurd he hne
   | next _ _ h2=>exact ih h2
def un (N seen:List Str):Nat:=(N.filter fun b=>@decide (b ∉ seen) (Classical.propDecidable _)).length
theorem jyd (N seen:List Str):un N seen<=N.length:=List.length_filter_le _ _
theorem jzd {N seen:List Str} {b:Str} (hb:b∈N) (hs:b ∉ seen):un N (seen++[b])<un N seen:=by
 have h1:(N.filter fun a=>@decide (a ∉ seen++[b]) (Classical.propDecidable _))=(N.filter fun a=>@decide (a ∉ seen) (Classical.propDecidable _)).filter fun a=>@decide (a≠b) (Classical.propDecidable _):=by
  rw [List.filter_filter];congr 1;funext a;by_cases h2:a∈seen <;> by_cases h3:a=b <;> simp [h2,h3]
 unfold un;rw [h1];exact List.length_filter_lt_length_iff_exists.2 ⟨b,by simp [hb,hs],by simp⟩
end
end Go.Bfs
namespace Go.Proofs.YtbhlngmhgplepaaDoor.Aes
noncomputable section
open Go.Sim
open Go.Proofs
variable {α:Type}
theorem qeg (b i:Nat):(⟨b,0,none⟩:Addr).add i=⟨b,i,none⟩:=by
 unfold Addr.add;split
 . rename_i h0; subst h0; rfl
 . simp
def zbB (m:Mem) (b:Nat) (l:List ByteArray):Prop:=∀ i (h:i<l.length),m.cell ⟨b,i,none⟩=some (.string l[i])
def zaA (m:Mem) (v:Value) (l:List ByteArray):Prop:=∃ b cap,v=.slice (some ⟨b,0,none⟩) l.length cap/\l.length<=cap/\zbB m b l
def zbn (m:Mem) (v:Value) (l:List ByteArray):Prop:=∃ b cap,v=.slice (some ⟨b,0,none⟩) l.length cap/\l.length<=cap/\zbB m b l/\m.own b=some (l.length,cap,9)
theorem zbn.strs {m:Mem} {v:Value} {l:List ByteArray} (h:zbn m v l):zaA m v l:=let ⟨b,cap,h1,h2,h3,_⟩:=h; ⟨b,cap,h1,h2,h3⟩
section
variable {m:Mem} {v:Value} {l:List ByteArray}
theorem zaA.slc (h:zaA m v l):qhg v:=by obtain ⟨b,cap,rfl,_⟩:=h; rfl
theorem zaA.sl (h:zaA m v l):zcH v:=by obtain ⟨b,cap,rfl,_⟩:=h; rfl
theorem zaA.len (h:zaA m v l):zaL v=l.length:=by obtain ⟨b,cap,rfl,_⟩:=h; rfl
theorem zaA.cap (h:zaA m v l):zaL v<=zbY v:=by obtain ⟨b,cap,rfl,h,_⟩:=h; exact h
theorem zaA.cell (h:zaA m v l) {i:Nat} (hi:i<l.length):m.cell ((zaV v).add (i * 1))=some (.string l[i]):=by
 obtain ⟨b,cap,rfl,_,h2⟩:=h;rw [Nat.mul_one];show m.cell ((⟨b,0,none⟩:Addr).add i)=_;rw [qeg]; exact h2 i hi
theorem zaA.one (h:zaA m v l):v.oneCell'=true:=by obtain ⟨b,cap,rfl,_⟩:=h; rfl
theorem qe2 {A:Addr} {s:ByteArray} {q:List Prop} (h:m.cell A=some (.string s)) (hq:∀ p∈q,p):∀ p∈ldM m A q,p:=by
 refine zaa rfl (zaa (by rw [h]; rfl) (zaa ?_ hq))
 rw [h]; exact zgv _
theorem qp8 {A:Addr} {s:ByteArray} (h:m.cell A=some (.string s)):rdA m A=s:=by unfold rdA; rw [h]; rfl
theorem zaA.zea (h:zaA m v l) (hl:l≠[]):m.cell (qjw v)=some (.string (l.getLast hl)):=by
 have h0:0<l.length:=List.length_pos_iff.2 hl;have e:((zaL v:Int) - 1).toNat=l.length - 1:=by rw [h.len]; omega
 unfold qjw;rw [e,h.cell (by omega),List.getLast_eq_getElem]
theorem zaA.zdo (h:zaA m v l) (hl:l≠[]) (hn:l.length<=1000000000) {q:List Prop} (hq:∀ p∈q,p):∀ p∈qw5 m v q,p:=by
 have h0:0<l.length:=List.length_pos_iff.2 hl;have h1:=h.len;exact zaa h.sl (zaa ⟨by omega,by omega⟩ (zaa h.slc (zaa ⟨by omega,by omega⟩ (qe2 (h.zea hl) hq))))
theorem zaA.zd9 (h:zaA m v l) (hl:l≠[]):qqm m v=l.getLast hl:=qp8 (h.zea hl)
theorem zaA.zgE (h:zaA m v l):∃ b,zaV v=⟨b,0,none⟩/\zbB m b l/\xP v=.slice (some ⟨b,0,none⟩) l.length l.length:=by
 obtain ⟨b,cap,rfl,_,h2⟩:=h;refine ⟨b,rfl,h2,?_⟩;show Value.slice (some (if ((l.length:Nat):Int).toNat=0 then ⟨b,0,none⟩ else (⟨b,0,none⟩:Addr).add (0 * 1))) _ _=_
 have e:(⟨b,0,none⟩:Addr).add (0 * 1)=⟨b,0,none⟩:=by rw [Nat.zero_mul,qeg]
 rw [e];simp; rfl
theorem zaA.zfp (h:zaA m v l) (hn:l.length<=1000000000) {q:List Prop} (hq:∀ p∈q,p):∀ p∈xK m v q,p:=by
 obtain ⟨b,h1,h2,h3⟩:=h.zgE;have hl:=h.len;have hc:=h.cap;unfold xK;rw [h3];have hcell:∀ j,j<l.length * 1->(m.cell ((⟨b,0,none⟩:Addr).add j)).isSome=true:=fun j hj=>by
  rw [qeg,h2 j (by omega)]; rfl
 refine zaa h.sl (zaa h.sl (zaa ⟨h.slc,hc⟩ (zaa ⟨by omega,by omega⟩ (zaa ⟨by omega,by omega⟩ (zaa rfl (zaa (Nat.le_refl 1) (zaa rfl (zaa (decide_eq_false ?_) (zaa ⟨rfl,fun h=>(by cases h),hcell⟩ (zaa ⟨?_,?_⟩ hq))))))))))
 . show ¬ l.length+1<=l.length; omega
 . show (l.length+1) * 16<_; omega
 . show l.length+1<_; omega
theorem zbB.add {b:Nat} (h:zbB m b l) {b' n cap:Nat} {el:TypeId} {V:Nat->Value} (hf:m.free b'):zbB (m.add b' n cap el V) b l:=fun i hi=>by
 have h1:=h i hi;rw [Mem.zdc (fun e => ?_)]
 . exact h1
 . have:=hf.1 ⟨b,i,none⟩ e;rw [this] at h1; cases h1
theorem zaA.add (h:zaA m v l) {b' n cap:Nat} {el:TypeId} {V:Nat->Value} (hf:m.free b'):zaA (m.add b' n cap el V) v l:=let ⟨b,c,h1,h2,h3⟩:=h; ⟨b,c,h1,h2,h3.add hf⟩
theorem zbn.add (h:zbn m v l) {b' n cap:Nat} {el:TypeId} {V:Nat->Value} (hf:m.free b'):zbn (m.add b' n cap el V) v l:=by
 obtain ⟨b,c,h1,h2,h3,h4⟩:=h;refine ⟨b,c,h1,h2,h3.add hf,?_⟩;show (if b=b' then _ else m.own b)=_
 rw [if_neg]
 . exact h4
 . intro e;rw [← e] at hf;rw [hf.2] at h4; cases h4
theorem qho {b n cap:Nat} {el:TypeId} {V:Nat->Value} (hn:n=l.length) (hV:∀ i (h:i<l.length),V i=.string l[i]):zbB (m.add b n cap el V) b l:=fun i hi=>by
 rw [Mem.zfF (by omega),hV i hi]
theorem qft (L z:Nat):L<=zev L z:=by unfold zev; split <;> omega
theorem jwb {b n cap:Nat} {V:Nat->Value} (hn:n=l.length) (hc:n<=cap) (hV:∀ i (h:i<l.length),V i=.string l[i]):zbn (m.add b n cap 9 V) (.slice (some ⟨b,0,none⟩) n (cap - 0)) l:=by
 subst hn;refine ⟨b,cap,rfl,hc,qho rfl hV,?_⟩;show (if b=b then _ else _)=_
 rw [if_pos rfl]
theorem qnz (h:zaA m v l) {s:ByteArray} (z0 z1:Nat):zbn (m.add (m.fresh z0) ((zaL (xP v)+1) * 1) (zev (zaL (xP v)+1) z1) 9 (xY m v s)) (.slice (some ⟨m.fresh z0,0,none⟩) (zaL (xP v)+1) (zev (zaL (xP v)+1) z1 - 0)) (l++[s]):=by
 obtain ⟨b,h1,h2,h3⟩:=h.zgE;have e:zaL (xP v)=l.length:=by rw [h3]; rfl
 rw [Nat.mul_one];refine jwb (by rw [e]; simp) (qft _ _) fun i hi => ?_
 unfold xY zc5;rw [e,Nat.mul_one];by_cases hc:i<l.length
 . rw [if_pos hc];show (m.cell ((zaV (xP v)).add i)).getD undef=_;rw [h3];show (m.cell ((⟨b,0,none⟩:Addr).add i)).getD undef=_;rw [qeg,h2 i hc,List.getElem_append_left hc]; rfl
 . rw [if_neg hc];have:i=l.length:=by simp at hi; omega
   subst this;rw [Nat.sub_self];simp [atV]
end
def zbw (P:Mem->Value->List ByteArray->Prop) (m:Mem) (V:Nat->Value) (L:List (List ByteArray)):Prop:=∀ i (h:i<L.length),P m (V i) L[i]
theorem zbw.strs {m:Mem} {V:Nat->Value} {L:List (List ByteArray)} (h:zbw zbn m V L):zbw zaA m V L:=fun i hi=>(h i hi).strs
theorem zbw.addS {m:Mem} {V:Nat->Value} {L:List (List ByteArray)} (h:zbw zaA m V L) {b' n cap:Nat} {el:TypeId} {W:Nat->Value} (hf:m.free b'):zbw zaA (m.add b' n cap el W) V L:=fun i hi=>(h i hi).add hf
theorem zbw.zee {m:Mem} {V:Nat->Value} {L:List (List ByteArray)} (h:zbw zbn m V L) {b' n cap:Nat} {el:TypeId} {W:Nat->Value} (hf:m.free b'):zbw zbn (m.add b' n cap el W) V L:=fun i hi=>(h i hi).add hf
theorem zbw.nil {P:Mem->Value->List ByteArray->Prop} {m:Mem} {V:Nat->Value}:zbw P m V []:=fun i hi=>by cases hi
theorem zbw.snoc {P:Mem->Value->List ByteArray->Prop} {m:Mem} {V W:Nat->Value} {L:List (List ByteArray)} (h:zbw P m V L) {q:List ByteArray} (hq:P m (W L.length) q) (hW:∀ i,i<L.length->W i=V i):zbw P m W (L++[q]):=fun i hi=>by
 by_cases hc:i<L.length
 . rw [List.getElem_append_left hc,hW i hc]; exact h i hc
 . have:i=L.length:=by simp at hi; omega
   subst this;simpa using hq
end
noncomputable section
open Go.Sim
open Go.Proofs
variable {α:Type}
def n14:List Nat:=[0,1,2,3,4,5,6,7,8,9,14]
def n12:List Nat:=[0,1,2,3,4,5,6,7,8,12,10]
def n98:List Nat:=[0,1,2,3,4,5,6,7,9,8,10]
section
variable (es:List MapEntry) (c:Nat) (x y:ByteArray) (es2:List MapEntry) (c2:Nat) (J:zaQ) (m:Mem) (es3:List MapEntry) (c3:Nat) (f:Bool) (VL:Nat->Value) (n p:Nat) (b:Bool) (VN:Nat->Value) (nn:Nat) (pv sv:Value) (j:Nat) (lb:Bool) (Vl:Nat->Value) (nl:Nat) (z:Nat->Nat->Nat)
def bX:Cut:=bCQ es c x y es2 c2 (bst m es3 c3 f VL n p b VN nn)
def cX:Cut:=cCQ es c x y es2 c2 (bst m es3 c3 f VL n p b VN nn) ⟨pv,sv,j,⟨lb,Vl,nl⟩⟩
def dX:Cut:=dCQ es c x y es2 c2 (bst m es3 c3 f VL n p b VN nn) ⟨true,Vl,nl⟩ j
theorem qx5:zab (qua 3 n11 (bX es c x y es2 c2 m es3 c3 f VL n p b VN nn) (bX es c x y es2 c2 m es3 c3 f VL n p b VN nn)) (zaO qpa (bX es c x y es2 c2 m es3 c3 f VL n p b VN nn).heap) false=true:=by cases f <;> cases b <;> kernel_rfl
theorem zkE:zab (qua 3 n98 (bX es c x y es2 c2 m es3 c3 f VL n p b VN nn) (bX es c x y es2 c2 m es3 c3 f VL n p b VN nn)) (zaO qpa (bX es c x y es2 c2 m es3 c3 f VL n p b VN nn).heap) false=true:=by cases f <;> cases b <;> kernel_rfl
theorem j0d:zab (qua 3 n11 (cX es c x y es2 c2 m es3 c3 f VL n p b VN nn pv sv j lb Vl nl) (cX es c x y es2 c2 m es3 c3 f VL n p b VN nn pv sv j lb Vl nl)) (zaO qpa (cX es c x y es2 c2 m es3 c3 f VL n p b VN nn pv sv j lb Vl nl).heap) false=true:=by cases f <;> cases b <;> cases lb <;> kernel_rfl
theorem zko:zab (qua 3 n11 (dX es c x y es2 c2 m es3 c3 f VL n p b VN nn j Vl nl) (dX es c x y es2 c2 m es3 c3 f VL n p b VN nn j Vl nl)) (zaO qpa (dX es c x y es2 c2 m es3 c3 f VL n p b VN nn j Vl nl).heap) false=true:=by cases f <;> cases b <;> kernel_rfl
theorem j1d:zab (qua 3 n12 (dX es c x y es2 c2 m es3 c3 f VL n p b VN nn j Vl nl) (dX es c x y es2 c2 m es3 c3 f VL n p b VN nn j Vl nl)) (zaO qpa (dX es c x y es2 c2 m es3 c3 f VL n p b VN nn j Vl nl).heap) false=true:=by cases f <;> cases b <;> kernel_rfl
theorem j2d:(((bX es c x y es2 c2 m es3 c3 f VL n p b VN nn).frames[0]?).bind fun p=>p.tmps[44]?)=some (some (.int .i64 (.sym (p:Int)))):=by cases f <;> cases b <;> kernel_rfl
theorem zkF:(bX es c x y es2 c2 m es3 c3 f VL n p b VN nn).heap[5]? = some (.ent (.obj (.zaU kS vBo es3 c3))):=by kernel_rfl
theorem jwg:(((cX es c x y es2 c2 m es3 c3 f VL n p b VN nn pv sv j lb Vl nl).frames[0]?).bind fun p=>p.tmps[17]?)=some (some (.int .i64 (.sym (j:Int)))):=by cases f <;> cases b <;> cases lb <;> kernel_rfl
theorem qq8:(((cX es c x y es2 c2 m es3 c3 f VL n p b VN nn pv sv j true Vl nl).frames[0]?).bind fun p=>p.tmps[5]?)=some (some (.slice ⟨10,.lit 0⟩ (.sym nl) (.rest 10 0))):=by cases f <;> cases b <;> kernel_rfl
theorem jxg:(((dX es c x y es2 c2 m es3 c3 f VL n p b VN nn j Vl nl).frames[0]?).bind fun p=>p.tmps[52]?)=some (some (.int .i64 (.sym (j:Int)))):=by cases f <;> cases b <;> kernel_rfl
theorem qf2:(((dX es c x y es2 c2 m es3 c3 f VL n p true VN nn j Vl nl).frames[0]?).bind fun p=>p.tmps[14]?)=some (some (.slice ⟨9,.lit 0⟩ (.sym nn) (.rest 9 0))):=by cases f <;> kernel_rfl
theorem zkp:(dX es c x y es2 c2 m es3 c3 f VL n p true VN nn j Vl nl).heap[9]? = some (.ent (.own (.raw VN nn) false 25)):=by cases f <;> kernel_rfl
theorem jxb:zaq [1,2] (dX es c x y es2 c2 m es3 c3 f VL n p b VN nn j Vl nl) n11 (dSQ es c x y es2 c2 J (bst m es3 c3 f VL n p b VN nn) ⟨true,Vl,nl⟩ j none 20000) [true,true] z =
  (dG m j Vl nl [decide (qqm m (dVq j Vl)=y)=true],some (.inl (.val (dVq j Vl),[some (.obj (.zaU kPr vBo es c)),some (.mem m)]))):=by cases f <;> cases b <;> kernel_rfl
theorem jyg:zaq [1,2] (bX es c x y es2 c2 m es3 c3 f VL n p false VN nn) n11 (bSQ es c x y es2 c2 J (bst m es3 c3 f VL n p false VN nn) none 20000) [false] z=([decide ((p:Int)<(lvM ⟨f,VL,n⟩:Int))=false],some (.inl (.zad,[some (.obj (.zaU kPr vBo es c)),some (.mem m)]))):=by cases f <;> kernel_rfl
def uV:Nat->Value:=fun _=>undef
def bM:Cut:=bX es c x y es2 c2 m0Q [] 0 f uV 0 0 b uV 0
def cM:Cut:=cX es c x y es2 c2 m0Q [] 0 f uV 0 0 b uV 0 undef undef 0 lb uV 0
theorem zkD:zab (qua 3 tgN (bM es c x y es2 c2 f b) (bX es c x y es2 c2 m es3 c3 f VL n p b VN nn)) (zaO qpa (bX es c x y es2 c2 m es3 c3 f VL n p b VN nn).heap) false=true:=by cases f <;> cases b <;> kernel_rfl
theorem qr8:zab (qua 3 n14 (cM es c x y es2 c2 f b lb) (cX es c x y es2 c2 m es3 c3 f VL n p b VN nn pv sv j lb Vl nl)) (zaO qpa (cX es c x y es2 c2 m es3 c3 f VL n p b VN nn pv sv j lb Vl nl).heap) false=true:=by cases f <;> cases b <;> cases lb <;> kernel_rfl
theorem jzg:zaq [] (cM es c x y es2 c2 f b true) n14 (cSQ es c x y es2 c2 J (bst m es3 c3 f VL n p b VN nn) ⟨pv,sv,j,⟨false,Vl,nl⟩⟩ (some (2,3)) 20000) [true,false,false,false] z =
  (xF m es3 pv sv j [qna ((j:Int)+1)],some (.inr (qva [(0,5,.slice ⟨14,.lit 0⟩ (.lit 1) (.rest 14 0))] [] (qja n14 15 (cX es c x y es2 c2 (xM m pv sv j z) (xS m es3 c3 sv j) (c3+1) f VL n p b VN nn pv sv (j+1) true (atV [xV m pv z]) 1))))):=by cases f <;> cases b <;> kernel_rfl
theorem j0g:zaq [] (cM es c x y es2 c2 f b true) n14 (cSQ es c x y es2 c2 J (bst m es3 c3 f VL n p b VN nn) ⟨pv,sv,j,⟨true,Vl,nl⟩⟩ (some (2,3)) 20000) [true,false,false,false] z =
  (xF m es3 pv sv j [1<=1,0+nl * 1<=nl,((nl+1) * 24<140737488355328/\nl+1<140737488355328)/\∀ i,i<1 * 1->Go.Sim.zfd ((nth [SV.slice ⟨12,.lit 0⟩ (.sym (zaL (xP pv)+1)) (.rest 12 0)] (0+i)).getD qsa),∀ j,j<(nl+1) * 1->okS (xZ m pv z) (xC pv Vl nl j)=true,qna ((j:Int)+1)],
   some (.inr (qva [(0,5,.slice ⟨14,.lit 0⟩ (.sym (nl+1)) (.rest 14 0))] [] (qja n14 15 (cX es c x y es2 c2 (xM m pv sv j z) (xS m es3 c3 sv j) (c3+1) f VL n p b VN nn pv sv (j+1) true (xW m pv Vl nl z) ((nl+1) * 1)))))):=by cases f <;> cases b <;> kernel_rfl
end
section
variable (es:List MapEntry) (c:Nat) (x y:ByteArray) (m:Mem) (es2:List MapEntry) (c2:Nat) (m2:Mem) (i:Nat) (J:zaQ) (z:Nat->Nat->Nat)
theorem j1g:zaq [] (bM es c x y es2 c2 true false) tgN (tgS es c x y m es2 c2 m2 i J (some (1,8)) 20000) [false] z=([decide ((i:Int)<(es.length:Int))=false],some (.inr (qva [(0,44,.int .i64 (.lit 0))] [(5,.ent (.obj (.map [(.str (.sym x),.bool (.lit true),0)] 1)))] (qja tgN 13 (bX es c x y es2 c2 (zhm x m2 z) [⟨.string x,.bool true,0⟩] 1 true (atV [.slice (some ⟨m2.fresh (z 0 0),0,none⟩) 1 1]) 1 0 false (fun _=>undef) 0))))):=by kernel_rfl
end
end
end Go.Proofs.YtbhlngmhgplepaaDoor.Aes
namespace Go.Sim
noncomputable section
open Go
namespace Tb
theorem zbc {K:Value} {e:MapEntry}:qvc K e=true↔e.key=K:=by unfold qvc; simp
theorem zbd {es:List MapEntry} {K:Value}:za5 es K=true↔∃ e∈es,e.key=K:=by
 unfold za5;rw [List.any_eq_true];exact ⟨fun ⟨e,he,h⟩=>⟨e,he,zbc.1 h⟩,fun ⟨e,he,h⟩=>⟨e,he,zbc.2 h⟩⟩
theorem zaS {e:MapEntry} {es:List MapEntry} {K:Value}:zbM (e::es) K=@ite _ (e.key=K) (Classical.propDecidable _) e.val (zbM es K):=by
 unfold zbM;by_cases h:e.key=K
 . rw [List.find?_cons_of_pos (zbc.2 h)]; simp [h]
 . rw [List.find?_cons_of_neg (fun h'=>h (zbc.1 h'))]; simp [h]
theorem zdx {es:List MapEntry} {c:Nat} {K V K':Value}:za5 (zcI es c K V) K'=true↔(za5 es K'=true\/K'=K):=by
 unfold zcI;rw [zbd,zbd];constructor
 . rintro ⟨e,he,h⟩;rcases List.mem_append.1 he with he | he
   . exact .inl ⟨e,he,h⟩
   . obtain rfl:=List.mem_singleton.1 he;exact .inr h.symm
 . rintro (⟨e,he,h⟩ | rfl)
   . exact ⟨e,List.mem_append_left _ he,h⟩
   . exact ⟨_,List.mem_append_right _ (List.mem_singleton.2 rfl),rfl⟩
theorem zcQ {c:Nat} {K V:Value}:∀ {es:List MapEntry},za5 es K=false->zbM (zcI es c K V) K=V
 | [],_=>by unfold zcI; rw [List.nil_append,zaS]; simp
 | e::es,h=>by
   have h1:e.key≠K:=fun h'=>by rw [zbd.2 ⟨e,List.mem_cons_self,h'⟩] at h; cases h
   have h2:za5 es K=false:=by
    cases h3:za5 es K with
    | false=>rfl
    | true =>
      obtain ⟨e',he,hk⟩:=zbd.1 h3;rw [zbd.2 ⟨e',List.mem_cons_of_mem _ he,hk⟩] at h; cases h
   unfold zcI;rw [List.cons_append,zaS];simp only [h1,if_false];exact zcQ h2
theorem zb3 {c:Nat} {K V K':Value} (hne:K'≠K):∀ {es:List MapEntry},zbM (zcI es c K V) K'=zbM es K'
 | []=>by
   unfold zcI;rw [List.nil_append,zaS];exact if_neg fun h:K=K'=>hne h.symm
 | e::es=>by
   unfold zcI;rw [List.cons_append,zaS,zaS];have:=zb3 (c:=c) (V:=V) hne (es:=es);unfold zcI at this;rw [this]
theorem qio {e:MapEntry} {es:List MapEntry} {K V:Value}:zdL (e::es) K V=@ite _ (e.key=K) (Classical.propDecidable _) (⟨K,V,e.born⟩::es) (e::zdL es K V):=by
 unfold zdL zi8;rw [List.findIdx?_cons];by_cases h:e.key=K
 . rw [if_pos (zbc.2 h)]; simp [h]
 . rw [if_neg (fun h'=>h (zbc.1 h'))];simp only [h,if_false];cases h1:es.findIdx? (qvc K) with
   | none=>rfl
   | some i =>
     show zah ((e::es)[i+1]?) _ _=_;rw [List.getElem?_cons_succ];cases h2:es[i]? with
     | none=>simp [zah,h2]
     | some e'=>simp [zah,h2]
theorem zbF {e:MapEntry} {es:List MapEntry} {K:Value}:za5 (e::es) K=true↔(e.key=K\/za5 es K=true):=by
 rw [zbd,zbd]; simp
theorem zdw {K V K':Value}:∀ {es:List MapEntry},za5 es K=true->(za5 (zdL es K V) K'=true↔za5 es K'=true)
 | [],h=>by cases h
 | e::es,h=>by
   rw [qio];by_cases h1:e.key=K
   . simp only [h1,if_true];rw [zbF,zbF,h1]
   . simp only [h1,if_false];have h2:za5 es K=true:=(zbF.1 h).resolve_left h1;rw [zbF,zbF,zdw h2]
theorem zdy {K V:Value}:∀ {es:List MapEntry},za5 es K=true->zbM (zdL es K V) K=V
 | [],h=>by cases h
 | e::es,h=>by
   rw [qio];by_cases h1:e.key=K
   . simp only [h1,if_true];rw [zaS]; simp
   . simp only [h1,if_false];have h2:za5 es K=true:=(zbF.1 h).resolve_left h1;rw [zaS];simp only [h1,if_false];exact zdy h2
theorem zct {K V K':Value} (hne:K'≠K):∀ {es:List MapEntry},zbM (zdL es K V) K'=zbM es K'
 | []=>rfl
 | e::es=>by
   rw [qio];by_cases h1:e.key=K
   . simp only [h1,if_true];rw [zaS,zaS];exact (if_neg fun h:K=K'=>hne h.symm).trans (if_neg fun h:e.key=K'=>hne (h.symm.trans h1)).symm
   . simp only [h1,if_false];rw [zaS,zaS,zct hne]
end Tb
end
end Go.Sim
namespace Go.Proofs.YtbhlngmhgplepaaDoor.Aes
noncomputable section
open Go.Sim
open Go.Proofs
variable {α:Type}
def q3a (T:List Pr) (a:ByteArray):List ByteArray:=(T.filter fun p=>@decide (p.1=a) (Classical.propDecidable _)).map (·.2)
theorem qls (T:List Pr) (a s:ByteArray):q3a (T++[(a,s)]) a=q3a T a++[s]:=by
 unfold q3a;rw [List.filter_append]; simp
theorem qje (T:List Pr) {a a':ByteArray} (s:ByteArray) (h:a'≠a):q3a (T++[(a,s)]) a'=q3a T a':=by
 unfold q3a;rw [List.filter_append];simp; exact fun e=>h e.symm
theorem zb1 {T:List Pr} {a b:ByteArray}:b∈q3a T a↔(a,b)∈T:=by
 unfold q3a;rw [List.mem_map];constructor
 . rintro ⟨p,hp,rfl⟩;obtain ⟨h1,h2⟩:=List.mem_filter.1 hp;have h2:p.1=a:=by simpa using h2
   rw [← h2]; exact h1
 . intro h;exact ⟨(a,b),List.mem_filter.2 ⟨h,by simp⟩,rfl⟩
theorem qyu (T:List Pr) (a:ByteArray):(q3a T a).length<=T.length:=by
 unfold q3a;rw [List.length_map]; exact List.length_filter_le _ _
def OwnAt (m:Mem) (v:Value) (l:List ByteArray):Prop:=∃ b cap k cap',v=.slice (some ⟨b,0,none⟩) l.length cap/\l.length<=cap/\zbB m b l/\m.own b=some (k,cap',9)/\cap<=cap'
theorem OwnAt.strs {m:Mem} {v:Value} {l:List ByteArray} (h:OwnAt m v l):zaA m v l:=let ⟨b,c,_,_,h1,h2,h3,_⟩:=h; ⟨b,c,h1,h2,h3⟩
theorem OwnAt.add {m:Mem} {v:Value} {l:List ByteArray} (h:OwnAt m v l) {b' n cap:Nat} {el:TypeId} {V:Nat->Value} (hf:m.free b'):OwnAt (m.add b' n cap el V) v l:=by
 obtain ⟨b,c,k,c',h1,h2,h3,h4,h5⟩:=h;refine ⟨b,c,k,c',h1,h2,h3.add hf,?_,h5⟩;show (if b=b' then _ else m.own b)=_
 rw [if_neg]
 . exact h4
 . intro e;rw [← e] at hf;rw [hf.2] at h4; cases h4
theorem OwnAt.zd8 {m:Mem} {v:Value} {l:List ByteArray} (h:OwnAt m v l) {b':Nat} (hf:m.free b'):(zaV v).block≠b':=by
 obtain ⟨b,c,k,c',rfl,h2,h3,h4,h5⟩:=h;intro e;have e:b=b':=e;rw [← e] at hf;rw [hf.2] at h4; cases h4
structure TabAt (m:Mem) (es:List MapEntry) (T:List Pr):Prop where
 has:∀ a,za5 es (.string a)=true↔q3a T a≠[]
 own:∀ a,q3a T a≠[]->OwnAt m (zbM es (.string a)) (q3a T a)
 sep:∀ a a',q3a T a≠[]->q3a T a'≠[]->a≠a'->(zaV (zbM es (.string a))).block≠(zaV (zbM es (.string a'))).block
theorem TabAt.empty {m:Mem}:TabAt m [] []:=⟨fun a=>⟨fun h=>by (cases h),fun h=>absurd rfl h⟩,fun a h=>absurd rfl h,fun a a' h=>absurd rfl h⟩
theorem TabAt.add {m:Mem} {es:List MapEntry} {T:List Pr} (h:TabAt m es T) {b' n cap:Nat} {el:TypeId} {V:Nat->Value} (hf:m.free b'):TabAt (m.add b' n cap el V) es T:=⟨h.has,fun a ha=>(h.own a ha).add hf,h.sep⟩
theorem TabAt.step {m m':Mem} {es es':List MapEntry} {T:List Pr} (h:TabAt m es T) {a s:ByteArray} {v':Value} (hh:∀ a',za5 es' (.string a')=true↔(za5 es (.string a')=true\/a'=a)) (hg:zbM es' (.string a)=v') (ho:∀ a',a'≠a->zbM es' (.string a')=zbM es (.string a'))
  (hn:OwnAt m' v' (q3a T a++[s])) (hk:∀ a',a'≠a->q3a T a'≠[]->OwnAt m' (zbM es (.string a')) (q3a T a')/\(zaV (zbM es (.string a'))).block≠(zaV v').block):TabAt m' es' (T++[(a,s)]):=by
 refine ⟨fun a' => ?_,fun a' ha => ?_,fun a1 a2 h1 h2 hne => ?_⟩
 . rw [hh a',h.has a'];by_cases e:a'=a
   . subst e;rw [qls]; simp
   . rw [qje T s e]; simp [e]
 . by_cases e:a'=a
   . subst e;rw [qls,hg]; exact hn
   . rw [qje T s e] at ha ⊢;rw [ho a' e]; exact (hk a' e ha).1
 . by_cases e1:a1=a
   . subst e1;have e2:a2≠a1:=fun e=>hne e.symm;rw [qje T s e2] at h2;rw [hg,ho a2 e2];exact fun e=>(hk a2 e2 h2).2 e.symm
   . rw [qje T s e1] at h1;rw [ho a1 e1];by_cases e2:a2=a
     . subst e2;rw [hg]; exact (hk a1 e1 h1).2
     . rw [qje T s e2] at h2;rw [ho a2 e2]; exact h.sep a1 a2 h1 h2 hne
theorem qoz {a a':ByteArray} (h:a'≠a):(Value.string a')≠.string a:=fun e=>h (by cases e; rfl)
theorem qg2 {m:Mem} {l:List ByteArray} {b n cap:Nat} {V:Nat->Value} (hn:n=l.length) (hc:n<=cap) (hV:∀ i (h:i<l.length),V i=.string l[i]):OwnAt (m.add b n cap 9 V) (.slice (some ⟨b,0,none⟩) n (cap - 0)) l:=by
 subst hn;refine ⟨b,cap,l.length,cap,rfl,hc,qho rfl hV,?_,Nat.le_refl _⟩;show (if b=b then _ else _)=_
 rw [if_pos rfl]
theorem TabAt.ins {m:Mem} {es:List MapEntry} {T:List Pr} (h:TabAt m es T) {a s:ByteArray} (hk:za5 es (.string a)=false) {b cap c:Nat} (hf:m.free b) (hc:1<=cap) :
  TabAt (m.add b 1 cap 9 (atV [.string s])) (zcI es c (.string a) (.slice (some ⟨b,0,none⟩) 1 (cap - 0))) (T++[(a,s)]):=by
 have he:q3a T a=[]:=by
  cases hs:q3a T a with
  | nil=>rfl
  | cons p r =>
    rw [(h.has a).2 (by rw [hs]; simp)] at hk; cases hk
 refine h.step (fun a' => ?_) (Tb.zcQ hk) (fun a' hne=>Tb.zb3 (qoz hne)) ?_ fun a' hne ha=>⟨(h.own a' ha).add hf,(h.own a' ha).zd8 hf⟩
 . rw [Tb.zdx];exact ⟨fun h=>h.imp_right fun e=>by (cases e; rfl),fun h=>h.imp_right fun e=>by rw [e]⟩
 . rw [he];refine qg2 (l:=[s]) rfl hc fun i hi => ?_
   obtain rfl:i=0:=by simp at hi; omega
   rfl
theorem TabAt.set {m m':Mem} {es:List MapEntry} {T:List Pr} (h:TabAt m es T) {a s:ByteArray} {v':Value} (hk:za5 es (.string a)=true) (hn:OwnAt m' v' (q3a T a++[s]))
  (ho:∀ a',a'≠a->q3a T a'≠[]->OwnAt m' (zbM es (.string a')) (q3a T a')/\(zaV (zbM es (.string a'))).block≠(zaV v').block):TabAt m' (zdL es (.string a) v') (T++[(a,s)]):=by
 refine h.step (fun a' => ?_) (Tb.zdy hk) (fun a' hne=>Tb.zct (qoz hne)) hn ho;rw [Tb.zdw hk];exact ⟨.inl,fun h=>h.elim id fun e=>by rw [e]; exact hk⟩
theorem qh2 {m:Mem} {b:Nat} {l:List ByteArray} (h:zbB m b l) {i:Nat} (hi:i<l.length):zcY m ⟨b,0,none⟩ i=.string l[i]:=by
 show (m.cell ((⟨b,0,none⟩:Addr).add i)).getD undef=_;rw [qeg,h i hi]; rfl
theorem TabAt.grow {m:Mem} {es:List MapEntry} {T:List Pr} (h:TabAt m es T) {a s:ByteArray} (hk:za5 es (.string a)=true) {b cap:Nat} (hf:m.free b) {v:Value} (hv:v=zbM es (.string a)) (hc:zaL v+1<=cap) :
  TabAt (m.add b ((zaL v+1) * 1) cap 9 (zc5 (zcY m (zaV v)) (zaL v * 1) fun j=>atV [.string s] (0+j))) (zdL es (.string a) (.slice (some ⟨b,0,none⟩) (zaL v+1) (cap - 0))) (T++[(a,s)]):=by
 have h1:=h.own a ((h.has a).1 hk);rw [← hv] at h1;have hl:=h1.strs.len;refine h.set hk ?_ fun a' hne ha=>⟨(h.own a' ha).add hf,(h.own a' ha).zd8 hf⟩;rw [Nat.mul_one,Nat.mul_one];refine qg2 (by rw [hl]; simp) hc fun i hi => ?_
 obtain ⟨b',c',k,c2,rfl,h2,h3,_⟩:=h1;unfold zc5;show (if i<(q3a T a).length then _ else _)=_
 by_cases hc:i<(q3a T a).length
 . rw [if_pos hc,List.getElem_append_left hc];exact qh2 h3 hc
 . rw [if_neg hc];have:i=(q3a T a).length:=by simp at hi; omega
   subst this;show atV [.string s] (0+((q3a T a).length - (q3a T a).length))=_;rw [Nat.sub_self]; simp; rfl
theorem TabAt.put {m:Mem} {es:List MapEntry} {T:List Pr} (h:TabAt m es T) {a s:ByteArray} (hk:za5 es (.string a)=true) {v:Value} (hv:v=zbM es (.string a)) (hc:zaL v+1<=zbY v) :
  TabAt (m.put (zaV v).block (zaL v * 1) (1 * 1) fun j=>atV [.string s] (0+j)) (zdL es (.string a) (.slice (some (zaV v)) (zaL v+1) (zbY v))) (T++[(a,s)]):=by
 have hne:=(h.has a).1 hk;have h1:=h.own a hne;have hsep:=h.sep a;rw [← hv] at h1;refine h.set hk ?_ fun a' hn ha => ?_
 . obtain ⟨b',c',k,c2,rfl,h2,h3,h4,h5⟩:=h1;refine ⟨b',c',k,c2,?_,?_,fun i hi => ?_,h4,h5⟩
   . show Value.slice _ ((q3a T a).length+1) _=.slice _ (q3a T a++[s]).length _;rw [List.length_append]; rfl
   . rw [List.length_append]; exact hc
   . show (if b'=b'/\(none:Option _)=none/\(q3a T a).length * 1<=i/\i<(q3a T a).length * 1+1 * 1 then some (atV [.string s] (0+(i - (q3a T a).length * 1))) else m.cell ⟨b',i,none⟩)=_
     by_cases hc:i<(q3a T a).length
     . rw [if_neg (by omega),List.getElem_append_left hc]; exact h3 i hc
     . have:i=(q3a T a).length:=by simp at hi; omega
       subst this;rw [if_pos ⟨rfl,rfl,by omega,by omega⟩,Nat.mul_one,Nat.sub_self]; simp; rfl
 . have h2:=hsep a' hne ha fun e=>hn e.symm;rw [← hv] at h2;refine ⟨?_,fun e=>h2 e.symm⟩;obtain ⟨b',c',k,c2,e1,h3,h4,h5,h6⟩:=h.own a' ha;refine ⟨b',c',k,c2,e1,h3,fun i hi => ?_,h5,h6⟩;show (if b'=(zaV v).block/\_ then _ else m.cell ⟨b',i,none⟩)=_
   rw [if_neg]
   . exact h4 i hi
   . intro ⟨e,_⟩;rw [e1] at h2;exact h2 e.symm
theorem qc1 {m:Mem} (h:m.bounded) (b o n:Nat) (Y:Nat->Value):(m.put b o n Y).bounded:=by
 obtain ⟨N,hN⟩:=h;refine ⟨max N (b+1),fun b' hb=>⟨fun a ha => ?_,?_⟩⟩
 . show (if a.block=b/\_ then _ else m.cell a)=none
   rw [if_neg (by omega)]; exact (hN b' (by omega)).1 a ha
 . exact (hN b' (by omega)).2
end
end Go.Proofs.YtbhlngmhgplepaaDoor.Aes
