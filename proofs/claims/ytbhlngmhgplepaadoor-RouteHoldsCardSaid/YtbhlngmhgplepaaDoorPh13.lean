/-
  zcS behind one another: the symbolic simulator and what it is told of the program.
-/
import Derived.Test.YtbhlngmhgplepaaDoorZhHol3
import Derived.Test.YtbhlngmhgplepaaDoorPh11
import Derived.Test.YtbhlngmhgplepaaDoorZhHol2
import Derived.Test.YtbhlngmhgplepaaDoorPh12
import Derived.Test.YtbhlngmhgplepaaDoorPh9
import Derived.Test.YtbhlngmhgplepaaDoorPh7
import Derived.Deep.Slices
set_option maxRecDepth 1000000
namespace Go.Proofs.YtbhlngmhgplepaaDoor.Aes
noncomputable section
open Go.Sim
open Go.Proofs
open Go.Bfs
variable {α:Type}
def nmK (names:List Nat) (C:Cut):Bool:=zab (qua 1 names C C) (zaO qpa C.heap) false
section
variable (V:Nat->Value) (N n k:Nat) (x y:ByteArray) (w:Int) (X Y:ByteArray) (mn o:Bool) (es:List MapEntry) (c:Nat) (q:Pth) (d hn kz kw:Bool) (i j:Nat)
theorem jbe:nmK [0,1,2,3] (hlC V N n k x y w X Y false es c i)=true:=by kernel_rfl
theorem zjV:nmK [0,1,2] (hlC V N n k x y w X Y true es c i)=true:=by kernel_rfl
theorem zjU:nmK [0,1,2,5] (hlC V N n k x y w X Y false es c i)=true:=by kernel_rfl
theorem zjT:nmK [0,1,4] (hlC V N n k x y w X Y true es c i)=true:=by kernel_rfl
theorem hz_n:nmK [0,1,4] (hzC x y w X Y)=true:=by kernel_rfl
theorem zkb:nmK [0,1,2,3] (hbC V N n k x y w X Y true true es c q d i)=true:=by kernel_rfl
theorem jql:nmK [0,1,2,6,7] (hfC V N n k x y w X Y true 0 es c q true kz kw i)=true:=by kernel_rfl
theorem jrl:(((hlC V N n k x y w X Y mn es c i).frames[0]?).bind fun p=>p.tmps[11]?)=some (some (.int .i64 (.sym i))):=by cases mn <;> kernel_rfl
theorem hb_n:nmK (hm4 mn) (hbC V N n k x y w X Y mn o es c q d i)=true:=by cases mn <;> cases o <;> kernel_rfl
theorem jce:nmK (hoN mn) (hbC V N n k x y w X Y mn o es c q d i)=true:=by cases mn <;> cases o <;> kernel_rfl
theorem q7z:(((hbC V N n k x y w X Y mn o es c q d i).frames[0]?).bind fun p=>p.tmps[10]?)=some (some (.bool (.sym d))):=by cases mn <;> cases o <;> kernel_rfl
theorem qc9:(((hbC V N n k x y w X Y mn true es c q d i).frames[0]?).bind fun p=>p.tmps[12]?)=some (some (.slice ⟨3,.lit 0⟩ (.sym q.length) (.sym 1))):=by cases mn <;> kernel_rfl
theorem q8z:(((hbC V N n k x y w X Y mn o es c q d i).frames[0]?).bind fun p=>p.tmps[14]?)=some (some (.int .i64 (.sym i))):=by cases mn <;> cases o <;> kernel_rfl
theorem jde:(hbC V N n k x y w X Y mn true es c q d i).heap[3]? = some (.ent (.own (.fn (zc8 (qic q)) q.length) true 9)):=by cases mn <;> kernel_rfl
theorem hc_n:nmK (hm4 mn) (hcC V N n k x y w X Y mn o es c q d i j)=true:=by cases mn <;> cases o <;> kernel_rfl
theorem jsl:(((hcC V N n k x y w X Y mn o es c q d i j).frames[0]?).bind fun p=>p.tmps[15]?)=some (some (.int .i64 (.sym j))):=by cases mn <;> cases o <;> kernel_rfl
theorem zj9:nmK (hm4 mn) (hdC V N n k x y w X Y mn o es c q d i j)=true:=by cases mn <;> cases o <;> kernel_rfl
theorem jtl:(((hdC V N n k x y w X Y mn o es c q d i j).frames[0]?).bind fun p=>p.tmps[16]?)=some (some (.int .i64 (.sym j))):=by cases mn <;> cases o <;> kernel_rfl
theorem jul:(((hdC V N n k x y w X Y mn o es c q d i j).frames[0]?).bind fun p=>p.tmps[10]?)=some (some (.bool (.sym d))):=by cases mn <;> cases o <;> kernel_rfl
theorem hn_n:nmK (hm4 mn) (hnC V N n k x y w X Y mn o es c q d i)=true:=by cases mn <;> cases o <;> kernel_rfl
theorem jvl:(((hnC V N n k x y w X Y mn o es c q d i).frames[0]?).bind fun p=>p.tmps[17]?)=some (some (.int .i64 (.sym i))):=by cases mn <;> cases o <;> kernel_rfl
theorem zj0:nmK (hyB mn hn) (hfC V N n k x y w X Y mn (hrK o) es c q hn kz kw i)=true:=by cases mn <;> cases o <;> cases hn <;> cases kz <;> cases kw <;> kernel_rfl
theorem qd9:nmK (hyA mn hn) (hfC V N n k x y w X Y mn 1 es c q hn kz kw i)=true:=by cases mn <;> cases hn <;> cases kz <;> cases kw <;> kernel_rfl
theorem jwl:nmK (hnA mn) (hfC V N n k x y w X Y mn 0 es c q true kz kw i)=true:=by cases mn <;> kernel_rfl
theorem zjZ:zas (fun rk=>zab (qua 1 (hfA mn rk) (hfC V N n k x y w X Y mn rk es c q false kz kw i) (hfC V N n k x y w X Y mn rk es c q false kz kw i)) (zaO qpa (hfC V N n k x y w X Y mn rk es c q false kz kw i).heap) false) (qqa 4 0)=zas (fun _=>true) (qqa 4 0):=by cases mn <;> cases kz <;> cases kw <;> kernel_rfl
theorem qe9:zas (fun rk=>(((hfC V N n k x y w X Y mn rk es c q hn kz kw i).frames[0]?).bind fun p=>p.tmps[24]?)) (qqa 4 0)=zas (fun _=>some (some (.int .i64 (.sym (i:Int))))) (qqa 4 0):=by cases mn <;> cases hn <;> cases kz <;> cases kw <;> kernel_rfl
end
end
noncomputable section
open Go.Sim
open Go.Proofs
open Go.Sort
open Go.Bfs
variable {α:Type}
theorem jdi (s:ByteArray) (j:Nat):suf s (j+1)=suf (zb4 s) j:=by
 induction j with
 | zero=>rfl
 | succ j ih =>
   show zb4 (suf s (j+1))=zb4 (suf (zb4 s) j);rw [ih]
theorem qkt {x y:ByteArray} {i k:Nat} (h:suf x i=suf y k) (t:Nat):suf x (i+t)=suf y (k+t):=by
 induction t with
 | zero=>exact h
 | succ t ih =>
   show zb4 (suf x (i+t))=zb4 (suf y (k+t));rw [ih]
theorem q9z:∀ (f:Nat) (r:ByteArray),zbl r->r.size<=2 * f->∀ i,(i<zdl f r->zaP (suf r i)=true)/\(i=zdl f r->zaP (suf r i)=false)
 | 0,r,h,hz=>by have:=h.1; omega
 | f+1,r,h,hz=>fun i=>by
   have e:zdl (f+1) r=zab (zaP r) (Nat.succ (zdl f (zb4 r))) 0:=rfl;cases hc:zaP r with
   | false =>
     rw [e,hc];refine ⟨fun hi=>absurd hi (Nat.not_lt_zero _),fun hi => ?_⟩;obtain rfl:i=0:=hi;exact hc
   | true =>
     rw [e,hc];obtain ⟨h1,h2⟩:=q4h h hc;have ih:=q9z f (zb4 r) h1 (by omega)
     cases i with
     | zero=>exact ⟨fun _=>hc,fun hi=>absurd hi (by show ¬ 0=Nat.succ _; omega)⟩
     | succ j =>
       rw [jdi];exact ⟨fun hi=>(ih j).1 (Nat.lt_of_succ_lt_succ hi),fun hi=>(ih j).2 (Nat.succ.inj hi)⟩
theorem qcl {s:ByteArray} (h:zbl s) (i:Nat):(i<dep s->zaP (suf s i)=true)/\(i=dep s->zaP (suf s i)=false):=q9z 16 s h (by have:=h.2.1; omega) i
theorem jxl {s:ByteArray} (h:zbl s) {i j:Nat} (hij:i<j) (hj:j<=dep s):(suf s j).size<(suf s i).size:=by
 induction j with
 | zero=>exact absurd hij (Nat.not_lt_zero _)
 | succ j ih =>
   have h1:=(q4h (qy8 h j (by omega)) ((qcl h j).1 (by omega))).2
   have h2:suf s (j+1)=zb4 (suf s j):=rfl;rw [h2];by_cases c:i=j
   . subst c; omega
   . have:=ih (by omega) (by omega)
     omega
theorem jyl {x y:ByteArray} (hx:zbl x) (hy:zbl y) {i k:Nat} (hi:i<=dep x) (hk:k<=dep y) (h:suf x i=suf y k):dep x - i=dep y - k:=by
 have h1:zaP (suf y (k+(dep x - i)))=false:=by
  rw [← qkt h];exact (qcl hx _).2 (by omega)
 have h2:zaP (suf x (i+(dep y - k)))=false:=by
  rw [qkt h];exact (qcl hy _).2 (by omega)
 have h3:¬ k+(dep x - i)<dep y:=fun c=>by rw [(qcl hy _).1 c] at h1; cases h1
 have h4:¬ i+(dep y - k)<dep x:=fun c=>by rw [(qcl hx _).1 c] at h2; cases h2
 omega
theorem q7u {x y:ByteArray} (h:zbz x y=true):cI x y<=dep x/\zdY x y (cI x y)/\∀ j,j<cI x y->¬ zdY x y j:=by
 refine ⟨q45 h,?_⟩;unfold zbz at h;unfold cI;cases ho:zf5 x y with
 | none=>rw [ho] at h; cases h
 | some i =>
   obtain ⟨h1,_,h3⟩:=List.find?_range_eq_some.1 ho;refine ⟨zbR.1 h1,fun j hj hm => ?_⟩;have:=h3 j hj;rw [qrc hm] at this;cases this
theorem qxi {x y:ByteArray} (hx:zbl x) (hy:zbl y) (h:zbz x y=true):zbz y x=true/\cI y x=cK x y/\cK y x=cI x y:=by
 obtain ⟨h1,h2,h3⟩:=q7u h;obtain ⟨k1,k2,k3⟩:=qah h2;have hd:=jyl hx hy h1 k1 k2.symm;obtain ⟨m1,m2⟩:=qlq (x:=y) (y:=x) (i:=cK x y) k1 ⟨cI x y,h1,k2.symm⟩ fun j hj ⟨i',hi',he⟩=>by
  have hjk:j<zc4 x y (cI x y):=hj;have hge:¬ i'<cI x y:=fun c=>h3 i' c ⟨j,by omega,he.symm⟩
  have e1:=qkt k2.symm (i' - cI x y);rw [show cI x y+(i' - cI x y)=i' by omega,he] at e1
  have:=jxl hy (i:=j) (j:=zc4 x y (cI x y)+(i' - cI x y)) (by omega) (by omega)
  rw [e1] at this;omega
 refine ⟨m1,m2,?_⟩;unfold cK;rw [m2];exact jth h1 k2.symm fun j hj he=>h3 j hj ⟨cK x y,k1,he.symm⟩
theorem qlt {x y:ByteArray} (hx:zbl x) (hy:zbl y) (h:zbz x y=true):zbm y x=zbm x y/\∀ j,j<zbm x y->zcB x y j=zcB y x (zbm x y - 1 - j):=by
 obtain ⟨h1,h2,h3⟩:=qxi hx hy h;obtain ⟨_,k2,_⟩:=qah (q7u h).2.1;have k2:suf y (cK x y)=suf x (cI x y):=k2;have hN:zbm x y=cI x y+1+cK x y:=rfl;refine ⟨by show cI y x+1+cK y x=_; rw [h2,h3,hN]; omega,fun j hj => ?_⟩
 unfold zcB zgu;rw [h2,h3,hN];rw [hN] at hj;by_cases c:j<=cI x y
 . rw [if_pos c];by_cases c2:j=cI x y
   . rw [if_pos (by omega),show cI x y+1+cK x y - 1 - j=cK x y by omega,k2,c2]
   . rw [if_neg (by omega),show cI x y - (cI x y+1+cK x y - 1 - j - cK x y)=j by omega]
 . rw [if_neg c,if_pos (by omega),show cK x y - (j - cI x y)=cI x y+1+cK x y - 1 - j by omega]
theorem q8u {s:ByteArray} (h:∀ j,j<s.size->zaG s j≠46):zaP s=false:=by
 refine decide_eq_false fun hf => ?_
 rcases q9g s 46 with ⟨h1,_⟩ | ⟨m,h1,hm,h2,_⟩
 . have:fiI s = -1:=h1;omega
 . exact h m hm h2
theorem qf9 {x y:ByteArray} (hx:∀ j,j<x.size->zaG x j≠46) (hy:∀ j,j<y.size->zaG y j≠46) (h:x≠y):zbz x y=false:=by
 refine qvz fun i hi ⟨k,hk,he⟩ => ?_
 rw [qnj (q8u hx)] at hi;rw [qnj (q8u hy)] at hk;obtain rfl:i=0:=by omega
 obtain rfl:k=0:=by omega
 exact h he.symm
end
end Go.Proofs.YtbhlngmhgplepaaDoor.Aes
namespace Go.Bfs
noncomputable section
theorem Best.one (succ:Str->List Str) (x:Str):Best succ x x [x]:=by
 refine ⟨⟨rfl,trivial⟩,rfl,fun w hw _ => ?_⟩;match w,hw with
 | [a],hw=>rw [Option.some.inj hw.1]; exact .inr ⟨rfl,.inl rfl⟩
 | a::b::r,_=>exact .inl (by simp)
end
end Go.Bfs
namespace Go.Proofs.YtbhlngmhgplepaaDoor.Aes
noncomputable section
open Go.Sim
open Go.Proofs
open Go.Sort
open Go.Bfs
variable {α:Type}
def TrH (es:List MapEntry) (c:Nat):Prop:=zdF es c/\es.length<=1000/\∀ p∈srL es,zgr p.1 p.2=true
theorem qu2:srL []=[]:=List.length_eq_zero_iff.1 (by rw [qc2]; rfl)
theorem TrH.nil:TrH [] 0:=⟨zdF.nil,Nat.zero_le _,fun p hp=>by rw [qu2] at hp; cases hp⟩
theorem TrH.ag {es:List MapEntry} {c:Nat} (h:TrH es c):agG es c:=⟨h.1.ok,by have:=h.2.1; show es.length<=_; omega⟩
theorem TrH.ins {es:List MapEntry} {c:Nat} (h:TrH es c) {A B:ByteArray} (hk:za5 es (pK A B)=false) (hz:es.length<1000) (ho:zgr A B=true):TrH (tiK es c A B) (c+1)/\∀ p∈srL es,p∈srL (tiK es c A B):=by
 have hnot:(A,B) ∉ srL es:=fun hm=>by rw [show za5 es (pK A B)=true from (zbd h.1.key (p:=(A,B))).2 hm] at hk; cases hk
 obtain ⟨m1,m2⟩:=h.1.ins hnot;have e:srL (tiK es c A B)=zek (srL es) (A,B):=m2;refine ⟨⟨m1,?_,fun p hp => ?_⟩,fun p hp=>by rw [e]; exact zdQ.2 (.inr hp)⟩
 . show (es++[_]).length<=_;rw [List.length_append];show es.length+1<=_;omega
 . rw [e] at hp;rcases zdQ.1 hp with rfl | hp
   . exact ho
   . exact h.2.2 p hp
theorem TrH.one {A B:ByteArray} (ho:zgr A B=true):TrH (zeY A B) 1:=by
 obtain ⟨m1,m2⟩:=zdF.one (A,B);refine ⟨m1,by show 1<=_; omega,fun p hp => ?_⟩
 have e:srL (zeY A B)=[(A,B)]:=m2;rw [e] at hp;rw [List.mem_singleton.1 hp]; exact ho
theorem qps {es:List MapEntry} {c:Nat} (h:TrH es c) (A B:ByteArray):(∃ u,u<4/\∀ r:List Prop,(∀ p∈r,p)->∀ p∈cHt es A B u r,p)\/((∀ r:List Prop,(∀ p∈r,p)->∀ p∈cHt es A B 4 r,p)/\TrH (tiK es c A B) (c+1)/\∀ p∈srL es,p∈srL (tiK es c A B)):=by
 obtain ⟨o,ho⟩:=qd2 A B;cases ho with
 | bad k1 k2=>exact .inl ⟨0,by omega,fun r hr=>qbb k2 hr⟩
 | same k1 k2=>exact .inl ⟨1,by omega,fun r hr=>qbb k2 hr⟩
 | ok k1 k2 =>
   cases hh:za5 es (pK A B) with
   | true=>exact .inl ⟨2,by omega,fun r hr=>k2 (zaa hh (zaa (qvu h.1.val hh) hr))⟩
   | false =>
     by_cases hz:es.length>=1000
     . exact .inl ⟨3,by omega,fun r hr=>k2 (zaa hh (zaa (decide_eq_true (by omega)) hr))⟩
     . exact .inr ⟨fun r hr=>k2 (zaa hh (zaa (decide_eq_false (by omega)) (zaa hh hr))),h.ins hh (by omega) k1⟩
theorem qqs (A B:ByteArray):(∃ u,u<2/\∀ r:List Prop,(∀ p∈r,p)->∀ p∈cHn A B u r,p)\/((∀ r:List Prop,(∀ p∈r,p)->∀ p∈cHn A B 2 r,p)/\TrH (zeY A B) 1):=by
 obtain ⟨o,ho⟩:=qd2 A B;cases ho with
 | bad k1 k2=>exact .inl ⟨0,by omega,fun r hr=>qbb k2 hr⟩
 | same k1 k2=>exact .inl ⟨1,by omega,fun r hr=>qbb k2 hr⟩
 | ok k1 k2=>exact .inr ⟨fun r hr=>k2 hr,.one k1⟩
theorem qe1 {es:List MapEntry} {c:Nat} (h:zdF es c) (a:ByteArray):(q3a (srL es) a).Pairwise sLt:=by
 unfold q3a;refine List.pairwise_map.2 (List.pairwise_filter.2 ?_);refine ((qb2 (q5c es)).and (qn8 h)).imp fun {p q} ⟨h1,h2⟩ hp hq => ?_
 have hp:p.1=a:=@of_decide_eq_true _ (Classical.propDecidable _) hp;have hq:q.1=a:=@of_decide_eq_true _ (Classical.propDecidable _) hq;rcases qim p q with h3 | h3 | h3
 . rcases h3 with h3 | ⟨_,h3⟩
   . rw [hp,hq] at h3;exact absurd h3 (List.lt_irrefl _)
   . exact h3
 . exact absurd h3 h2
 . exact absurd h3 h1
section
variable {es:List MapEntry} {c:Nat} {x y:ByteArray}
theorem qgp (h:zdF es c) (hxy:x≠y):(∀ q,zbI es x y=some q->Best (q3a (srL es)) x y q)/\(zbI es x y=none->∀ w,Wf (q3a (srL es)) x w->w.getLast? ≠ some y) :=
 j9b (succ:=q3a (srL es)) (fun _=>rfl) (qe1 h) (q0z es x y) 0 [] (LvI.start hxy) rfl
theorem jzl (h:zdF es c) (hxy:x≠y) {q:Pth} (hq:Best (q3a (srL es)) x y q):zbI es x y=some q:=by
 obtain ⟨h1,h2⟩:=qgp h hxy;cases hb:zbI es x y with
 | none=>exact absurd hq.2.1 (h2 hb q hq.1)
 | some q'=>rw [(h1 q' hb).eq hq]
theorem jdc {es':List MapEntry} {c':Nat} (h':zdF es' c') (hs:∀ p∈srL es,p∈srL es') (hxy:x≠y) {q:Pth} (hq:Best (q3a (srL es)) x y q):(zbI es' x y).isSome=true/\(seQ es' x y).length<=q.length:=by
 have hm:∀ a b,b∈q3a (srL es) a->b∈q3a (srL es') a:=fun a b hb=>zb1.2 (hs _ (zb1.1 hb));obtain ⟨h1,h2⟩:=qgp h' hxy;unfold seQ;cases hb:zbI es' x y with
 | none=>exact absurd hq.2.1 (h2 hb q (hq.1.mono hm))
 | some q' =>
   refine ⟨rfl,?_⟩;show q'.length<=_;rcases (h1 q' hb).2.2 q (hq.1.mono hm) hq.2.1 with h3 | ⟨h3,_⟩ <;> omega
end
structure HR where
 mn:Bool
 o:Bool
 es:List MapEntry
 c:Nat
 q:Pth
section
variable (x y:ByteArray)
structure RtF (s:HR):Prop where
 tr:TrH (nxI s.mn s.es) (zab s.mn 0 s.c)
 rl:(zax x && zax y)=true
 best:Best (q3a (srL (nxI s.mn s.es))) x y s.q
 len:s.q.length<=1002
 kind:(s.o=true/\x=y/\s.q=[x])\/(s.o=false/\s.mn=false/\x≠y/\zbI s.es x y=some s.q)
variable {x y} {s:HR}
theorem RtF.pos (h:RtF x y s):0<s.q.length:=List.length_pos_iff.2 h.best.ne
theorem RtF.at {s:HR} {i:Nat} (hi:i<s.q.length):hqS s.q i=s.q[i]:=by
 unfold hqS;rw [Nat.zero_add,Nat.mul_one];exact q3h hi
theorem RtF.zgL (h:RtF x y s):∀ {i:Nat} (hi:i<s.q.length),zbl s.q[i]:=fun {i} hi=>by
 cases i with
 | zero =>
   rw [h.best.head hi];exact (qsm h.rl).1
 | succ i =>
   have h1:=h.best.step hi;have h2:=h.tr.2.2 _ (zb1.1 h1);exact (zbR.1 h2).2.1
theorem RtF.size (h:RtF x y s) {i:Nat} (hi:i<s.q.length):(hqS s.q i).size<=32:=by
 rw [RtF.at hi]; exact (h.zgL hi).2.1
theorem RtF.long (h:RtF x y s) (hl:1<s.q.length):s.mn=false:=by
 rcases h.kind with ⟨_,_,hq⟩ | ⟨_,hm,_⟩
 . rw [hq] at hl;exact absurd hl (by simp)
 . exact hm
theorem RtF.steps (h:RtF x y s) {i:Nat} (hi:i+1<s.q.length):mtB s.es (hqS s.q i) (hqS s.q (i+1))=true:=by
 have hm:=h.long (by omega)
 have h1:=zb1.1 (h.best.step hi);have htr:=h.tr;rw [hm] at h1 htr;rw [RtF.at (s:=s) (i:=i) (by omega),RtF.at hi]
 have hk:za5 s.es (pK s.q[i] s.q[i+1])=true:=(zbd htr.1.key (p:=(s.q[i],s.q[i+1]))).2 h1;have hv:zeA (zbM s.es (pK s.q[i] s.q[i+1]))=true:=qvu htr.1.val hk;unfold mtB;rw [hk,hv]; rfl
theorem RtF.next (h:RtF x y s) (hnd:∀ i,i<s.q.length->∀ j,j<(hqS s.q i).size->zaG (hqS s.q i) j≠46) {i:Nat} (hi:i+1<s.q.length):zcg s.es (hqS s.q i) y=(hqS s.q (i+1),0):=by
 have hm:=h.long (by omega)
 have htr:=h.tr;have zeR:=h.best;rw [hm] at htr zeR;have hlast:hqS s.q (s.q.length - 1)=y:=by
  rw [RtF.at (by omega)]
  exact h.best.last (by omega)
 have hd:=zeR.drop (i:=i) (by omega)
 have hne:hqS s.q i≠y:=by
  rw [← hlast,RtF.at (s:=s) (i:=i) (by omega),RtF.at (s:=s) (by omega)]
  exact fun e=>h.best.inj (i:=s.q.length - 1) (k:=i) (by omega) (by omega) e.symm
 have hb:zbI s.es (hqS s.q i) y=some (s.q.drop i):=by
  refine jzl htr.1 hne ?_
  rw [RtF.at (s:=s) (i:=i) (by omega)]
  exact hd
 have hr:(zax (hqS s.q i) && zax y)=true:=by
  have h1:zax (hqS s.q i)=true:=by
   rw [RtF.at (s:=s) (i:=i) (by omega)]
   exact qrc (h.zgL (by omega))
  have h2:zax y=true:=qrc (qsm h.rl).2;rw [h1,h2]; rfl
 have hc:zbz (hqS s.q i) y=false:=by
  refine qf9 (hnd i (by omega)) ?_ hne
  rw [← hlast];exact hnd _ (by omega)
 have hP:=qep (mn:=false) (es:=s.es) hr (decide_eq_false hne) (by rw [hc]; rfl)
 rw [show zcg s.es (hqS s.q i) y=zcg (nxI false s.es) (hqS s.q i) y from rfl,hP]
 show zah (zbI s.es (hqS s.q i) y) _ _=_;rw [hb];show (qic (s.q.drop i) 1,(0:Int))=_;have h2:1<(s.q.drop i).length:=by rw [List.length_drop]; omega
 rw [q3h h2,RtF.at hi];simp
end
end
noncomputable section
open Go.Sim
open Go.Proofs
open Go.Sort
open Go.Bfs
variable {α:Type}
inductive Hs
 | z
 | a (mn:Bool) (es:List MapEntry) (c i:Nat)
 | b (s:HR) (d:Bool) (i:Nat)
 | c (s:HR) (d:Bool) (i j:Nat)
 | d (s:HR) (d:Bool) (i j:Nat)
 | e (s:HR) (d:Bool) (i:Nat)
 | f (mn:Bool) (rk:Nat) (es:List MapEntry) (c:Nat) (q:Pth) (hn kz kw:Bool) (i:Nat)
section
variable (V:Nat->Value) (N n k:Nat) (x y:ByteArray) (w:Int) (X Y:ByteArray)
def HsC:Hs->Cut
 | .z=>hzC x y w X Y
 | .a mn es c i=>hlC V N n k x y w X Y mn es c i
 | .b s d i=>hbC V N n k x y w X Y s.mn s.o s.es s.c s.q d i
 | .c s d i j=>hcC V N n k x y w X Y s.mn s.o s.es s.c s.q d i j
 | .d s d i j=>hdC V N n k x y w X Y s.mn s.o s.es s.c s.q d i j
 | .e s d i=>hnC V N n k x y w X Y s.mn s.o s.es s.c s.q d i
 | .f mn rk es c q hn kz kw i=>hfC V N n k x y w X Y mn rk es c q hn kz kw i
def zhj (d:Bool) (q:Pth) (i:Nat):Prop:=d=false->∀ i',i'<i->∀ j,j<(hqS q i').size->zaG (hqS q i') j≠46
def KF (mn:Bool) (rk:Nat) (es:List MapEntry) (q:Pth):Prop:=(rk=0/\(zax x && zax y)=false)\/(rk=1/\(zax x && zax y)=true/\x≠y)\/(rk=2/\mn=false/\(zax x && zax y)=true/\x≠y/\zbI es x y=some q)\/(rk=3/\(zax x && zax y)=true/\x=y/\1<=q.length)
def HF (hn kz kw:Bool):Prop:=hn=true\/(hn=false/\(zax x && zax y)=true/\zbz x y=true/\decide (cK x y=0)=kz/\decide (cK y x=0)=kw)
def HsQ:Hs->Prop
 | .z=>True
 | .a mn es c i=>i<=n/\TrH (nxI mn es) (zab mn 0 c)
 | .b s d i=>RtF x y s/\i<=s.q.length/\zhj d s.q i
 | .c s d i j=>RtF x y s/\i<s.q.length/\j<=i/\zhj d s.q i
 | .d s d i j=>RtF x y s/\i<s.q.length/\j<=(hqS s.q i).size/\zhj d s.q i/\(d=false->∀ j',j'<j->zaG (hqS s.q i) j'≠46)
 | .e s d i=>RtF x y s/\i+1<=s.q.length/\zhj d s.q s.q.length
 | .f mn rk es c q hn kz kw i=>TrH (nxI mn es) (zab mn 0 c)/\KF x y mn rk es q/\HF x y hn kz kw/\i<=zab hn 0 (zbm x y)
def HsM:Hs->Nat
 | .z=>20000000000
 | .a _ _ _ i=>10000000000+(n - i)
 | .b s _ i=>1000000000+(s.q.length - i) * 100000
 | .c s _ i j=>1000000000+(s.q.length - i - 1) * 100000+50000+(i - j)
 | .d s _ i j=>1000000000+(s.q.length - i - 1) * 100000+((hqS s.q i).size - j)+1
 | .e s _ i=>500000000+(s.q.length - i)
 | .f _ _ _ _ _ hn _ _ i=>zab hn 0 (zbm x y) - i
def q6e (a:Hs) (J:zaQ):Prop:=qlb zbW 1 (HsC V N n k x y w X Y) (fun a'=>HsQ n x y a'/\HsM n x y a'<HsM n x y a) zju ((HsC V N n k x y w X Y a).fill J)
end
section
variable {V:Nat->Value} {N n k:Nat} {x y:ByteArray} {w:Int} {X Y:ByteArray}
theorem zfi {q:Pth} {i:Nat} (hi:i<q.length) {r:List Prop} (hr:∀ p∈r,p):∀ p∈hqI q i r,p:=zaa ⟨by omega,by omega⟩ (zaa (by omega) hr)
theorem h_b {s:HR} {d:Bool} {i:Nat} (J:zaQ) (ha:HsQ n x y (.b s d i)):q6e V N n k x y w X Y (.b s d i) J:=by
 obtain ⟨h,hi,hd⟩:=ha;by_cases c:i<s.q.length
 . refine qzb (some (1,9)) 20000 (Hs.c s d i 0) ⟨⟨h,c,Nat.zero_le _,hd⟩,?_⟩ (fun z=>zkc V N n k x y w X Y J z s.mn s.o s.es s.c s.q d i) (hc_n V N n k x y w X Y s.mn s.o s.es s.c s.q d i 0) (fun q hq p u hp hu => ?_) (fun e he=>by cases he) (zaa (decide_eq_true (by omega)) qaa)
   . have:=h.len;show 1000000000+(s.q.length - i - 1) * 100000+50000+(i - 0)<1000000000+(s.q.length - i) * 100000;omega
   . obtain rfl:=List.mem_singleton.1 hq;exact q2a (jsl V N n k x y w X Y s.mn s.o s.es s.c s.q d i 0) hp hu (q6a rfl)
 . have e:i=s.q.length:=by omega
   refine qzb (some (1,3)) 20000 (Hs.e s d 0) ⟨⟨h,h.pos,e▸hd⟩,?_⟩ (fun z=>j2k V N n k x y w X Y J z s.mn s.o s.es s.c s.q d i) (hn_n V N n k x y w X Y s.mn s.o s.es s.c s.q d 0) (fun q hq p u hp hu => ?_) (fun e he=>by cases he) (zaa (decide_eq_false (by omega)) qaa)
   . have:=h.len;show 500000000+(s.q.length - 0)<1000000000+(s.q.length - i) * 100000;omega
   . obtain rfl:=List.mem_singleton.1 hq;exact q2a (jvl V N n k x y w X Y s.mn s.o s.es s.c s.q d 0) hp hu (q6a rfl)
theorem h_c {s:HR} {d:Bool} {i j:Nat} (J:zaQ) (ha:HsQ n x y (.c s d i j)):q6e V N n k x y w X Y (.c s d i j) J:=by
 obtain ⟨h,hi,hj,hd⟩:=ha;have hl:=h.len;by_cases c:j<i
 . refine q1a (some (1,9)) 20000 (Hs.c s d i (j+1)) ⟨⟨h,hi,by omega,hd⟩,?_⟩ (fun z=>j0h V N n k x y w X Y J z s.mn s.o s.es s.c s.q d i j) (hc_n V N n k x y w X Y s.mn s.o s.es s.c s.q d i (j+1)) (zaa (decide_eq_true (by omega)) (zfi hi (zfi (by omega) (zaa (decide_eq_false ?_) (zaa ⟨by omega,by omega⟩ qaa)))))
   . show 1000000000+(s.q.length - i - 1) * 100000+50000+(i - (j+1))<1000000000+(s.q.length - i - 1) * 100000+50000+(i - j);omega
   . rw [RtF.at hi,RtF.at (s:=s) (i:=j) (by omega)]
     exact h.best.inj hi c
 . refine qzb (some (1,9)) 20000 (Hs.d s d i 0) ⟨⟨h,hi,Nat.zero_le _,hd,fun _ j' hj'=>absurd hj' (Nat.not_lt_zero _)⟩,?_⟩ (fun z=>j3k V N n k x y w X Y J z s.mn s.o s.es s.c s.q d i j) (zj9 V N n k x y w X Y s.mn s.o s.es s.c s.q d i 0) (fun q hq p u hp hu => ?_) (fun e he=>by cases he) (zaa (decide_eq_false (by omega)) qaa)
   . have:=h.size hi;show 1000000000+(s.q.length - i - 1) * 100000+((hqS s.q i).size - 0)+1<1000000000+(s.q.length - i - 1) * 100000+50000+(i - j);omega
   . obtain rfl:=List.mem_singleton.1 hq;exact q2a (jtl V N n k x y w X Y s.mn s.o s.es s.c s.q d i 0) hp hu (q6a rfl)
theorem h_d {s:HR} {d:Bool} {i j:Nat} (J:zaQ) (ha:HsQ n x y (.d s d i j)):q6e V N n k x y w X Y (.d s d i j) J:=by
 obtain ⟨h,hi,hj,hd,hdj⟩:=ha;have hl:=h.len;have hz:=h.size hi;by_cases c:j<(hqS s.q i).size
 . have hm:1000000000+(s.q.length - i - 1) * 100000+((hqS s.q i).size - (j+1))+1<1000000000+(s.q.length - i - 1) * 100000+((hqS s.q i).size - j)+1:=by omega
   have h1:qna ((j:Int)+1):=⟨by omega,by omega⟩
   cases d with
   | false =>
     refine q1a (some (1,9)) 20000 (Hs.d s (hdB s.q i j) i (j+1)) ⟨⟨h,hi,c,fun _=>hd rfl,fun he j' hj' => ?_⟩,hm⟩ (fun z=>hd_f V N n k x y w X Y J z s.mn s.o s.es s.c s.q false i j) (zj9 V N n k x y w X Y s.mn s.o s.es s.c s.q (hdB s.q i j) i (j+1)) (zfi hi (zaa (decide_eq_true (by omega)) (zaa rfl (zfi hi (zaa ⟨by omega,by omega⟩ (zaa h1 qaa))))))
     by_cases e:j'=j
     . subst e; exact of_decide_eq_false he
     . exact hdj rfl j' (by omega)
   | true =>
     refine qzb (some (1,9)) 20000 (Hs.d s true i (j+1)) ⟨⟨h,hi,c,fun he=>(by cases he),fun he=>(by cases he)⟩,hm⟩ (fun z=>hd_t V N n k x y w X Y J z s.mn s.o s.es s.c s.q true i j) (zj9 V N n k x y w X Y s.mn s.o s.es s.c s.q true i (j+1)) (fun q hq p u hp hu => ?_) (fun e he=>by cases he) (zfi hi (zaa (decide_eq_true (by omega)) (qbb (qqb rfl 8) (zaa h1 qaa))))
     obtain rfl:=List.mem_singleton.1 hq;exact q2a (jul V N n k x y w X Y s.mn s.o s.es s.c s.q true i (j+1)) hp hu (fun γ v hv=>hv)
 . have hd':zhj d s.q (i+1):=fun he i' hi' j' hj'=>by
    by_cases e:i'=i
    . subst e; exact hdj he j' (by omega)
    . exact hd he i' (by omega) j' hj'
   have hm:1000000000+(s.q.length - (i+1)) * 100000<1000000000+(s.q.length - i - 1) * 100000+((hqS s.q i).size - j)+1:=by omega
   have hq:HsQ n x y (.b s d (i+1)):=⟨h,by omega,hd'⟩
   have h1:qna ((i:Int)+1):=⟨by omega,by omega⟩
   have hc:decide ((j:Int)<((hqS s.q i).size:Int))=false:=decide_eq_false (by omega)
   cases i with
   | zero =>
     exact q1a (some (1,4)) 20000 (Hs.b s d (0+1)) ⟨hq,hm⟩ (fun z=>jcc V N n k x y w X Y J z s.mn s.o s.es s.c s.q d 0 j) (hb_n V N n k x y w X Y s.mn s.o s.es s.c s.q d (0+1)) (zfi hi (zaa hc (qbb (qqb (decide_eq_false (by omega)) 13) (zaa h1 qaa))))
   | succ i =>
     have hst:=h.steps (i:=i) hi;have hmn:=h.long (by omega)
     obtain ⟨mn,o,es,c',q⟩:=s;obtain rfl:mn=false:=hmn;have e1:(((i+1:Nat):Int) - 1).toNat=i:=by omega
     refine q1a (some (1,4)) 20000 (Hs.b ⟨false,o,es,c',q⟩ d (i+1+1)) ⟨hq,hm⟩ (fun z=>j1h V N n k x y w X Y J z o es c' q d (i+1) j) (hb_n V N n k x y w X Y false o es c' q d (i+1+1)) (zfi hi (zaa hc (zaa (decide_eq_true (by omega)) (zaa ⟨by omega,by omega⟩ (zaa ⟨by omega,?_⟩ (zaa ?_ (zfi hi (zaa ?_ (zaa h1 qaa)))))))))
     . have hi:i+1<q.length:=hi;omega
     . have hi:i+1<q.length:=hi;omega
     . rw [e1,show mtB es (qic q (0+i * 1)) (hqS q (i+1))=true from hst]; rfl
theorem h_e {s:HR} {d:Bool} {i:Nat} (J:zaQ) (ha:HsQ n x y (.e s d i)):q6e V N n k x y w X Y (.e s d i) J:=by
 obtain ⟨h,hi,hd⟩:=ha;have hl:=h.len;have h1:qna ((i:Int)+1):=⟨by omega,by omega⟩
 have go:∀ u:Bool,(∀ r:List Prop,(∀ p∈r,p)->∀ p∈hxC s.q d i u r,p)->q6e V N n k x y w X Y (.e s d i) J:=fun u hu=>by
  obtain ⟨hx,hy⟩:=qsm h.rl;have zfh:(zax y && zax x)=true:=by rw [Bool.and_comm]; exact h.rl
  obtain ⟨kz,hkz⟩:∃ kz,decide (cK x y=0)=kz:=⟨_,rfl⟩;obtain ⟨kw,hkw⟩:∃ kw,decide (cK y x=0)=kw:=⟨_,rfl⟩;have hK:KF x y s.mn (hrK s.o) s.es s.q:=by
   rcases h.kind with ⟨ho,he,hq⟩ | ⟨ho,hm,hne,hb⟩
   . rw [ho]; exact .inr (.inr (.inr ⟨rfl,h.rl,he,by rw [hq]; exact Nat.le_refl _⟩))
   . rw [ho]; exact .inr (.inr (.inl ⟨rfl,hm,h.rl,hne,hb⟩))
  have fin:∀ hn:Bool,HF x y hn kz kw->(∀ p∈hyC x y hn kz kw,p)->q6e V N n k x y w X Y (.e s d i) J:=fun hn hF hC=>by
   refine qzb (some (1,3)) 20000 (Hs.f s.mn (hrK s.o) s.es s.c s.q hn kz kw 0) ⟨⟨h.tr,hK,hF,Nat.zero_le _⟩,?_⟩ (fun z=>j6k V N n k x y w X Y J z s.mn s.o s.es s.c s.q d kz kw i u hn) (zj0 V N n k x y w X Y s.mn s.o s.es s.c s.q hn kz kw 0) (fun q hq p v hp hv => ?_) (fun e he=>by cases he) (hu _ hC)
   . have:zab hn 0 (zbm x y)<=40:=by
      rcases hF with rfl | ⟨rfl,_,hc,_⟩
      . exact Nat.zero_le _
      . exact qtm hc
     show zab hn 0 (zbm x y) - 0<500000000+(s.q.length - i);omega
   . obtain rfl:=List.mem_singleton.1 hq;have ht:=qtc (qe9 V N n k x y w X Y s.mn s.es s.c s.q hn kz kw 0) (l:=hrK s.o) (by unfold hrK; cases s.o <;> decide)
     exact q2a ht hp hv (q6a rfl)
  cases hc:zbz x y with
  | false =>
    have hc2:zbz y x=false:=by
     cases h2:zbz y x with
     | false=>rfl
     | true=>rw [(qxi hy hx h2).1] at hc; cases hc
    exact fin true (.inl rfl) (zaa h.rl (zaa hc (zaa zfh (zaa hc2 qaa))))
  | true =>
    obtain ⟨c1,_⟩:=qxi hx hy hc;obtain ⟨c2,_⟩:=qlt hx hy hc;exact fin false (.inr ⟨rfl,h.rl,hc,hkz,hkw⟩) (zaa h.rl (zaa hc (zaa hkz (zaa zfh (zaa c1 (zaa hkw (zaa (by rw [q5h hkz,q5h hkw,c2]; simp) qaa)))))))
 by_cases c:i+1<s.q.length
 . have hd1:decide ((i:Int)+1<(s.q.length:Int))=true:=decide_eq_true (by omega)
   cases d with
   | true=>exact go true fun r hr=>zaa h1 (zaa hd1 (zaa rfl hr))
   | false =>
     have hnx:=h.next (fun i' hi' j hj=>hd rfl i' hi' j hj) c
     have hmn:=h.long (by omega)
     have hag:=h.tr.ag;obtain ⟨mn,o,es,c',q⟩:=s;obtain rfl:mn=false:=hmn;have e1:((i:Int)+1).toNat=i+1:=by omega
     have c:i+1<q.length:=c;have hs:qic q (0+((i:Int)+1).toNat * 1)=hqS q (i+1):=by rw [e1]; rfl
     have hX:hnX y es q i=(hqS q (i+1),0):=hnx;refine q1a (some (1,3)) 20000 (Hs.e ⟨false,o,es,c',q⟩ false (i+1)) ⟨⟨h,c,hd⟩,?_⟩ (fun z=>zjO V N n k x y w X Y J z o es c' q false i) (hn_n V N n k x y w X Y false o es c' q false (i+1)) (zaa h1 (zaa hd1 (zaa rfl (zfi (by omega) (zaa hag (zaa h1 (zaa ⟨by omega,by omega⟩ (zaa (by omega) (zaa ?_ (zaa ?_ (zaa h1 qaa)))))))))))
     . show 500000000+(q.length - (i+1))<500000000+(q.length - i);omega
     . rw [hX,hs,decide_eq_true rfl]; rfl
     . rw [hX,decide_eq_true rfl]; rfl
 . exact go false fun r hr=>zaa h1 (qbb (qqb (decide_eq_false (by omega)) 3) hr)
end
end
noncomputable section
open Go.Sim Go.WideShapes Go.ChangeShapes
open Go.Proofs
open Go.RowKit
variable {α:Type}
theorem qg9 {P:Program} {w:World} {β:Val} {H:List SO} (h:zac P (fun _=>False) w β H w) {x:Addr} {len cap M:Nat} {V:Nat->Value} (hs:x.spot=none) (hl:len<=cap)
  (hx:∀ i,i<M->w.cell? (x.add i)=some (V i)) :
  ∃ β',zac P (fun _=>False) w β' (H++[.row (.raw V M)]) w/\β.le β'/\(slP H.length len cap).den β'=some (.slice (some x) len cap):=by
 have hsn:=h.snoc (Go.Sim.Loc.mk x.block x.off 0) (.row (.raw V M)) ?_ (fun ho=>by cases ho)
 . refine ⟨_,hsn.1,hsn.2,?_⟩;simp only [slP,SV.den,SA.den,SC.den,Val.upd_same,Option.map_some,Option.bind_some,SN.den,Nat.add_zero,qzm];cases x; cases hs;exact if_pos hl
 . refine ⟨_,(List.range M).map V,Val.upd_same ..,⟨by simp,fun i y hy => ?_⟩,fun i y hy => ?_⟩
   . rw [List.getElem?_map] at hy;cases hi:(List.range M)[i]? with
     | none=>rw [hi] at hy; cases hy
     | some j =>
       rw [hi] at hy; cases hy;obtain ⟨h1,h2⟩:=List.getElem?_eq_some_iff.1 hi;rw [List.getElem_range] at h2;subst h2; rfl
   . rw [List.getElem?_map] at hy;cases hi:(List.range M)[i]? with
     | none=>rw [hi] at hy; cases hy
     | some j =>
       rw [hi] at hy; cases hy;obtain ⟨h1,h2⟩:=List.getElem?_eq_some_iff.1 hi;rw [List.getElem_range] at h2;subst h2;have hi:i<M:=by simpa using h1
       have hc:=hx i hi;have e:(x.add i:Addr)=⟨x.block,x.off+i,none⟩:=by
        cases x; cases hs;unfold Addr.add;split
        . rename_i h0; rw [h0]; rfl
        . rfl
       rw [e] at hc;refine ⟨?_,fun f=>f,hc⟩;unfold World.cell? at hc;show x.block<w.heap.size;by_cases hb:x.block<w.heap.size
       . exact hb
       . have hn:w.heap[x.block]? = none:=Array.getElem?_eq_none (by omega)
         simp only [hn] at hc;cases hc
def zei (w:World) (a:Option Addr) (len cap:Nat) (V:Nat->Value):Prop :=
 (a=none/\len=0/\cap=0)\/∃ x,a=some x/\x.spot=none/\len<=cap/\(∀ i,i<cap * 3->w.cell? (x.add i)=some (V i))/\zfJ V cap
def zgz (q:Nat->Int × ByteArray × ByteArray) (j:Nat):Value:=if j % 3=0 then .int .i64 (q (j / 3)).1 else if j % 3=1 then .string (q (j / 3)).2.1 else .string (q (j / 3)).2.2
theorem qv2 (q:Nat->Int × ByteArray × ByteArray) (i:Nat):zgz q (i * 3)=.int .i64 (q i).1/\zgz q (i * 3+1)=.string (q i).2.1/\zgz q (i * 3+2)=.string (q i).2.2:=by
 unfold zgz;refine ⟨?_,?_,?_⟩
 . rw [if_pos (by omega),show i * 3 / 3=i by omega]
 . rw [if_neg (by omega),if_pos (by omega),show (i * 3+1) / 3=i by omega]
 . rw [if_neg (by omega),if_neg (by omega),show (i * 3+2) / 3=i by omega]
theorem jei (q:Nat->Int × ByteArray × ByteArray) (n:Nat):zfJ (zgz q) n:=fun i hi=>by
 obtain ⟨h0,h1,h2⟩:=qv2 q i;unfold aFr aTo;rw [Nat.zero_add,h0,h1,h2];exact ⟨⟨_,rfl⟩,rfl,rfl⟩
section
variable {H:Type} {enc:TypeId × Value->H} {P:Program} {w:World} {r:Reach} {b0 base:Nat} {held:Bool}
theorem zeT {ts te ti tx:TypeId} {f0 f1 f2:Field} {n:Nat} {c:Value} {y:DataW H × List MemPlace} (hs:P.underlying ts=some (.slice te)) (he:P.underlying te=some (.struct #[f0,f1,f2])) (h0:f0.type=ti/\f0.offset=0) (h1:f1.type=tx/\f1.offset=1) (h2:f2.type=tx/\f2.offset=2)
  (hi:P.underlying ti=some (.int .i64)) (hx:P.underlying tx=some .string) (ce:P.cellsOf te=3) (ci:P.cellsOf ti=1) (cx:P.cellsOf tx=1) (k:DataW.trod enc P w base (fun _=>true) held n ts [c]=some y) (hsp:∀ x l m,c=.slice (some x) l m->x.spot=none) :
  ∃ a len cap V,c=.slice a len cap/\zei w a len cap V:=by
 rcases Go.Deep.open_slice hs k with ⟨hc,_⟩ | ⟨x,l,m,q,n',D,Pl,hc,_,hl,_,hq,_,hcell⟩
 . obtain rfl:c=.slice none 0 0:=by simpa using hc
   exact ⟨none,0,0,fun _=>.bool true,rfl,.inl ⟨rfl,rfl,rfl⟩⟩
 . obtain rfl:c=.slice (some x) l m:=by simpa using hc
   rw [if_pos rfl] at hq;subst hq;have each:∀ i,i<q->∃ p:Int × ByteArray × ByteArray,w.cell? (x.add (i * 3))=some (.int .i64 p.1)/\w.cell? (x.add (i * 3+1))=some (.string p.2.1)/\w.cell? (x.add (i * 3+2))=some (.string p.2.2):=by
    intro i hiq;obtain ⟨cs',g1,g2⟩:=hcell i hiq;rw [ce] at g1;obtain ⟨_,hlen,hcl⟩:=World.cells?_some g1;obtain ⟨xs,k',_,_,_,hxl,hf⟩:=DataW.trod_struct he g2;match xs,hxl,cs',hlen with
    | [y0,y1,y2],_,[v0,v1,v2],_ =>
      have k0:=hf 0 f0 rfl;have k1:=hf 1 f1 rfl;have k2:=hf 2 f2 rfl;rw [h0.1,h0.2,ci] at k0;rw [h1.1,h1.2,cx] at k1;rw [h2.1,h2.2,cx] at k2;obtain ⟨z,rfl⟩:=qvy hi (show DataW.trod enc P w base (fun _=>true) held k' ti [v0]=some y0 from k0)
      obtain ⟨s,rfl⟩:=qgm hx (show DataW.trod enc P w base (fun _=>true) held k' tx [v1]=some y1 from k1)
      obtain ⟨t,rfl⟩:=qgm hx (show DataW.trod enc P w base (fun _=>true) held k' tx [v2]=some y2 from k2)
      have e0:=hcl 0 (by omega)
      have e1:=hcl 1 (by omega)
      have e2:=hcl 2 (by omega)
      rw [Go.Deep.add_add] at e0 e1 e2;exact ⟨(z,s,t),by simpa using e0,by simpa using e1,by simpa using e2⟩
   obtain ⟨p,hp⟩:=Go.Deep.choose_lt each;refine ⟨some x,l,q,zgz p,rfl,.inr ⟨x,rfl,hsp _ _ _ rfl,hl,fun j hj => ?_,jei p q⟩⟩;obtain ⟨e0,e1,e2⟩:=hp (j / 3) (by omega)
   obtain ⟨v0,v1,v2⟩:=qv2 p (j / 3);rcases (show j=j / 3 * 3\/j=j / 3 * 3+1\/j=j / 3 * 3+2 by omega) with c | c | c
   . rw [c,v0]; exact e0
   . rw [c,v1]; exact e1
   . rw [c,v2]; exact e2
end
end
noncomputable section
open Go.Sim
open Go.Proofs
open Go.Sort
open Go.Bfs
variable {α:Type}
section
variable {V:Nat->Value} {N n k:Nat} {x y:ByteArray} {w:Int} {X Y:ByteArray}
theorem zhF (hN:n<=N) (hV:zfJ V n) {i:Nat} (hi:i<n) {r:List Prop} (hr:∀ p∈r,p):∀ p∈hlA V N n i r,p:=by
 obtain ⟨_,h1,h2⟩:=hV i hi;refine zaa (decide_eq_true (by omega)) (zaa ⟨by omega,by omega⟩ (zaa (by omega) (zaa ?_ (zaa ⟨by omega,by omega⟩ (zaa (by omega) (zaa ?_ hr))))))
 . rw [h1]; exact zgv _
 . rw [h2]; exact zgv _
theorem qw2 (f:Nat->Nat) (x:ByteArray):zew f (some (.ent (hoP x))) (.ent (.own (.fn (zc8 (qic [x])) [x].length) true 9)):=⟨_,rfl,fun γ vs hv=>by
 have hv:some [Value.string x]=some vs:=hv;cases hv;refine ⟨rfl,fun i v h => ?_⟩;match i,h with
 | 0,h=>cases h; rfl
 | i+1,h=>cases h⟩
theorem jee (x y:ByteArray):∃ hn kz kw,HF x y hn kz kw/\((zax x && zax y)=true->∀ p∈hyC x y hn kz kw,p):=by
 cases hr:(zax x && zax y) with
 | false=>exact ⟨true,false,false,.inl rfl,fun h=>by cases h⟩
 | true =>
   obtain ⟨hx,hy⟩:=qsm hr;have zfh:(zax y && zax x)=true:=by rw [Bool.and_comm]; exact hr
   cases hc:zbz x y with
   | false =>
     have hc2:zbz y x=false:=by
      cases h2:zbz y x with
      | false=>rfl
      | true=>rw [(qxi hy hx h2).1] at hc; cases hc
     exact ⟨true,false,false,.inl rfl,fun _=>zaa hr (zaa hc (zaa zfh (zaa hc2 qaa)))⟩
   | true =>
     obtain ⟨c1,_⟩:=qxi hx hy hc;obtain ⟨c2,_⟩:=qlt hx hy hc;exact ⟨false,_,_,.inr ⟨rfl,hr,hc,rfl,rfl⟩,fun _=>zaa hr (zaa hc (zaa rfl (zaa zfh (zaa c1 (zaa rfl (zaa (by rw [q5h rfl,q5h rfl,c2]; simp) qaa))))))⟩
theorem qmq {hn kz kw:Bool} (hF:HF x y hn kz kw):zab hn 0 (zbm x y)<=40:=by
 rcases hF with rfl | ⟨rfl,_,hc,_⟩
 . exact Nat.zero_le _
 . exact qtm hc
theorem qkw (mn:Bool) (es:List MapEntry) (c:Nat) (q:Pth) (hn kz kw:Bool) {rk:Nat} (hr:rk<4) (i:Nat):(((hfC V N n k x y w X Y mn rk es c q hn kz kw i).frames[0]?).bind fun p=>p.tmps[24]?)=some (some (.int .i64 (.sym (i:Int)))):=qtc (qe9 V N n k x y w X Y mn es c q hn kz kw i) hr
theorem qh9 {mn:Bool} {es:List MapEntry} {c:Nat} (ht:TrH (nxI mn es) (zab mn 0 c)) (hr:(zax x && zax y)=true) (he:x=y):RtF x y ⟨mn,true,es,c,[x]⟩:=by
 subst he;exact ⟨ht,hr,.one _ x,by show (1:Nat)<=_; omega,.inl ⟨rfl,rfl,rfl⟩⟩
theorem zkf {mn:Bool} {es:List MapEntry} {c i:Nat} (J:zaQ) (hi:¬ i<n) (ht:TrH (nxI mn es) (zab mn 0 c)):q6e V N n k x y w X Y (.a mn es c i) J:=by
 have h0:decide ((i:Int)<(n:Int))=false:=decide_eq_false (by omega)
 cases hr:(zax x && zax y) with
 | false =>
   have zfh:(zax y && zax x)=false:=by rw [Bool.and_comm]; exact hr
   refine qzb (some (1,3)) 20000 (Hs.f mn 0 es c [] true false false 0) ⟨⟨ht,.inl ⟨rfl,hr⟩,.inl rfl,Nat.zero_le _⟩,?_⟩ (fun z=>j5k V N n k x y w X Y J z mn es c i) (jwl V N n k x y w X Y mn es c [] false false 0) (fun q hq p v hp hv => ?_) (fun e he=>by cases he) (zaa h0 (zaa hr (zaa hr (zaa zfh qaa))))
   . show 0 - 0<10000000000+(n - i);omega
   . obtain rfl:=List.mem_singleton.1 hq;exact q2a (qkw mn es c [] true false false (by omega) 0) hp hv (q6a rfl)
 | true =>
   by_cases hxy:x=y
   . refine qzb (some (1,4)) 20000 (Hs.b ⟨mn,true,es,c,[x]⟩ false 0) ⟨⟨qh9 ht hr hxy,Nat.zero_le _,fun _ i' hi'=>absurd hi' (Nat.not_lt_zero _)⟩,?_⟩ (fun z=>j4k V N n k x y w X Y J z mn es c i) (jce V N n k x y w X Y mn true es c [x] false 0) (fun q hq p v hp hv => ?_) (fun e he E0 hE0 => ?_) (zaa h0 (zaa hr (zaa (decide_eq_true hxy) (zaa (by rw [decide_eq_true rfl]; rfl) (zaa (by rw [decide_eq_true hxy]; rfl) qaa)))))
     . show 1000000000+(1 - 0) * 100000<10000000000+(n - i);omega
     . rcases List.mem_cons.1 hq with rfl | hq
       . exact q2a (q7z V N n k x y w X Y mn true es c [x] false 0) hp hv (fun γ v hv=>hv)
       . rcases List.mem_cons.1 hq with rfl | hq
         . exact q2a (qc9 V N n k x y w X Y mn es c [x] false 0) hp hv (by cases mn <;> exact fun γ v hv=>hv)
         . obtain rfl:=List.mem_singleton.1 hq;exact q2a (q8z V N n k x y w X Y mn true es c [x] false 0) hp hv (q6a rfl)
     . obtain rfl:=List.mem_singleton.1 he;have hE0:=(jde V N n k x y w X Y mn es c [x] false 0).symm.trans hE0;cases hE0;exact qw2 _ x
   . cases hb:zbI (nxI mn es) x y with
     | none =>
       obtain ⟨hn,kz,kw,hF,hC⟩:=jee x y;refine qzb (some (1,3)) 20000 (Hs.f mn 1 es c [] hn kz kw 0) ⟨⟨ht,.inr (.inl ⟨rfl,hr,hxy⟩),hF,Nat.zero_le _⟩,?_⟩ (fun z=>zjS V N n k x y w X Y J z mn es c kz kw i hn) (qd9 V N n k x y w X Y mn es c [] hn kz kw 0) (fun q hq p v hp hv => ?_) (fun e he=>by cases he) (zaa h0 (zaa hr (zaa (decide_eq_false hxy) (zaa ht.ag (zaa (by rw [hb]; rfl) (hC hr))))))
       . have:=qmq hF;show zab hn 0 (zbm x y) - 0<10000000000+(n - i);omega
       . obtain rfl:=List.mem_singleton.1 hq;exact q2a (qkw mn es c [] hn kz kw (by omega) 0) hp hv (q6a rfl)
     | some q =>
       cases mn with
       | true=>rw [show nxI true es=[] from rfl,qzf rfl] at hb; cases hb
       | false =>
         have hb:zbI es x y=some q:=hb;have ht:TrH es c:=ht;have hq:seQ es x y=q:=by unfold seQ; rw [hb]; rfl
         have hB:Best (q3a (srL es)) x y q:=(qgp ht.1 hxy).1 q hb;have hlen:=jxh hb;have h2:=ht.2.1;have hpos:0<q.length:=List.length_pos_iff.2 hB.ne;have hR:RtF x y ⟨false,false,es,c,q⟩:=⟨ht,hr,hB,by show q.length<=_; omega,.inr ⟨rfl,rfl,hxy,hb⟩⟩
         have e1:((q.length:Int) - 1).toNat=q.length - 1:=by omega
         have hf:=j2h V N n k x y w X Y J;rw [hq.symm] at hR;refine qzb (some (1,4)) 20000 (Hs.b ⟨false,false,es,c,seQ es x y⟩ false 0) ⟨⟨hR,Nat.zero_le _,fun _ i' hi'=>absurd hi' (Nat.not_lt_zero _)⟩,?_⟩ (fun z=>hf z es c i) (jce V N n k x y w X Y false false es c (seQ es x y) false 0) (fun q' hq' p v hp hv => ?_) (fun e he=>by cases he) ?_
         . have:=hR.len;show 1000000000+((seQ es x y).length - 0) * 100000<10000000000+(n - i);have:(seQ es x y).length<=1002:=this;omega
         . rcases List.mem_cons.1 hq' with rfl | hq'
           . exact q2a (q7z V N n k x y w X Y false false es c (seQ es x y) false 0) hp hv (fun γ v hv=>hv)
           . obtain rfl:=List.mem_singleton.1 hq';exact q2a (q8z V N n k x y w X Y false false es c (seQ es x y) false 0) hp hv (q6a rfl)
         . rw [hq];refine zaa h0 (zaa hr (zaa (decide_eq_false hxy) (zaa ht.ag (zaa (by rw [hb]; rfl) (zaa ?_ (zaa hpos (zaa hpos (zaa ?_ (zaa ⟨by omega,by omega⟩ (zaa ⟨by omega,by omega⟩ (zaa (by omega) (zaa ?_ qaa))))))))))))
           . exact beq_eq_false_iff_ne.2 (by omega)
           . rw [show qic q (0+0 * 1)=q[0] from q3h hpos,hB.head hpos,decide_eq_true rfl]; rfl
           . rw [e1,show 0+(q.length - 1) * 1=q.length - 1 by omega,q3h (by omega),hB.last (by omega),decide_eq_true rfl]; rfl
theorem h_a {mn:Bool} {es:List MapEntry} {c i:Nat} (J:zaQ) (hN:n<=N) (hn:n<=40) (hV:zfJ V n) (ha:HsQ n x y (.a mn es c i)):q6e V N n k x y w X Y (.a mn es c i) J:=by
 obtain ⟨hi,ht⟩:=ha;by_cases hin:i<n
 . have hm:10000000000+(n - (i+1))<10000000000+(n - i):=by omega
   have h1:∀ p∈[qna ((i:Int)+1)],p:=zaa ⟨by omega,by omega⟩ qaa
   cases mn with
   | false =>
     have ht:TrH es c:=ht;rcases qps ht (aFr V i) (aTo V i) with ⟨u,hu,hc⟩ | ⟨hc,h2,_⟩
     . exact q1a (some (1,3)) 20000 (Hs.a false es c (i+1)) ⟨⟨hin,ht⟩,hm⟩ (fun z=>qtc (hl_T V N n k x y w X Y J z es c i) hu) (jbe V N n k x y w X Y es c (i+1)) (zhF hN hV hin (hc _ h1))
     . exact q1a (some (1,3)) 20000 (Hs.a false (tiK es c (aFr V i) (aTo V i)) (c+1) (i+1)) ⟨⟨hin,h2⟩,hm⟩ (fun z=>zjW V N n k x y w X Y J z es c i) (jbe V N n k x y w X Y _ _ (i+1)) (zhF hN hV hin (hc _ h1))
   | true =>
     rcases qqs (aFr V i) (aTo V i) with ⟨u,hu,hc⟩ | ⟨hc,h2⟩
     . exact q1a (some (1,3)) 20000 (Hs.a true es c (i+1)) ⟨⟨hin,ht⟩,hm⟩ (fun z=>qtc (hl_N V N n k x y w X Y J z es c i) hu) (zjV V N n k x y w X Y es c (i+1)) (zhF hN hV hin (hc _ h1))
     . refine qzb (some (1,3)) 20000 (Hs.a false (zeY (aFr V i) (aTo V i)) 1 (i+1)) ⟨⟨hin,h2⟩,hm⟩ (fun z=>zjX V N n k x y w X Y J z es c i) (zjU V N n k x y w X Y _ _ (i+1)) (fun q hq=>by cases hq) (fun e he E0 hE0 => ?_) (zhF hN hV hin (hc _ h1))
       obtain rfl:=List.mem_singleton.1 he;replace hE0:some (HP.ent (.obj (.zaU kPr vBo (zeY (aFr V i) (aTo V i)) 1)))=some E0:=hE0;cases hE0;exact juh _ _ _
 . exact zkf J hin ht
theorem qrs {mn:Bool} {rk:Nat} {es es':List MapEntry} {c':Nat} {q:Pth} (hK:KF x y mn rk es q) {c:Nat} (ht:TrH (nxI mn es) (zab mn 0 c)) (h':zdF es' c') (hg:agG es' c') (hm:∀ p∈srL (nxI mn es),p∈srL es'):rk<4/\∃ v,∀ p∈cPe x y q v es' c' rk,p:=by
 rcases hK with ⟨rfl,hr⟩ | ⟨rfl,hr,hxy⟩ | ⟨rfl,hmn,hr,hxy,hb⟩ | ⟨rfl,hr,hxy,hl⟩
 . exact ⟨by omega,true,zaa hr qaa⟩
 . exact ⟨by omega,_,zaa hr (zaa (decide_eq_false hxy) (zaa hg (zaa rfl qaa)))⟩
 . subst hmn;obtain ⟨h1,h2⟩:=jdc h' hm hxy ((qgp ht.1 hxy).1 q hb);exact ⟨by omega,true,zaa hr (zaa (decide_eq_false hxy) (zaa hg (zaa h1 (zaa (decide_eq_true (by omega)) qaa))))⟩
 . exact ⟨by omega,true,zaa hr (zaa (decide_eq_true hxy) (zaa (decide_eq_true (by omega)) qaa))⟩
theorem h_f {mn:Bool} {rk:Nat} {es:List MapEntry} {c:Nat} {q:Pth} {hn kz kw:Bool} {i:Nat} (J:zaQ) (ha:HsQ n x y (.f mn rk es c q hn kz kw i)):q6e V N n k x y w X Y (.f mn rk es c q hn kz kw i) J:=by
 obtain ⟨ht,hK,hF,hi⟩:=ha;have h40:=qmq hF;have hr4:rk<4:=by rcases hK with ⟨rfl,_⟩ | ⟨rfl,_⟩ | ⟨rfl,_⟩ | ⟨rfl,_⟩ <;> omega
 by_cases c0:i<zab hn 0 (zbm x y)
 . rcases hF with rfl | ⟨rfl,hr,hc,hkz,hkw⟩
   . exact absurd c0 (Nat.not_lt_zero _)
   . have c0:i<zbm x y:=c0;obtain ⟨hx,hy⟩:=qsm hr;obtain ⟨r1,r2⟩:=qlt hx hy hc;obtain ⟨cr,_⟩:=qxi hx hy hc;have hM:=q5h hkz;have hM2:=q5h hkw;have hR:=q1z hkz hc;have hR2:=q1z hkw cr;have h40:zbm x y<=40:=h40;have e1:((zbm y x:Int) - 1 - (i:Int)).toNat=zbm x y - 1 - i:=by omega
     refine q1a (some (1,3)) 20000 (Hs.f mn rk es c q false kz kw (i+1)) ⟨⟨ht,hK,.inr ⟨rfl,hr,hc,hkz,hkw⟩,c0⟩,?_⟩ (fun z=>qtc (j3h V N n k x y w X Y J z mn es c q kz kw i) hr4) ((qtc (zjZ V N n k x y w X Y mn es c q kz kw (i+1)) hr4)) ?_
     . show zbm x y - (i+1)<zbm x y - i;omega
     . unfold hfL;rw [hM,hM2];refine zaa (decide_eq_true (by omega)) (zaa ⟨by omega,by omega⟩ (zaa (by omega) (zaa ⟨by omega,by omega⟩ (zaa ⟨by omega,by omega⟩ (zaa ⟨by omega,by omega⟩ (zaa (by omega) (zaa ?_ (zaa ⟨by omega,by omega⟩ qaa))))))))
       rw [q2z hkz (i:=(i:Int)) (by omega),q2z hkw (by omega),e1,show ((i:Int)).toNat=i from rfl,r2 i c0,decide_eq_true rfl]; rfl
 . have hZ:hfZ x y kz i hn:=by
    unfold hfZ;refine decide_eq_false ?_
    rcases hF with rfl | ⟨rfl,_,_,hkz,_⟩
    . show ¬ (i:Int)<0;omega
    . have c0:¬ i<zbm x y:=c0;rw [q5h hkz];show ¬ (i:Int)<(zbm x y:Int);omega
   cases mn with
   | false =>
     have ht':TrH es c:=ht;rcases qps ht' X Y with ⟨u,hu,hc⟩ | ⟨hc,h2,hm⟩
     . obtain ⟨_,v,hv⟩:=qrs hK (c:=c) ht ht'.1 ht'.ag (fun p hp=>hp);exact qza none 20000 (fun z=>jpl V N n k x y w X Y J z es c q kz kw i v hn hr4 hu) (zaa hZ (hc _ hv)) fun H _=>rfl
     . have hg:agG (tiK es c X Y) (c+1):=h2.ag;obtain ⟨_,v,hv⟩:=qrs hK (c:=c) ht h2.1 hg hm;exact qza none 20000 (fun z=>qtc (jai V N n k x y w X Y J z es c q kz kw i v hn) hr4) (zaa hZ (hc _ hv)) fun H _=>rfl
   | true =>
     rcases qqs X Y with ⟨u,hu,hc⟩ | ⟨hc,h2⟩
     . obtain ⟨_,v,hv⟩:=qrs hK (c:=c) ht TrH.nil.1 TrH.nil.ag (fun p hp=>hp);exact qza none 20000 (fun z=>qtc (qtc (jbi V N n k x y w X Y J z es c q kz kw i v hn) hr4) hu) (zaa hZ (hc _ hv)) fun H _=>rfl
     . obtain ⟨_,v,hv⟩:=qrs hK (c:=c) ht h2.1 h2.ag (fun p hp=>by rw [show srL (nxI true es)=[] from qu2] at hp; cases hp)
       exact qza none 20000 (fun z=>qtc (jci V N n k x y w X Y J z es c q kz kw i v hn) hr4) (zaa hZ (hc _ hv)) fun H _=>rfl
theorem h_z (J:zaQ):q6e V N n k x y w X Y .z J:=by
 have ht:TrH (nxI true []) (zab true 0 0):=TrH.nil;cases hr:(zax x && zax y) with
 | false =>
   have zfh:(zax y && zax x)=false:=by rw [Bool.and_comm]; exact hr
   refine qzb (some (1,3)) 20000 (Hs.f true 0 [] 0 [] true false false 0) ⟨⟨ht,.inl ⟨rfl,hr⟩,.inl rfl,Nat.zero_le _⟩,?_⟩ (fun z=>j8k V N n k x y w X Y J z [] 0) (jql V N n k x y w X Y [] 0 [] false false 0) (fun q hq p v hp hv => ?_) (fun e he=>by cases he) (zaa hr (zaa hr (zaa zfh qaa)))
   . show 0 - 0<20000000000;omega
   . obtain rfl:=List.mem_singleton.1 hq;exact q2a (qkw true [] 0 [] true false false (by omega) 0) hp hv (q6a rfl)
 | true =>
   by_cases hxy:x=y
   . refine qzb (some (1,4)) 20000 (Hs.b ⟨true,true,[],0,[x]⟩ false 0) ⟨⟨qh9 ht hr hxy,Nat.zero_le _,fun _ i' hi'=>absurd hi' (Nat.not_lt_zero _)⟩,?_⟩ (fun z=>j7k V N n k x y w X Y J z [] 0) (zkb V N n k x y w X Y [] 0 [x] false 0) (fun q hq p v hp hv => ?_) (fun e he E0 hE0 => ?_) (zaa hr (zaa (decide_eq_true hxy) (zaa (by rw [decide_eq_true rfl]; rfl) (zaa (by rw [decide_eq_true hxy]; rfl) qaa))))
     . show 1000000000+(1 - 0) * 100000<20000000000;omega
     . rcases List.mem_cons.1 hq with rfl | hq
       . exact q2a (q7z V N n k x y w X Y true true [] 0 [x] false 0) hp hv (fun γ v hv=>hv)
       . rcases List.mem_cons.1 hq with rfl | hq
         . exact q2a (qc9 V N n k x y w X Y true [] 0 [x] false 0) hp hv (fun γ v hv=>hv)
         . obtain rfl:=List.mem_singleton.1 hq;exact q2a (q8z V N n k x y w X Y true true [] 0 [x] false 0) hp hv (q6a rfl)
     . obtain rfl:=List.mem_singleton.1 he;have hE0:=(jde V N n k x y w X Y true [] 0 [x] false 0).symm.trans hE0;cases hE0;exact qw2 _ x
   . obtain ⟨hn,kz,kw,hF,hC⟩:=jee x y;refine qzb (some (1,3)) 20000 (Hs.f true 1 [] 0 [] hn kz kw 0) ⟨⟨ht,.inr (.inl ⟨rfl,hr,hxy⟩),hF,Nat.zero_le _⟩,?_⟩ (fun z=>zjH V N n k x y w X Y J z [] 0 kz kw hn) (qd9 V N n k x y w X Y true [] 0 [] hn kz kw 0) (fun q hq p v hp hv => ?_) (fun e he=>by cases he) (zaa hr (zaa (decide_eq_false hxy) (zaa ht.ag (zaa (by rw [show nxI true []=[] from rfl,qzf rfl]; rfl) (hC hr)))))
     . have:=qmq hF;show zab hn 0 (zbm x y) - 0<20000000000;omega
     . obtain rfl:=List.mem_singleton.1 hq;exact q2a (qkw true [] 0 [] hn kz kw (by omega) 0) hp hv (q6a rfl)
end
end
noncomputable section
open Go.Sim Go.WideShapes Go.ChangeShapes
open Go.Proofs
open Go.RowKit
open Go.Bfs
variable {α:Type}
section
variable {V:Nat->Value} {N n k:Nat} {x y:ByteArray} {w:Int} {X Y:ByteArray}
theorem jfe (J:zaQ) {a:Hs} (hA:∀ mn es c i,a=.a mn es c i->n<=N/\n<=40/\zfJ V n) (ha:HsQ n x y a):q6e V N n k x y w X Y a J:=by
 cases a with
 | z=>exact h_z J
 | a mn es c i =>
   obtain ⟨h1,h2,h3⟩:=hA _ _ _ _ rfl;exact h_a J h1 h2 h3 ha
 | b s d i=>exact h_b J ha
 | c s d i j=>exact h_c J ha
 | d s d i j=>exact h_d J ha
 | e s d i=>exact h_e J ha
 | f mn rk es c q hn kz kw i=>exact h_f J ha
theorem qa0 (w:Int) (X Y:ByteArray):(∀ p∈hmT w X Y true 6,p)\/(∀ p∈hmS w X Y false,p):=by
 have hn:((⟨zdi w X Y,1,1⟩:Pw).n:Int)<=1->(⟨zdi w X Y,1,1⟩:Pw).okA/\(⟨zdi w X Y,1,1⟩:Pw).n<=1000000:=fun _=>⟨⟨Nat.le_refl _,(jyh w X Y).1⟩,by show (1:Nat)<=_; omega⟩
 by_cases h:shP ⟨zdi w X Y,1,1⟩ 1
 . exact .inr (zaa hn (zaa (qiw h) qaa))
 . exact .inl (zaa hn (qqb (qu5 h) 6))
theorem jfi (hN:n<=N) (hz:(n:Int)<=40->(⟨V,N,n⟩:Pw).okA):Runs zbW 4 [slP 0 n k,.str (.sym x),.str (.sym y),moV w X Y] [rwA V N] zju:=by
 have hsh:((⟨V,N * 3 / 3,n⟩:Pw).n:Int)<=40->(⟨V,N * 3 / 3,n⟩:Pw).okA/\(⟨V,N * 3 / 3,n⟩:Pw).n<=1000000:=fun h=>by
  have h:(n:Int)<=40:=h;rw [j3j];exact ⟨hz h,by show n<=_; omega⟩
 have h3:N * 3=N * 3 / 3 * 3:=by omega
 by_cases hp:shP ⟨V,N * 3 / 3,n⟩ 40
 . have hn:(n:Int)<=40:=hp.1;have hn':n<=40:=by omega
   have hV:zfJ V n:=(hz hn).2;have hB:∀ p∈lpB V N n false,p:=zaa h3 (zaa hsh (zaa (qiw hp) qaa));rcases qa0 w X Y with hm | hm
   . exact q5d (c:=zbW) qbh (q0a (j8h V N n k x y w X Y) (qbb hB hm) fun H2 _=>rfl)
   rcases q6u x y with hw | ⟨hw,hx,hy⟩
   . exact q5d (c:=zbW) qbh (q0a (j9h V N n k x y w X Y) (qbb hB (qbb hm hw)) fun H2 _=>rfl)
   refine q6d qbh (HsC V N n k x y w X Y) (HsQ n x y) (HsM n x y) (fun g nm hg=>by cases hg) ?_ fun a ha J=>jfe J (fun _ _ _ _ _=>⟨hN,hn',hV⟩) ha
   refine qfd (M:=HsC V N n k x y w X Y (.a true [] 0 0)) (names:=[0,1,4]) (some (1,3)) 20000 (Hs.a true [] 0 0) ⟨Nat.zero_le _,TrH.nil⟩ (fun z=>jzh V N n k x y w X Y z [] 0) (zjT V N n k x y w X Y [] 0 0) (fun q hq p u hp hu => ?_) (fun e he=>by cases he) (qbb hB (qbb hm hw))
   obtain rfl:=List.mem_singleton.1 hq;exact q2a (jrl V N n k x y w X Y true [] 0 0) hp hu (q6a rfl)
 . exact q5d (c:=zbW) qbh (q0a (j7h V N n k x y w X Y) (zaa h3 (zaa hsh (qqb (qu5 hp) 5))) fun H2 _=>rfl)
theorem jgi (x y:ByteArray) (w:Int) (X Y:ByteArray):Runs zbW 4 [.zad,.str (.sym x),.str (.sym y),moV w X Y] [.gone] zju:=by
 have h0:(!cB ((0:Int)<=40))=false:=qiw (by omega)
 rcases qa0 w X Y with hm | hm
 . exact q5d (c:=zbW) qbh (q0a (j5h x y w X Y) (zaa h0 hm) fun H2 _=>rfl)
 rcases q6u x y with hw | ⟨hw,hx,hy⟩
 . exact q5d (c:=zbW) qbh (q0a (j6h x y w X Y) (zaa h0 (qbb hm hw)) fun H2 _=>rfl)
 refine q6d qbh (HsC (lsV []) 0 0 0 x y w X Y) (HsQ 0 x y) (HsM 0 x y) (fun g nm hg=>by cases hg) ?_ fun a ha J=>jfe J (fun _ _ _ _ _=>⟨Nat.le_refl _,Nat.zero_le _,fun i hi=>absurd hi (Nat.not_lt_zero _)⟩) ha
 exact qfm (M:=hzC x y w X Y) (names:=[0,1,4]) (some (1,3)) 20000 Hs.z ⟨⟩ (fun z=>j4h x y w X Y z) (hz_n x y w X Y) (zaa h0 (qbb hm hw))
end
section
variable {H:Type} {enc:TypeId × Value->H} {P:Program} {w:World} {r:Reach} {b0 base:Nat} {held:Bool}
theorem zfc {t ti tx:TypeId} {f0 f1 f2:Field} {v:Value} {d:DataW H} {ps:List MemPlace} (ht:P.underlying t=some (.struct #[f0,f1,f2])) (h0:f0.type=ti/\f0.offset=0) (h1:f1.type=tx/\f1.offset=1) (h2:f2.type=tx/\f2.offset=2)
  (hi:P.underlying ti=some (.int .i64)) (hx:P.underlying tx=some .string) (ci:P.cellsOf ti=1) (cx:P.cellsOf tx=1) (ct:P.cellsOf t=3)
  (hval:Value.okWide P w r b0 t v) (hd:DataW.Trod enc P w base (fun _=>true) held t v d ps):∃ z s u,v=.agg #[.int .i64 z,.string s,.string u]:=by
 obtain ⟨c,rfl,hsz⟩:=okWide_struct ht hval;obtain ⟨fuel,hf⟩:=hd;have hf:DataW.trod enc P w base (fun _=>true) held fuel t c.toList=some (d,ps):=hf;rw [ct] at hsz;match hc:c.toList,(show c.toList.length=3 by simpa using hsz) with
 | [v0,v1,v2],_ =>
   obtain rfl:c = #[v0,v1,v2]:=by cases c; simp_all
   obtain ⟨xs,k',_,_,_,hxl,hg⟩:=DataW.trod_struct ht hf;match xs,hxl with
   | [y0,y1,y2],_ =>
     have k0:=hg 0 f0 rfl;have k1:=hg 1 f1 rfl;have k2:=hg 2 f2 rfl;rw [h0.1,h0.2,ci] at k0;rw [h1.1,h1.2,cx] at k1;rw [h2.1,h2.2,cx] at k2;obtain ⟨z,rfl⟩:=qvy hi (show DataW.trod enc P w base (fun _=>true) held k' ti [v0]=some y0 from k0)
     obtain ⟨s,rfl⟩:=qgm hx (show DataW.trod enc P w base (fun _=>true) held k' tx [v1]=some y1 from k1)
     obtain ⟨u,rfl⟩:=qgm hx (show DataW.trod enc P w base (fun _=>true) held k' tx [v2]=some y2 from k2)
     exact ⟨z,s,u,rfl⟩
end
theorem zeM {w:World} {a:Option Addr} {len cap:Nat} {V:Nat->Value} (hr:zei w a len cap V) (x y:ByteArray) (m:Int) (X Y:ByteArray) :
  Calls Tryd.prog 4 #[.slice a len cap,.string x,.string y,.agg #[.int .i64 m,.string X,.string Y]] w fun e w'=>e=.returned (.bool true)/\Below w.heap.size w w':=by
 rcases hr with ⟨rfl,rfl,rfl⟩ | ⟨v,rfl,hs,hl,hx,hV⟩
 . obtain ⟨β,hH,_⟩:=q70 (zac.start Tryd.prog (fun _=>False) w);have ha:SV.zal β [.zad,.str (.sym x),.str (.sym y),moV m X Y]=some [.slice none 0 0,.string x,.string y,.agg #[.int .i64 m,.string X,.string Y]]:=rfl;exact qry hH (zaD.none _) ha (jgi x y m X Y)
 . obtain ⟨β,hH,_,hd⟩:=qg9 (zac.start Tryd.prog (fun _=>False) w) hs hl hx;have ha:SV.zal β [slP 0 len cap,.str (.sym x),.str (.sym y),moV m X Y]=some [.slice (some v) len cap,.string x,.string y,.agg #[.int .i64 m,.string X,.string Y]]:=zae.2 ⟨_,_,hd,rfl,rfl⟩;exact qry hH (zaD.none _) ha (jfi (k:=cap) (N:=cap) hl fun _=>⟨hl,fun i hi=>hV i (Nat.lt_of_lt_of_le hi hl)⟩)
end
end Go.Proofs.YtbhlngmhgplepaaDoor.Aes
