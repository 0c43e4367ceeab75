/-
  zda behind one another: the symbolic simulator and what it is told of the program.
-/
import Derived.Test.YtbhlngmhgplepaaDoorPq9
import Derived.Test.YtbhlngmhgplepaaDoorPq6
import Derived.Test.YtbhlngmhgplepaaDoorPq7
import Derived.Test.YtbhlngmhgplepaaDoorPq1
set_option maxRecDepth 1000000
namespace Go.Proofs.YtbhlngmhgplepaaDoor.Aes
noncomputable section
open Go.Sim
open Go.Proofs
variable {α:Type}
structure LwS where
 mn:Bool
 re:Bool
 es:List MapEntry
 c:Nat
 W:Nat->Value
 m:Nat
 i:Nat
def LwS.fit (a:LwS) (l:List Pr):Prop:=qck a.re a.W a.m l/\l.length<=1000/\zab a.mn (l=[]/\a.re=true) (zdJ a.es a.c/\l=srL a.es)
theorem qbt (re:Bool) (m:Nat):hN re m:=by
 cases re with
 | true=>exact (show (0:Nat)=0 / 2 * 2 from rfl)
 | false=>show m * 2=m * 2 / 2 * 2; omega
theorem qd9 (V:Nat->Value) (i:Nat):∃ w,w<6/\∀ p∈cW V i w,p:=by
 cases h0:wh V i 0 with
 | true=>exact ⟨0,by omega,zaa h0 (zaa h0 qaa)⟩
 | false =>
 cases h1:wh V i 1 with
 | true=>exact ⟨1,by omega,zaa h0 (zaa h1 (zaa h1 qaa))⟩
 | false =>
 cases h2:wh V i 2 with
 | true=>exact ⟨2,by omega,zaa h0 (zaa h1 (zaa h2 qaa))⟩
 | false =>
 cases h3:wh V i 3 with
 | true=>exact ⟨3,by omega,zaa h0 (zaa h1 (zaa h2 (zaa h3 qaa)))⟩
 | false =>
 cases h4:wh V i 4 with
 | true=>exact ⟨4,by omega,zaa h0 (zaa h1 (zaa h2 (zaa h3 (zaa h4 qaa))))⟩
 | false=>exact ⟨5,by omega,zaa h0 (zaa h1 (zaa h2 (zaa h3 (zaa h4 qaa))))⟩
inductive Two (X Y:ByteArray):Nat->Prop
 | bad:zcV X Y=false->(∀ p∈zeS X Y 0,p)->Two X Y 0
 | same:zcV X Y=false->(∀ p∈zeS X Y 1,p)->Two X Y 1
 | ok:zcV X Y=true->(∀ {q:List Prop},(∀ p∈q,p)->∀ p∈cTw X Y q,p)->Two X Y 2
theorem qx2 (X Y:ByteArray):∃ o,Two X Y o:=by
 by_cases h:zbl X/\zbl Y
 . have h1:=qvh (zb0.2 h);by_cases h2:X=Y
   . exact ⟨1,.same (q0a fun k=>k.2.2 h2) (zaa (q3c X Y) (zaa h1 (zaa (decide_eq_true h2) qaa)))⟩
   . exact ⟨2,.ok (q8a ⟨h.1,h.2,h2⟩) fun hq=>zaa (q3c X Y) (zaa h1 (zaa (decide_eq_false h2) hq))⟩
 . exact ⟨0,.bad (q0a fun k=>h ⟨k.1,k.2.1⟩) (zaa (q3c X Y) (qtb (q4w fun k=>h (zb0.1 k)) 4))⟩
section
variable {V:Nat->Value} {N n:Nat} (k:Nat)
variable {k}
theorem qy2 (hN:n<=N) (hV:zgD V n) {i:Nat} (hi:i<n) {q:List Prop} (hq:∀ p∈q,p):∀ p∈lwA V N n i q,p:=by
 obtain ⟨⟨x,h0⟩,h1,h2⟩:=hV i hi;refine zaa (decide_eq_true (by omega)) (zaa ⟨by omega,by omega⟩ (zaa (by omega) (zaa ⟨?_,?_,?_,trivial⟩ hq)))
 . rw [Nat.add_zero,h0]; exact fun _=>rfl
 . rw [h1]; exact zfa _
 . rw [h2]; exact zfa _
theorem j8l (N:Nat):N * 3 / 3=N:=by omega
end
end
noncomputable section
open Go.Sim
open Go.Proofs
variable {α:Type}
theorem qek {c:Cfg} (hc:zaw c) (C:Nat->Cut) (p:Nat->Prop) (n:Nat) {D:SV->List SO->Prop} {f:FuncId} {args:List SV} {H:List SO} (hgl:∀ g nm,c.glob g=some nm->nm<H.length)
  (h0:∀ Q:Nat->Prop,Q 0->qoj c H.length C Q D f args H)
  (h1:∀ i,i<n->p i->∀ J (Q:Nat->Prop),Q (i+1)->qgb c H.length C Q D ((C i).fill J))
  (h2:∀ i,i<n->¬ p i->(∀ j,j<i->p j)->∀ J (Q:Nat->Prop),qgb c H.length C Q D ((C i).fill J))
  (h3:(∀ j,j<n->p j)->∀ J (Q:Nat->Prop),qgb c H.length C Q D ((C n).fill J)):Runs c f args H D:=by
 refine q7c hc C (fun i=>i<=n/\∀ j,j<i->p j) (fun i=>n - i) hgl (h0 _ ⟨Nat.zero_le _,fun j hj=>by omega⟩) fun i hi J => ?_
 by_cases hin:i<n
 . by_cases hp:p i
   . refine h1 i hin hp J _ ⟨⟨by omega,fun j hj => ?_⟩,by omega⟩
     by_cases c:j<i
     . exact hi.2 j c
     . obtain rfl:j=i:=by omega
       exact hp
   . exact h2 i hin hp hi.2 J _
 . have e:i=n:=by have:=hi.1; omega
   subst e;exact h3 hi.2 J _
section
variable (t u:Ss) (k k2:Nat) (x:ByteArray) (i:Nat) (J:zaW) (z:Nat->Nat->Nat)
def inT (st:Option (Nat × Nat)) (v:SV) (H:List SO) (x:ByteArray):Tree:=qla (zb4.at st) 4000 37 [v,.str (.sym x)] H
def ixT (st:Option (Nat × Nat)) (v:SV) (H:List SO) (x:ByteArray):Tree:=qla (zb4.at st) 4000 41 [v,.str (.sym x)] H
def saT (st:Option (Nat × Nat)) (v w:SV) (H:List SO):Tree:=qla (zb4.at st) 4000 27 [v,w] H
def zey:Cut:=⟨q0b (qvb (inT (some (1,3)) ((t.pl k).val 0) [(t.pl k).row] x) []).frames [[(0,(t.pl k).val 0),(1,.str (.sym x)),(5,.int .i64 (.sym i))]],[.ent t.row]⟩
def ixC:Cut:=⟨q0b (qvb (ixT (some (1,3)) ((t.pl k).val 0) [(t.pl k).row] x) []).frames [[(0,(t.pl k).val 0),(1,.str (.sym x)),(6,(t.pl k).val 0),(7,.int .i64 (.sym (t.n:Int))),(8,.int .i64 (.sym i))]],[.ent t.row]⟩
def saC:Cut:=⟨q0b (qvb (saT (some (1,3)) ((t.pl k).val 0) ((u.pl k2).val 1) [(t.pl k).row,(u.pl k2).row]) [false]).frames [[(0,(t.pl k).val 0),(1,(u.pl k2).val 1),(5,.int .i64 (.sym i))]],[.ent t.row,.ent u.row]⟩
theorem j9l:zaP [] (inT none .zac [] x) []=([],some (.bool (.lit false),[])):=by kernel_rfl
theorem jam:zaP [] (ixT none .zac [] x) []=([],some (.int .i64 (.lit (-1)),[])):=by kernel_rfl
theorem j2h:zaq [] (zey t k x 0) [0] (inT (some (1,3)) ((t.pl k).val 0) [(t.pl k).row] x) [] z=([],some (.inr (qva [(0,5,.int .i64 (.lit 0))] [] (qia [0] 1 (zey t k x 0))))):=by kernel_rfl
theorem j3h:zaq [] (ixC t k x 0) [0] (ixT (some (1,3)) ((t.pl k).val 0) [(t.pl k).row] x) [] z=([],some (.inr (qva [(0,8,.int .i64 (.lit 0))] [] (qia [0] 1 (ixC t k x 0))))):=by kernel_rfl
theorem j4h:zaq [] (saC t u k k2 0) [0,1] (saT (some (1,3)) ((t.pl k).val 0) ((u.pl k2).val 1) [(t.pl k).row,(u.pl k2).row]) [false] z=([((t.n:Int) != (u.n:Int))=false],some (.inr (qva [(0,5,.int .i64 (.lit 0))] [] (qia [0,1] 2 (saC t u k k2 0))))):=by kernel_rfl
theorem j5h:zaq [] (zey t k x i) [0] (zaY (zb4.at (some (1,3))) 4000 ((zey t k x i).fill J)) [true,false] z=(inS t i [decide (t.el i=x)=false,qra ((i:Int)+1)],some (.inr (qia [0] 1 (zey t k x (i+1))))):=by kernel_rfl
theorem j6h:zaq [] (ixC t k x i) [0] (zaY (zb4.at (some (1,3))) 4000 ((ixC t k x i).fill J)) [true,false] z=(inS t i [decide (x=t.el i)=false,qra ((i:Int)+1)],some (.inr (qia [0] 1 (ixC t k x (i+1))))):=by kernel_rfl
theorem j7h:zaq [] (saC t u k k2 i) [0,1] (zaY (zb4.at (some (1,3))) 4000 ((saC t u k k2 i).fill J)) [true,false] z=(inS t i (((0:Int)<=(i:Int)/\(i:Int)<(u.n:Int))::(u.o+i * 1<u.N)::[(!decide (t.el i=u.el i))=false,qra ((i:Int)+1)]),some (.inr (qia [0,1] 2 (saC t u k k2 (i+1))))):=by kernel_rfl
theorem jbm:zaq [] (zey t k x i) [0] (zaY (zb4.at none) 4000 ((zey t k x i).fill J)) [true,true] z=(inS t i [decide (t.el i=x)=true],zfN):=by kernel_rfl
theorem jcm:zaq [] (ixC t k x i) [0] (zaY (zb4.at none) 4000 ((ixC t k x i).fill J)) [true,true] z=(inS t i [decide (x=t.el i)=true],some (.inl (.int .i64 (.sym (i:Int)),[]))):=by kernel_rfl
theorem ziT:zaq [] (saC t u k k2 i) [0,1] (zaY (zb4.at none) 4000 ((saC t u k k2 i).fill J)) [true,true] z=(inS t i (((0:Int)<=(i:Int)/\(i:Int)<(u.n:Int))::(u.o+i * 1<u.N)::[(!decide (t.el i=u.el i))=true]),noR):=by kernel_rfl
theorem jdm:zaq [] (zey t k x i) [0] (zaY (zb4.at none) 4000 ((zey t k x i).fill J)) [false] z=([decide ((i:Int)<(t.n:Int))=false],noR):=by kernel_rfl
theorem jem:zaq [] (ixC t k x i) [0] (zaY (zb4.at none) 4000 ((ixC t k x i).fill J)) [false] z=([decide ((i:Int)<(t.n:Int))=false],some (.inl (.int .i64 (.lit (-1)),[]))):=by kernel_rfl
theorem jfm:zaq [] (saC t u k k2 i) [0,1] (zaY (zb4.at none) 4000 ((saC t u k k2 i).fill J)) [false] z=([decide ((i:Int)<(t.n:Int))=false],zfN):=by kernel_rfl
theorem jgm:zaq [] (saC t u k k2 0) [0,1] (saT none ((t.pl k).val 0) ((u.pl k2).val 1) [(t.pl k).row,(u.pl k2).row]) [true] z=([((t.n:Int) != (u.n:Int))=true],noR):=by kernel_rfl
theorem qa0 (j:Nat):zab (qna 1 [0] (zey t k x i) (zey t k x j)) (zaG qma (zey t k x j).heap) false=true:=by kernel_rfl
theorem qb0 (j:Nat):zab (qna 1 [0] (ixC t k x i) (ixC t k x j)) (zaG qma (ixC t k x j).heap) false=true:=by kernel_rfl
theorem qc0 (j:Nat):zab (qna 2 [0,1] (saC t u k k2 i) (saC t u k k2 j)) (zaG qma (saC t u k k2 j).heap) false=true:=by kernel_rfl
theorem jhm:(((zey t k x i).frames[0]?).bind fun p=>p.tmps[5]?)=some (some (.int .i64 (.sym i))):=by kernel_rfl
theorem jim:(((ixC t k x i).frames[0]?).bind fun p=>p.tmps[8]?)=some (some (.int .i64 (.sym i))):=by kernel_rfl
theorem jjm:(((saC t u k k2 i).frames[0]?).bind fun p=>p.tmps[5]?)=some (some (.int .i64 (.sym i))):=by kernel_rfl
end
def inP (t:Ss) (x:ByteArray):Prop:=∃ i,i<t.n/\t.at i=x
def zgj (t:Ss) (x:ByteArray):Int:=match (List.range t.n).find? fun i=>cB (t.at i=x) with
 | some i=>i
 | none => -1
def q3m (t u:Ss):Prop:=t.n=u.n/\∀ i,i<t.n->t.at i=u.at i
theorem zcc {p:Prop}:cB p=true↔p:=⟨fun h=>@of_decide_eq_true _ (Classical.propDecidable _) h,q8a⟩
theorem qvo {t:Ss} {x:ByteArray} (h:∀ i,i<t.n->t.at i≠x):zgj t x = -1:=by
 unfold zgj;rw [List.find?_eq_none.2 fun i hi hc=>h i (List.mem_range.1 hi) (zcc.1 hc)]
theorem qpv {t:Ss} {x:ByteArray} {i:Nat} (hi:i<t.n) (h:t.at i=x) (hm:∀ j,j<i->t.at j≠x):zgj t x=(i:Int):=by
 unfold zgj;rw [List.find?_range_eq_some.2 ⟨zcc.2 h,List.mem_range.2 hi,fun j hj=>by rw [q0a (hm j hj)]; rfl⟩]
theorem j8h {t:Ss} (k:Nat) (x:ByteArray) (ht:t.ok):Runs zb4 37 [(t.pl k).val 0,.str (.sym x)] [t.row] fun v _=>qyf (cB (inP t x)) v:=by
 have hn:=ht.2;refine qek q0c (zey t k x) (fun i=>t.at i≠x) t.n (fun g nm hg=>by cases hg) (fun Q hQ => ?_) (fun i hi hp J Q hQ => ?_) (fun i hi hp _ J Q => ?_) (fun hp J Q => ?_)
 . refine qgc (some (1,3)) 4000 0 hQ (j2h t k x) (qa0 t k x 0 0) (fun q hq p u hp hu => ?_) (fun e he=>by cases he) qaa
   obtain rfl:q=(0,5,.int .i64 (.lit 0)):=by simpa using hq
   exact q6a (jhm t k x 0) hp hu (qab rfl)
 . exact qya (some (1,3)) 4000 (i+1) hQ (j5h t k x i J) (qa0 t k x i (i+1)) (qtd ht hi (zaa (decide_eq_false (by rw [t.zch]; exact hp)) (zaa ⟨by omega,by omega⟩ qaa)))
 . have hp:t.at i=x:=Classical.not_not.1 hp;exact qta none 4000 (jbm t k x i J) (qtd ht hi (zaa (decide_eq_true (by rw [t.zch]; exact hp)) qaa)) fun H _=>⟨_,rfl,(q8a ⟨i,hi,hp⟩).symm⟩
 . exact qta none 4000 (jdm t k x t.n J) (zaa (decide_eq_false (by omega)) qaa) fun H _=>⟨_,rfl,(q0a fun ⟨i,hi,h⟩=>hp i hi h).symm⟩
theorem j9h {t:Ss} (k:Nat) (x:ByteArray) (ht:t.ok):Runs zb4 41 [(t.pl k).val 0,.str (.sym x)] [t.row] fun v _=>∃ n,v=.int .i64 n/\n.den=zgj t x:=by
 have hn:=ht.2;refine qek q0c (ixC t k x) (fun i=>t.at i≠x) t.n (fun g nm hg=>by cases hg) (fun Q hQ => ?_) (fun i hi hp J Q hQ => ?_) (fun i hi hp hm J Q => ?_) (fun hp J Q => ?_)
 . refine qgc (some (1,3)) 4000 0 hQ (j3h t k x) (qb0 t k x 0 0) (fun q hq p u hp hu => ?_) (fun e he=>by cases he) qaa
   obtain rfl:q=(0,8,.int .i64 (.lit 0)):=by simpa using hq
   exact q6a (jim t k x 0) hp hu (qab rfl)
 . exact qya (some (1,3)) 4000 (i+1) hQ (j6h t k x i J) (qb0 t k x i (i+1)) (qtd ht hi (zaa (decide_eq_false (by rw [t.zch]; exact fun h=>hp h.symm)) (zaa ⟨by omega,by omega⟩ qaa)))
 . have hp:t.at i=x:=Classical.not_not.1 hp;exact qta none 4000 (jcm t k x i J) (qtd ht hi (zaa (decide_eq_true (by rw [t.zch]; exact hp.symm)) qaa)) fun H _=>⟨_,rfl,(qpv hi hp hm).symm⟩
 . exact qta none 4000 (jem t k x t.n J) (zaa (decide_eq_false (by omega)) qaa) fun H _=>⟨_,rfl,(qvo hp).symm⟩
theorem jai {t u:Ss} (k k2:Nat) (ht:t.ok) (hu:u.ok):Runs zb4 27 [(t.pl k).val 0,(u.pl k2).val 1] [t.row,u.row] fun v _=>qyf (cB (q3m t u)) v:=by
 have hn:=ht.2;have hu1:=hu.1;by_cases hl:t.n=u.n
 . refine qek q0c (saC t u k k2) (fun i=>t.at i=u.at i) t.n (fun g nm hg=>by cases hg) (fun Q hQ => ?_) (fun i hi hp J Q hQ => ?_) (fun i hi hp _ J Q => ?_) (fun hp J Q => ?_)
   . refine qgc (some (1,3)) 4000 0 hQ (j4h t u k k2) (qc0 t u k k2 0 0) (fun q hq p u' hp hu => ?_) (fun e he=>by cases he) (zaa (zhK (by omega)) qaa)
     obtain rfl:q=(0,5,.int .i64 (.lit 0)):=by simpa using hq
     exact q6a (jjm t u k k2 0) hp hu (qab rfl)
   . exact qya (some (1,3)) 4000 (i+1) hQ (j7h t u k k2 i J) (qc0 t u k k2 i (i+1)) (qtd ht hi (zaa ⟨by omega,by omega⟩ (zaa (by omega) (zaa (zh7 (by rw [t.zch,u.zch]; exact hp)) (zaa ⟨by omega,by omega⟩ qaa)))))
   . exact qta none 4000 (ziT t u k k2 i J) (qtd ht hi (zaa ⟨by omega,by omega⟩ (zaa (by omega) (zaa (zhe (by rw [t.zch,u.zch]; exact hp)) qaa)))) fun H _=>⟨_,rfl,(q0a fun h=>hp (h.2 i hi)).symm⟩
   . exact qta none 4000 (jfm t u k k2 t.n J) (zaa (decide_eq_false (by omega)) qaa) fun H _=>⟨_,rfl,(q8a ⟨hl,hp⟩).symm⟩
 . refine q7c q0c (fun _:Nat=>saC t u k k2 0) (fun _=>False) (fun _=>0) (fun g nm hg=>by cases hg) ?_ fun _ h _=>h.elim
   exact qhv none 4000 (jgm t u k k2) (zaa (zhJ (by omega)) qaa) fun H _=>⟨_,rfl,(q0a fun h=>hl h.1).symm⟩
end
noncomputable section
open Go.Sim
open Go.Proofs
variable {α:Type}
theorem qd0 {base:Nat} {I:Ifc} {t:Int} {v:SV} {H:List SO} (ho:q4b I.ents 0=[]) (h:∃ n,v=.int .i64 n/\n.den=t):I.zdf base [] ⟨.int .i64 (.sym t),[],[]⟩ v H:=by
 obtain ⟨n,rfl,rfl⟩:=h;refine ⟨fun β x hx=>hx,rfl,?_,trivial⟩;rw [ho];trivial
theorem jkm {g:FuncId->Option zaR} {f:FuncId} {O:Nat->Prop} {w0 w:World} {β:Val} {H:List SO} {base:Nat} {vs:List Value} (hH:HeapRel0 Tryd.prog O w0 β H w) {v:SV} {t:Ss} {nm:Nat} {rest:List SV} (ha:SV.zak β (v::rest)=some vs)
  (ht:∀ g,∃ e',H[nm]? = some e'/\Taken g t.row e') (hi:v.Imp (t.val nm)) (hr:∀ f,SV.zbA f rest=rest) (hu:∀ p,SV.za5 p rest=true) {r:zaz} {D:SV->List SO->Prop} (hrun:∀ k,Runs (qyb g) f ((t.pl k).val 0::rest) [t.row] D)
  (hD:∀ k v H,D v H->(⟨[nm],[t.row],(t.pl k).val 0::rest⟩:Ifc).zdf base [] r v H) :
  qob Tryd.prog H β w base f vs r:=by
 obtain ⟨x,ys,hx,hys,rfl⟩:=zad.1 ha;obtain ⟨k,_,hx'⟩:=Ss.zcB (hi _ _ hx);refine qzb (c:=qyb g) hH ⟨[nm],[t.row],(t.pl k).val 0::rest⟩ (by intro g j hg; cases hg) ?_ (Ifc.zbD (by simp) ?_ ⟨⟨ht _,t.zbq _⟩,trivial⟩) [] (by simp) (by simp) (qjb (hrun k) fun v H h=>hD k v H h)
 . show SV.zak β (((t.pl k).val 0).ren _::SV.zbA _ rest)=_;rw [Ss.zcA,hr]; exact zad.2 ⟨_,_,hx',hys,rfl⟩
 . show (((t.pl k).val 0).uses _ && SV.za5 _ rest)=true;rw [Ss.zce _ _ _ rfl,hu]; rfl
theorem jbi {g:FuncId->Option zaR} {f:FuncId} {O:Nat->Prop} {w0 w:World} {β:Val} {H:List SO} {base:Nat} {vs:List Value} (hH:HeapRel0 Tryd.prog O w0 β H w) {v v':SV} {t u:Ss} {nm nm':Nat} (ha:SV.zak β [v,v']=some vs) (hne:nm≠nm')
  (ht:∀ g,∃ e',H[nm]? = some e'/\Taken g t.row e') (hi:v.Imp (t.val nm)) (hu:∀ g,∃ e',H[nm']? = some e'/\Taken g u.row e') (hi':v'.Imp (u.val nm')) {b:Bool} (hrun:∀ k k2,Runs (qyb g) f [(t.pl k).val 0,(u.pl k2).val 1] [t.row,u.row] fun v _=>qyf b v) :
  qob Tryd.prog H β w base f vs ⟨.bool (.sym b),[],[]⟩:=by
 obtain ⟨x,ys,hx,hys,rfl⟩:=zad.1 ha;obtain ⟨y,zs,hy,hzs,rfl⟩:=zad.1 hys;obtain ⟨k,_,hx'⟩:=Ss.zcB (hi _ _ hx);obtain ⟨k2,_,hy'⟩:=Ss.zcB (hi' _ _ hy);refine qzb (c:=qyb g) hH ⟨[nm,nm'],[t.row,u.row],[(t.pl k).val 0,(u.pl k2).val 1]⟩ (by intro g j hg; cases hg) ?_ (Ifc.zbD (by simp [hne]) ?_ ⟨⟨ht _,t.zbq _⟩,⟨hu _,u.zbq _⟩,trivial⟩) [] (by simp) (by simp) (qjb (hrun k k2) fun v H h=>qkd rfl h)
 . show SV.zak β [((t.pl k).val 0).ren _,((u.pl k2).val 1).ren _]=_;rw [Ss.zcA,Ss.zcA]; exact zad.2 ⟨_,_,hx',zad.2 ⟨_,_,hy',hzs,rfl⟩,rfl⟩
 . show (((t.pl k).val 0).uses _ && (((u.pl k2).val 1).uses _ && true))=true;rw [Ss.zce _ _ _ rfl,Ss.zce _ _ _ rfl]; rfl
theorem qct {g:FuncId->Option zaR} (hc:zaw (qyb g)) {f:FuncId} {O:Nat->Prop} {w0 w:World} {β:Val} {H:List SO} {base:Nat} {vs:List Value} (hH:HeapRel0 Tryd.prog O w0 β H w) {args:List SV} {args':Nat->List SV} {t:Ss} {nm:Nat} (hf:∃ k,SV.zak β (SV.zbA (⟨[nm],[t.row],args' k⟩:Ifc).big (args' k))=some vs) (hu:∀ k,SV.za5 (⟨[nm],[t.row],args' k⟩:Ifc).known (args' k)=true)
  (ht:∀ g,∃ e',H[nm]? = some e'/\Taken g t.row e') {b:SB} {c:Bool} {ds:List Bool} {ps:List Prop} {n:Nat} (hrun:∀ k,zaP [] (qla (qyb g) n f (args' k) [t.row]) ds=(ps,some (.bool b,[]))) (hp:∀ p∈ps,p) (hb:b.den=c):qob Tryd.prog H β w base f vs ⟨.bool (.sym c),[],[]⟩:=by
 obtain ⟨k,hk⟩:=hf;exact qmb hc n hH ⟨[nm],[t.row],args' k⟩ (by intro g j hg; cases hg) hk (Ifc.zbD (by simp) (hu k) ⟨⟨ht _,t.zbq _⟩,trivial⟩) [] (by simp) (by simp) (q5a (hrun k) hp fun H2 _=>qkd rfl ⟨_,rfl,hb⟩)
def inS':zaR:=fun args H _=>qke args fun v xv=>zah (zbH xv) (.stuck 7811) fun x=>qbk H v fun t _=>.need t.ok (.ok (bR (inP t x.den)))
def ixS:zaR:=fun args H _=>qke args fun v xv=>zah (zbH xv) (.stuck 7812) fun x=>qbk H v fun t _=>.need t.ok (.ok ⟨.int .i64 (.sym (zgj t x.den)),[],[]⟩)
theorem inOK:q2a Tryd.prog 37 inS':=by
 intro glob O w0 β H w base args vs hH hG ha;refine qvc fun v xv hv=>qca fun x hx => ?_
 rw [hv,qua hx] at ha;have ha:=qja (.refl v) (qja (qhb (t:=.sym x.den) rfl) qsb) _ _ ha;refine qie (fun hn=>fun _ => ?_) fun t nm ht hi=>fun hok=>q5s (g:=q2b rlL) hH ha ht hi (fun _=>rfl) (fun _=>rfl) fun k=>j8h k x.den hok;rw [hn] at ha;exact q8h q0c hH ha (fun _=>rfl) (fun _=>rfl) (j9l x.den) qaa (q0a fun ⟨i,hi,_⟩=>by have:i<0:=hi; omega).symm
theorem ixOK:q2a Tryd.prog 41 ixS:=by
 intro glob O w0 β H w base args vs hH hG ha;refine qvc fun v xv hv=>qca fun x hx => ?_
 rw [hv,qua hx] at ha;have ha:=qja (.refl v) (qja (qhb (t:=.sym x.den) rfl) qsb) _ _ ha;refine qie (fun hn=>fun _ => ?_) fun t nm ht hi=>fun hok=>jkm (g:=q2b rlL) hH ha ht hi (fun _=>rfl) (fun _=>rfl) (fun k=>j9h k x.den hok) fun k v H h=>qd0 rfl h;rw [hn] at ha;exact qmb q0c 4000 hH ⟨[],[],[.zac,.str (.sym x.den)]⟩ (by intro g j hg; cases hg) ha (Ifc.zbD (by simp) rfl trivial) [] (by simp) (by simp) (q5a (jam x.den) qaa fun H2 _=>qd0 rfl ⟨_,rfl,(qvo fun i hi=>by have:i<0:=hi; omega).symm⟩)
def rlL2:List (FuncId × zaR):=(41,ixS)::rlL
theorem jlm:∀ y∈rlL2,q2a Tryd.prog y.1 y.2:=zb2 ixOK jne
theorem qe9:zck.ok:=⟨Nat.le_refl _,by show (0:Nat)<=_; omega⟩
theorem ziU:zaP [] (saT none .zac .zac []) []=([],some (.bool (.lit true),[])):=by kernel_rfl
theorem ziW (u:Ss) (k:Nat):zaP [] (saT none .zac ((u.pl k).val 0) [u.row]) [true]=([((0:Int) != (u.n:Int))=true],some (.bool (.lit false),[])):=by kernel_rfl
theorem ziV (u:Ss) (k:Nat):zaP [] (saT none .zac ((u.pl k).val 0) [u.row]) [false]=([((0:Int) != (u.n:Int))=false],some (.bool (.lit true),[])):=by kernel_rfl
theorem ziY (t:Ss) (k:Nat):zaP [] (saT none ((t.pl k).val 0) .zac [t.row]) [true]=([((t.n:Int) != 0)=true],some (.bool (.lit false),[])):=by kernel_rfl
theorem ziX (t:Ss) (k:Nat):zaP [] (saT none ((t.pl k).val 0) .zac [t.row]) [false,false]=([((t.n:Int) != 0)=false,decide ((0:Int)<(t.n:Int))=false],some (.bool (.lit true),[])):=by kernel_rfl
def difN (a b:Option Nat):Bool:=zah a true fun x=>zah b true fun y=>zab (Nat.beq x y) false true
def saS:zaR:=fun args H _=>qke args fun v w=>qbk H v fun t tn=>qbk H w fun u un=>zab (difN tn un) (.need (t.ok/\u.ok) (.ok (bR (q3m t u)))) (.stuck 7813)
theorem saOK:q2a Tryd.prog 27 saS:=by
 intro glob O w0 β H w base args vs hH hG ha;refine qvc fun v w' hv => ?_
 rw [hv] at ha;refine qie (fun hn=>qie (fun hn'=>qcb fun _=>fun _ => ?_) fun u un hu hi'=>qcb fun _=>fun _ => ?_) fun t tn ht hi=>qie (fun hn'=>qcb fun _=>fun _ => ?_) fun u un hu hi'=>qcb fun hd=>fun ⟨h1,h2⟩ => ?_
 . rw [hn,hn'] at ha;exact q8h q0c hH ha (fun _=>rfl) (fun _=>rfl) ziU qaa (q8a ⟨rfl,fun i hi=>by have:i<0:=hi; omega⟩).symm
 . rw [hn] at ha;obtain ⟨x,ys,hx,hys,rfl⟩:=zad.1 ha;obtain ⟨y,zs,hy,hzs,rfl⟩:=zad.1 hys;obtain ⟨k,_,hy'⟩:=Ss.zcB (hi' _ _ hy);have hf:∃ k,SV.zak β (SV.zbA (⟨[un],[u.row],[.zac,(u.pl k).val 0]⟩:Ifc).big [.zac,(u.pl k).val 0])=some (x::y::zs):=⟨k,by
    show SV.zak β [.zac,((u.pl k).val 0).ren _]=_;rw [Ss.zcA]; exact zad.2 ⟨_,_,hx,zad.2 ⟨_,_,hy',hzs,rfl⟩,rfl⟩⟩
   have hus:∀ k,SV.za5 (⟨[un],[u.row],[.zac,(u.pl k).val 0]⟩:Ifc).known [.zac,(u.pl k).val 0]=true:=fun k=>by
    show (true && (((u.pl k).val 0).uses _ && true))=true;rw [Ss.zce _ _ _ rfl]; rfl
   by_cases c:u.n=0
   . exact qct (args:=[]) q0c hH (args':=fun k=>[.zac,(u.pl k).val 0]) hf hus hu (fun k=>ziV u k) (zaa (zhK (by omega)) qaa) (q8a ⟨c.symm,fun i hi=>by have:i<0:=hi; omega⟩).symm
   . exact qct (args:=[]) q0c hH (args':=fun k=>[.zac,(u.pl k).val 0]) hf hus hu (fun k=>ziW u k) (zaa (zhJ (by omega)) qaa) (q0a fun h=>c h.1.symm).symm
 . rw [hn'] at ha;obtain ⟨x,ys,hx,hys,rfl⟩:=zad.1 ha;obtain ⟨k,_,hx'⟩:=Ss.zcB (hi _ _ hx);have hf:∃ k,SV.zak β (SV.zbA (⟨[tn],[t.row],[(t.pl k).val 0,.zac]⟩:Ifc).big [(t.pl k).val 0,.zac])=some (x::ys):=⟨k,by
    show SV.zak β [((t.pl k).val 0).ren _,.zac]=_;rw [Ss.zcA]; exact zad.2 ⟨_,_,hx',hys,rfl⟩⟩
   have hus:∀ k,SV.za5 (⟨[tn],[t.row],[(t.pl k).val 0,.zac]⟩:Ifc).known [(t.pl k).val 0,.zac]=true:=fun k=>by
    show (((t.pl k).val 0).uses _ && (true && true))=true;rw [Ss.zce _ _ _ rfl]; rfl
   by_cases c:t.n=0
   . exact qct (args:=[]) q0c hH (args':=fun k=>[(t.pl k).val 0,.zac]) hf hus ht (fun k=>ziX t k) (zaa (zhK (by omega)) (zaa (decide_eq_false (by omega)) qaa)) (q8a ⟨c,fun i hi=>by omega⟩).symm
   . exact qct (args:=[]) q0c hH (args':=fun k=>[(t.pl k).val 0,.zac]) hf hus ht (fun k=>ziY t k) (zaa (zhJ (by omega)) qaa) (q0a fun h=>c h.1).symm
 . have hne:tn≠un:=fun e=>by
    subst e;have h:zab (Nat.beq tn tn) false true=true:=hd;rw [Nat.beq_refl] at h;cases h
   exact jbi (g:=q2b rlL) hH ha hne ht hi hu hi' fun k k2=>jai k k2 h1 h2
end
end Go.Proofs.YtbhlngmhgplepaaDoor.Aes
namespace Go.Sim
noncomputable section
open Go
def jmm (β:Val):List SF->List SF->Prop
 | s::r,s'::r'=>(s'.fn=s.fn/\s'.todo=s.todo/\s'.defers=s.defers/\s'.roundOf=s.roundOf/\∀ vs,SV.zak β s.tmps=some vs->SV.zak β s'.tmps=some vs)/\jmm β r r'
 | [],[]=>True
 | _,_=>False
end
end Go.Sim
namespace Go.Proofs.YtbhlngmhgplepaaDoor.Aes
noncomputable section
open Go.Sim
open Go.Proofs
variable {α:Type}
def zjq:List (FuncId × zaR):=[(68,soSm)]
theorem qf9:∀ y∈zjq,q2a Tryd.prog y.1 y.2:=all1 soOK
def zcl:Cfg:={ qyb (q2b zjq) with zdM:=some 2 }
theorem jci:zaw zcl:=let h:=qdc qf9; ⟨h.prog,h.sums,h.zeI⟩
def kS:MSh:=⟨false,[.s]⟩
def vV:MSh:=⟨false,[.v]⟩
def zec (L z:Nat):Nat:=if L<=z then z else L
def rdA (m:Mem) (A:Addr):ByteArray:=zcQ ((m.cell A).getD undef)
def ldM (m:Mem) (A:Addr) (q:List Prop):List Prop:=q23 (.pointer (some A))::((m.cell A).isSome=true)::zcK .s ((m.cell A).getD undef)::q
section
variable (es:List MapEntry) (c:Nat) (x y:ByteArray) (m:Mem)
def sT (st:Option (Nat × Nat)) (n:Nat):Tree:=qla (zcl.at st) n 35 [.ptr ⟨0,.lit 0⟩,.str (.sym x),.str (.sym y)] [.row (.lst [.map 1]),.obj (.za6 kPr vBo es c),.mem m]
def zhO:SS:=qvb (sT es c x y m (some (2,2)) 1000) [false]
def tgE (j:Nat):HP:=.ent ((nth (zhO es c x y m).heap j).getD .gone)
def tgF (j:Nat):List SV:=zah (nth (zhO es c x y m).frames j) [] fun f=>f.tmps
variable (es2:List MapEntry) (c2:Nat) (m2:Mem) (i:Nat) (J:zaW)
def tgC:Cut:=⟨q0b (zhO es c x y m).frames [app (qmi (tgF es c x y m 0) [0,1,5,6]) [(7,.int .i64 (.sym i))],qmi (tgF es c x y m 1) [1,2,6,7]],
 [tgE es c x y m 0,tgE es c x y m 1,.ent (.mem m2),.ent (.obj (.za6 kS vV es2 c2)),tgE es c x y m 4,tgE es c x y m 5,tgE es c x y m 6,tgE es c x y m 7,qzs (nth (zhO es c x y m).heap 8) (qmi (tgF es c x y m 1) [1,2,6,7])]⟩
def tgS (st:Option (Nat × Nat)) (n:Nat):Tree:=zaY (zcl.at st) n ((tgC es c x y m es2 c2 m2 i).fill J)
def tgA:ByteArray:=cF (srL es) (0+i * 2+0)
def tgB:ByteArray:=cF (srL es) (0+i * 2+1)
def tgV:Value:=zbF es2 (.string (tgA es i))
variable (z:Nat->Nat->Nat)
def tg9:List Nat:=[0,1,2,3,4,5,6,7,8]
def tgP (q:List Prop):List Prop:=(decide ((i:Int)<(es.length:Int))=true)::((0:Int)<=(i:Int)/\(i:Int)<(es.length:Int))::(0+i * 2+2<=es.length * 2)::q
def tgR:List Prop:=[qra ((i:Int)+1)]
def tgY:Nat->Value:=fun j=>atV [.string (tgB es i)] (0+j)
def tgM0:Mem:=m2.put (zaS (tgV es es2 i)).block (zaK (tgV es es2 i) * 1) (1 * 1) (tgY es i)
def tgW0:Value:=.slice (some (zaS (tgV es es2 i))) (zaK (tgV es es2 i)+1) (zb7 (tgV es es2 i))
def tgM1:Mem:=m2.add (m2.fresh (z 0 0)) ((zaK (tgV es es2 i)+1) * 1) (zec (zaK (tgV es es2 i)+1) (z 0 1)) 9 (zb5 (zc2 m2 (zaS (tgV es es2 i))) (zaK (tgV es es2 i) * 1) (tgY es i))
def tgW1:Value:=.slice (some ⟨m2.fresh (z 0 0),0,none⟩) (zaK (tgV es es2 i)+1) (zec (zaK (tgV es es2 i)+1) (z 0 1) - 0)
def tgM2:Mem:=m2.add (m2.fresh (z 0 0)) 1 (zec 1 (z 0 1)) 9 (atV [.string (tgB es i)])
def tgW2:Value:=.slice (some ⟨m2.fresh (z 0 0),0,none⟩) 1 (zec 1 (z 0 1) - 0)
theorem jkc:zaq [] (tgC es c x y m es2 c2 m2 i) tg9 (tgS es c x y m es2 c2 m2 i J (some (2,2)) 20000) [true,true,true,true] z=(tgP es i ((zaT es2 (.string (tgA es i))=true)::zcH (tgV es es2 i)::(1<=1)::qng (tgV es es2 i)::(decide (zaK (tgV es es2 i)+1<=zb7 (tgV es es2 i))=true) ::
  ((∃ k cap,m2.own (zaS (tgV es es2 i)).block=some (k,cap,9)/\zb7 (tgV es es2 i)<=cap)/\zaS (tgV es es2 i)=⟨(zaS (tgV es es2 i)).block,0,none⟩/\∀ j,j<1 * 1->(tgY es i j).oneCell'=true)::(zaT es2 (.string (tgA es i))=true)::tgR i),
  some (.inr (qia tg9 11 (tgC es c x y m (zea es2 (.string (tgA es i)) (tgW0 es es2 i)) c2 (tgM0 es es2 m2 i) (i+1))))):=by kernel_rfl
theorem jlc:zaq [] (tgC es c x y m es2 c2 m2 i) tg9 (tgS es c x y m es2 c2 m2 i J (some (2,2)) 20000) [true,true,false,true] z=(tgP es i ((zaT es2 (.string (tgA es i))=true)::zcH (tgV es es2 i)::(1<=1)::qng (tgV es es2 i)::(decide (zaK (tgV es es2 i)+1<=zb7 (tgV es es2 i))=false) ::
  (zcH (tgV es es2 i)/\(zeN (tgV es es2 i)=none->zaK (tgV es es2 i)=0)/\∀ j,j<zaK (tgV es es2 i) * 1->(m2.cell ((zaS (tgV es es2 i)).add j)).isSome=true)::((zaK (tgV es es2 i)+1) * 16<140737488355328/\zaK (tgV es es2 i)+1<140737488355328)::(zaT es2 (.string (tgA es i))=true)::tgR i),
  some (.inr (qia tg9 12 (tgC es c x y m (zea es2 (.string (tgA es i)) (tgW1 es es2 m2 i z)) c2 (tgM1 es es2 m2 i z) (i+1))))):=by kernel_rfl
theorem jmc:zaq [] (tgC es c x y m es2 c2 m2 i) tg9 (tgS es c x y m es2 c2 m2 i J (some (2,2)) 20000) [true,false,false] z=(tgP es i ((zaT es2 (.string (tgA es i))=false)::(zaT es2 (.string (tgA es i))=false)::tgR i),
  some (.inr (qia tg9 12 (tgC es c x y m (zcS es2 c2 (.string (tgA es i)) (tgW2 m2 z)) (c2+1) (tgM2 es m2 i z) (i+1))))):=by kernel_rfl
theorem jdi:zaq [] (tgC es c x y m [] 0 m 0) tg9 (sT es c x y m (some (2,2)) 20000) [false] z=([agG es c,zfo es=false],some (.inr (qva [(0,7,.int .i64 (.lit 0))] [(3,.ent (.obj (.map [] 0)))] (qia tg9 9 (tgC es c x y m [] 0 m 0))))):=by kernel_rfl
theorem q4m (zih:List MapEntry) (c2':Nat) (m2':Mem) (i':Nat):zab (qna 3 tg9 (tgC es c x y m es2 c2 m2 i) (tgC es c x y m zih c2' m2' i')) (zaG qma (tgC es c x y m zih c2' m2' i').heap) false=true:=by kernel_rfl
theorem jnm:(((tgC es c x y m es2 c2 m2 i).frames[0]?).bind fun p=>p.tmps[7]?)=some (some (.int .i64 (.sym i))):=by kernel_rfl
theorem jom:(tgC es c x y m es2 c2 m2 i).heap[3]? = some (.ent (.obj (.za6 kS vV es2 c2))):=by kernel_rfl
end
end
noncomputable section
open Go.Sim
open Go.Proofs
variable {α:Type}
structure LvS where
 f:Bool
 V:Nat->Value
 n:Nat
structure RwS where
 b:Bool
 V:Nat->Value
 n:Nat
def lvNQ (l:LvS):SN:=zab l.f (.lit 1) (.sym l.n)
def lvIQ (l:LvS):SV:=.int .i64 (zab l.f (.lit 1) (.sym (l.n:Int)))
def jqe (l:LvS):SV:=.slice ⟨8,.lit 0⟩ (lvNQ l) (zab l.f (.lit 1) (.rest 8 0))
def lvEQ (l:LvS):HP:=zab l.f (.ent (.own (.raw l.V 1) true 25)) (.ent (.own (.raw l.V l.n) false 25))
def qn6 (nm:Nat) (r:RwS):SV:=zab r.b (.slice ⟨nm,.lit 0⟩ (.sym r.n) (.rest nm 0)) .zac
def rwEQ (r:RwS):HP:=zab r.b (.ent (.own (.raw r.V r.n) false 25)) (.ent .gone)
section
variable (es:List MapEntry) (c:Nat) (x y:ByteArray) (es2:List MapEntry) (c2:Nat) (J:zaW)
def m0Q:Mem:=zcW
def J0Q:zaW:=⟨fun _ _=>undef,fun _ _=>undef⟩
def bS0Q:SS:=qvb (tgS es c x y m0Q es2 c2 m0Q 0 J0Q (some (1,8)) 1000) [false]
def bFQ (j:Nat):List SV:=zah (nth (bS0Q es c x y es2 c2).frames j) [] fun f=>f.tmps
structure BSt where
 m:Mem
 es3:List MapEntry
 c3:Nat
 lv:LvS
 p:Nat
 nx:RwS
variable (s:BSt)
def seFQ (j:Nat):List SV:=zar (fun v=>v.ren fun n=>zab (Nat.beq n 9) 5 (zab (Nat.beq n 10) 6 n)) (bFQ es c x y es2 c2 j)
def bTQ:List (Nat × SV):=app (qmi (seFQ es c x y es2 c2 0) [1,2,6,7,10,11,12]) [(13,jqe s.lv),(14,qn6 9 s.nx),(42,jqe s.lv),(43,lvIQ s.lv),(44,.int .i64 (.sym s.p))]
def bHQ (l:RwS):List HP:=[tgE es c x y m0Q 0,tgE es c x y m0Q 1,.ent (.mem s.m),.ent (.obj (.za6 kS vV es2 c2)),tgE es c x y m0Q 4,.ent (.obj (.za6 kS vBo s.es3 s.c3)),.ent (.own (.lst [.map 5]) true 105),tgE es c x y m0Q 7,lvEQ s.lv,rwEQ s.nx,rwEQ l]
def bCQ:Cut:=⟨q0b (bS0Q es c x y es2 c2).frames [bTQ es c x y es2 c2 s],bHQ es c x y es2 c2 s ⟨false,fun _=>undef,0⟩⟩
def bSQ (st:Option (Nat × Nat)) (n:Nat):Tree:=zaY (zcl.at st) n ((bCQ es c x y es2 c2 s).fill J)
end
def st0Q:BSt:=⟨m0Q,[],0,⟨true,fun _=>undef,0⟩,0,⟨false,fun _=>undef,0⟩⟩
section
variable (es:List MapEntry) (c:Nat) (x y:ByteArray) (es2:List MapEntry) (c2:Nat) (J:zaW) (s:BSt)
def cS0Q:SS:=qvb (bSQ es c x y es2 c2 J0Q st0Q (some (2,3)) 1000) [true,true]
def cFQ (j:Nat):List SV:=zah (nth (cS0Q es c x y es2 c2).frames j) [] fun f=>f.tmps
structure CSt where
 pv:Value
 sv:Value
 j:Nat
 l:RwS
variable (q:CSt)
def cCQ:Cut:=⟨q0b (cS0Q es c x y es2 c2).frames [app (qmi (cFQ es c x y es2 c2 0) [1,2,4]) [(0,.val q.pv),(5,qn6 10 q.l),(15,.val q.sv),(16,.int .i64 (.sym (zaK q.sv:Int))),(17,.int .i64 (.sym (q.j:Int)))],bTQ es c x y es2 c2 s],bHQ es c x y es2 c2 s q.l⟩
def cSQ (st:Option (Nat × Nat)) (n:Nat):Tree:=zaY (zcl.at st) n ((cCQ es c x y es2 c2 s q).fill J)
end
section
variable (es:List MapEntry) (c:Nat) (x y:ByteArray) (es2:List MapEntry) (c2:Nat) (J:zaW) (s:BSt)
def q0Q:CSt:=⟨undef,undef,0,⟨true,fun _=>undef,0⟩⟩
def dS0Q:SS:=qvb (cSQ es c x y es2 c2 J0Q st0Q q0Q (some (1,12)) 1000) [false]
variable (l:RwS) (k:Nat)
def dCQ:Cut:=⟨q0b (dS0Q es c x y es2 c2).frames [app (bTQ es c x y es2 c2 s) [(50,qn6 10 l),(51,.int .i64 (.sym (l.n:Int))),(52,.int .i64 (.sym (k:Int)))]],bHQ es c x y es2 c2 s l⟩
def dSQ (st:Option (Nat × Nat)) (n:Nat):Tree:=zaY (zcl.at st) n ((dCQ es c x y es2 c2 s l k).fill J)
end
section
variable (es:List MapEntry) (c:Nat) (x y:ByteArray) (m:Mem) (es2:List MapEntry) (c2:Nat) (m2:Mem) (i:Nat) (J:zaW) (z:Nat->Nat->Nat)
def zgF:Mem:=m2.add (m2.fresh (z 0 0)) 1 (zec 0 (z 0 1)) 9 (atV [.string x])
def tgN:List Nat:=[0,1,2,3,4,9,10,7,12,5,6]
end
def lvM (l:LvS):Nat:=zab l.f 1 l.n
def q6w (v:Value):Addr:=(zaS v).add (((zaK v:Int) - 1).toNat * 1)
def qqf (m:Mem) (v:Value):ByteArray:=rdA m (q6w v)
def q7w (m:Mem) (v:Value) (q:List Prop):List Prop:=zcH v::qra ((zaK v:Int) - 1)::qng v::((0:Int)<=(zaK v:Int) - 1/\(zaK v:Int) - 1<(zaK v:Int))::ldM m (q6w v) q
def bV (s:BSt):Value:=s.lv.V (0+s.p * 1)
def bL (s:BSt):ByteArray:=qqf s.m (bV s)
def bG (s:BSt) (q:List Prop):List Prop:=(decide ((s.p:Int)<(lvM s.lv:Int))=true)::((0:Int)<=(s.p:Int)/\(s.p:Int)<(lvM s.lv:Int))::(0+s.p * 1<lvM s.lv)::q7w s.m (bV s) q
def noRw:RwS:=⟨false,fun _=>undef,0⟩
section
variable (es:List MapEntry) (c:Nat) (x y:ByteArray) (es2:List MapEntry) (c2:Nat) (J:zaW) (m:Mem) (es3:List MapEntry) (c3:Nat) (f:Bool) (VL:Nat->Value) (n p:Nat) (b:Bool) (VN:Nat->Value) (nn:Nat) (z:Nat->Nat->Nat)
def bst:BSt:=⟨m,es3,c3,⟨f,VL,n⟩,p,⟨b,VN,nn⟩⟩
def n11:List Nat:=[0,1,2,3,4,5,6,7,8,9,10]
theorem jpm:zaq [] (bCQ es c x y es2 c2 (bst m es3 c3 f VL n p b VN nn)) n11 (bSQ es c x y es2 c2 J (bst m es3 c3 f VL n p b VN nn) (some (1,8)) 20000) [true,false] z =
  (bG (bst m es3 c3 f VL n p b VN nn) [zaT es2 (.string (bL (bst m es3 c3 f VL n p b VN nn)))=false,qra ((p:Int)+1)],some (.inr (qia n11 11 (bCQ es c x y es2 c2 (bst m es3 c3 f VL n (p+1) b VN nn))))):=by cases f <;> cases b <;> kernel_rfl
theorem b_go:zaq [] (cCQ es c x y es2 c2 (bst m es3 c3 f VL n p b VN nn) ⟨bV (bst m es3 c3 f VL n p b VN nn),zbF es2 (.string (bL (bst m es3 c3 f VL n p b VN nn))),0,noRw⟩) n11 (bSQ es c x y es2 c2 J (bst m es3 c3 f VL n p b VN nn) (some (2,3)) 20000) [true,true] z =
  (bG (bst m es3 c3 f VL n p b VN nn) [zaT es2 (.string (bL (bst m es3 c3 f VL n p b VN nn)))=true,zcH (zbF es2 (.string (bL (bst m es3 c3 f VL n p b VN nn))))],some (.inr (qva [(0,17,.int .i64 (.lit 0))] [] (qia n11 11 (cCQ es c x y es2 c2 (bst m es3 c3 f VL n p b VN nn) ⟨bV (bst m es3 c3 f VL n p b VN nn),zbF es2 (.string (bL (bst m es3 c3 f VL n p b VN nn))),0,noRw⟩))))):=by cases f <;> cases b <;> kernel_rfl
theorem jqm:zaq [] (bCQ es c x y es2 c2 (bst m es3 c3 false VN nn 0 false VN nn)) [0,1,2,3,4,5,6,7,9,8,10] (bSQ es c x y es2 c2 J (bst m es3 c3 f VL n p true VN nn) (some (1,8)) 20000) [false,true] z=([decide ((p:Int)<(lvM ⟨f,VL,n⟩:Int))=false,decide ((nn:Int) > 0)=true],some (.inr (qva [(0,44,.int .i64 (.lit 0))] [] (qia [0,1,2,3,4,5,6,7,9,8,10] 11 (bCQ es c x y es2 c2 (bst m es3 c3 false VN nn 0 false VN nn)))))):=by cases f <;> kernel_rfl
end
end
noncomputable section
open Go.Sim
open Go.Proofs
variable {α:Type}
def xA (sv:Value) (j:Nat):Addr:=(zaS sv).add (j * 1)
def xG (m:Mem) (sv:Value) (j:Nat) (q:List Prop):List Prop:=(decide ((j:Int)<(zaK sv:Int))=true)::qng sv::((0:Int)<=(j:Int)/\(j:Int)<(zaK sv:Int))::ldM m (xA sv j) q
def xP (v:Value):Value:=.slice (some (if ((zaK v:Int)).toNat=0 then zaS v else (zaS v).add (0 * 1))) ((zaK v:Int).toNat - 0) ((zaK v:Int).toNat - 0)
def xK (m:Mem) (pv:Value) (q:List Prop):List Prop:=zcH pv::zcH pv::(qng pv/\zaK pv<=zb7 pv)::((0:Int)<=(zaK pv:Int)/\(zaK pv:Int)<=(zb7 pv:Int))::((0:Int)<=(zaK pv:Int)/\(zaK pv:Int)<=(((zaK pv:Int).toNat:Nat):Int)) ::
 zcH (xP pv)::(1<=1)::qng (xP pv)::(decide (zaK (xP pv)+1<=zb7 (xP pv))=false)::(zcH (xP pv)/\(zeN (xP pv)=none->zaK (xP pv)=0)/\∀ j,j<zaK (xP pv) * 1->(m.cell ((zaS (xP pv)).add j)).isSome=true)::((zaK (xP pv)+1) * 16<140737488355328/\zaK (xP pv)+1<140737488355328)::q
def xY (m:Mem) (pv:Value) (b:ByteArray):Nat->Value:=zb5 (zc2 m (zaS (xP pv))) (zaK (xP pv) * 1) fun j=>atV [.string b] (0+j)
section
variable (es:List MapEntry) (c:Nat) (x y:ByteArray) (es2:List MapEntry) (c2:Nat) (J:zaW) (m:Mem) (es3:List MapEntry) (c3:Nat) (f:Bool) (VL:Nat->Value) (n p:Nat) (b:Bool) (VN:Nat->Value) (nn:Nat) (pv sv:Value) (j:Nat) (lb:Bool) (Vl:Nat->Value) (nl:Nat) (z:Nat->Nat->Nat)
def xB:ByteArray:=rdA m (xA sv j)
def xM:Mem:=m.add (m.fresh (z 0 0)) ((zaK (xP pv)+1) * 1) (zec (zaK (xP pv)+1) (z 0 1)) 9 (xY m pv (xB m sv j))
def xV:Value:=.slice (some ⟨m.fresh (z 0 0),0,none⟩) (zaK (xP pv)+1) (zec (zaK (xP pv)+1) (z 0 1) - 0)
def xS:List MapEntry:=zcS es3 c3 (.string (xB m sv j)) (.bool true)
def xF (q:List Prop):List Prop:=xG m sv j ((zaT es3 (.string (xB m sv j))=false)::(zaT es3 (.string (xB m sv j))=false)::xK m pv q)
theorem jrm:zaq [] (cCQ es c x y es2 c2 (bst m es3 c3 f VL n p b VN nn) ⟨pv,sv,j,⟨lb,Vl,nl⟩⟩) n11 (cSQ es c x y es2 c2 J (bst m es3 c3 f VL n p b VN nn) ⟨pv,sv,j,⟨lb,Vl,nl⟩⟩ (some (2,3)) 20000) [true,true,false] z =
  (xG m sv j [zaT es3 (.string (xB m sv j))=true,(!(zd8 (zbF es3 (.string (xB m sv j)))))=false,qra ((j:Int)+1)],some (.inr (qia n11 11 (cCQ es c x y es2 c2 (bst m es3 c3 f VL n p b VN nn) ⟨pv,sv,j+1,⟨lb,Vl,nl⟩⟩)))):=by cases f <;> cases b <;> cases lb <;> kernel_rfl
def xC:Nat->SV:=zeR (fun i=>.val (Vl (0+i))) (nl * 1) fun i=>(nth [SV.slice ⟨12,.lit 0⟩ (.sym (zaK (xP pv)+1)) (.rest 12 0)] (0+i)).getD qwa
def xZ:Sub:=[(12,m.fresh (z 0 0),zec (zaK (xP pv)+1) (z 0 1))]
def xW:Nat->Value:=fun j=>zeb (xZ m pv z) (xC pv Vl nl j)
theorem jsm:zaq [] (bCQ es c x y es2 c2 (bst m es3 c3 f VL n (p+1) b VN nn)) n11 (cSQ es c x y es2 c2 J (bst m es3 c3 f VL n p b VN nn) ⟨pv,sv,j,⟨false,Vl,nl⟩⟩ (some (1,8)) 20000) [false] z =
  ([decide ((j:Int)<(zaK sv:Int))=false,qra ((p:Int)+1)],some (.inr (qia n11 11 (bCQ es c x y es2 c2 (bst m es3 c3 f VL n (p+1) b VN nn))))):=by cases f <;> cases b <;> kernel_rfl
theorem jtm:zaq [] (dCQ es c x y es2 c2 (bst m es3 c3 f VL n p b VN nn) ⟨true,Vl,nl⟩ 0) n11 (cSQ es c x y es2 c2 J (bst m es3 c3 f VL n p b VN nn) ⟨pv,sv,j,⟨true,Vl,nl⟩⟩ (some (1,12)) 20000) [false] z =
  ([decide ((j:Int)<(zaK sv:Int))=false],some (.inr (qva [(0,52,.int .i64 (.lit 0))] [] (qia n11 11 (dCQ es c x y es2 c2 (bst m es3 c3 f VL n p b VN nn) ⟨true,Vl,nl⟩ 0))))):=by cases f <;> cases b <;> kernel_rfl
def dVq:Value:=Vl (0+j * 1)
def dG (q:List Prop):List Prop:=(decide ((j:Int)<(nl:Int))=true)::((0:Int)<=(j:Int)/\(j:Int)<(nl:Int))::(0+j * 1<nl)::q7w m (dVq j Vl) q
theorem jei:zaq [] (dCQ es c x y es2 c2 (bst m es3 c3 f VL n p true (atV [dVq j Vl]) 1) ⟨true,Vl,nl⟩ (j+1)) [0,1,2,3,4,5,6,7,8,12,10] (dSQ es c x y es2 c2 J (bst m es3 c3 f VL n p false VN nn) ⟨true,Vl,nl⟩ j (some (1,12)) 20000) [true,false] z =
  (dG m j Vl nl [decide (qqf m (dVq j Vl)=y)=false,(dVq j Vl).oneCell'=true,qra ((j:Int)+1)],some (.inr (qva [(0,14,.slice ⟨12,.lit 0⟩ (.lit 1) (.rest 12 0))] [(9,.ent (.own (.lst [.val (dVq j Vl)]) false 25))] (qia [0,1,2,3,4,5,6,7,8,12,10] 13 (dCQ es c x y es2 c2 (bst m es3 c3 f VL n p true (atV [dVq j Vl]) 1) ⟨true,Vl,nl⟩ (j+1)))))):=by cases f <;> kernel_rfl
def dWq:Nat->Value:=zb5 (fun i=>VN (0+i)) (nn * 1) fun i=>atV [dVq j Vl] (0+i)
theorem jfi:zaq [] (dCQ es c x y es2 c2 (bst m es3 c3 f VL n p true (dWq VN nn j Vl) ((nn+1) * 1)) ⟨true,Vl,nl⟩ (j+1)) [0,1,2,3,4,5,6,7,8,12,10] (dSQ es c x y es2 c2 J (bst m es3 c3 f VL n p true VN nn) ⟨true,Vl,nl⟩ j (some (1,12)) 20000) [true,false] z =
  (dG m j Vl nl [decide (qqf m (dVq j Vl)=y)=false,(dVq j Vl).oneCell'=true,1<=1,0+nn * 1<=nn,((nn+1) * 24<140737488355328/\nn+1<140737488355328)/\∀ i,i<1 * 1->(atV [dVq j Vl] (0+i)).oneCell'=true,qra ((j:Int)+1)],
   some (.inr (qva [(0,14,.slice ⟨12,.lit 0⟩ (.sym (nn+1)) (.rest 12 0))] [] (qia [0,1,2,3,4,5,6,7,8,12,10] 13 (dCQ es c x y es2 c2 (bst m es3 c3 f VL n p true (dWq VN nn j Vl) ((nn+1) * 1)) ⟨true,Vl,nl⟩ (j+1)))))):=by cases f <;> kernel_rfl
theorem zlb:zaq [] (bCQ es c x y es2 c2 (bst m es3 c3 f VL n (p+1) b VN nn)) n11 (dSQ es c x y es2 c2 J (bst m es3 c3 f VL n p b VN nn) ⟨true,Vl,nl⟩ j (some (1,8)) 20000) [false] z =
  ([decide ((j:Int)<(nl:Int))=false,qra ((p:Int)+1)],some (.inr (qia n11 11 (bCQ es c x y es2 c2 (bst m es3 c3 f VL n (p+1) b VN nn))))):=by cases f <;> cases b <;> kernel_rfl
end
end
end Go.Proofs.YtbhlngmhgplepaaDoor.Aes
namespace Go.Bfs
noncomputable section
abbrev Str:=ByteArray
abbrev Pth:=List Str
def ext (p:Pth):List Str->List Str->List Pth × List Str
 | [],seen=>([],seen)
 | b::r,seen=>@ite _ (b∈seen) (Classical.propDecidable _) (ext p r seen) ((p++[b])::(ext p r (seen++[b])).1,(ext p r (seen++[b])).2)
theorem qme {p:Pth} {b:Str} {r seen:List Str} (h:b∈seen):ext p (b::r) seen=ext p r seen:=by
 rw [ext]; exact if_pos h
theorem qrf {p:Pth} {b:Str} {r seen:List Str} (h:b ∉ seen):ext p (b::r) seen=((p++[b])::(ext p r (seen++[b])).1,(ext p r (seen++[b])).2):=by
 rw [ext]; exact if_neg h
theorem qpp (p:Pth):∀ (r r' seen:List Str),ext p (r++r') seen=((ext p r seen).1++(ext p r' (ext p r seen).2).1,(ext p r' (ext p r seen).2).2)
 | [],r',seen=>rfl
 | b::r,r',seen=>by
   by_cases h:b∈seen
   . rw [List.cons_append,qme h,qme h,qpp p r r' seen]
   . rw [List.cons_append,qrf h,qrf h,qpp p r r' (seen++[b])]; rfl
theorem qan {p:Pth} {b:Str} {r seen:List Str} (h:b∈(ext p r seen).2):ext p (r++[b]) seen=ext p r seen:=by
 rw [qpp,qme h]; simp [ext]
theorem qwo {p:Pth} {b:Str} {r seen:List Str} (h:b ∉ (ext p r seen).2):ext p (r++[b]) seen=((ext p r seen).1++[p++[b]],(ext p r seen).2++[b]):=by
 rw [qpp,qrf h]; simp [ext]
def step (S:Pth->List Str):List Pth->List Str->List Pth × List Str
 | [],seen=>([],seen)
 | p::r,seen=>((ext p (S p) seen).1++(step S r (ext p (S p) seen).2).1,(step S r (ext p (S p) seen).2).2)
theorem zdv (S:Pth->List Str):∀ (r r':List Pth) (seen:List Str),step S (r++r') seen=((step S r seen).1++(step S r' (step S r seen).2).1,(step S r' (step S r seen).2).2)
 | [],r',seen=>rfl
 | p::r,r',seen=>by
   rw [List.cons_append,step,step,zdv S r r'];simp
theorem qfk (S:Pth->List Str) (r:List Pth) (p:Pth) (seen:List Str):step S (r++[p]) seen=((step S r seen).1++(ext p (S p) (step S r seen).2).1,(ext p (S p) (step S r seen).2).2):=by
 rw [zdv]; simp [step]
def qjd (y:Str) (p:Pth):Bool:=@decide (p.getLast? = some y) (Classical.propDecidable _)
theorem zbO {y:Str} {p:Pth}:qjd y p=true↔p.getLast? = some y:=by unfold qjd; simp
inductive Bfs (S:Pth->List Str) (y:Str):List Pth->List Str->Option Pth->Prop
 | found {L:List Pth} {seen:List Str} {q:Pth}:(step S L seen).1.find? (qjd y)=some q->Bfs S y L seen (some q)
 | over {L:List Pth} {seen:List Str}:(step S L seen).1=[]->Bfs S y L seen none
 | next {L:List Pth} {seen:List Str} {o:Option Pth}:(step S L seen).1.find? (qjd y)=none->(step S L seen).1≠[]->Bfs S y (step S L seen).1 (step S L seen).2 o->Bfs S y L seen o
theorem Bfs.det {S:Pth->List Str} {y:Str} {L:List Pth} {seen:List Str} {o o':Option Pth} (h:Bfs S y L seen o) (h':Bfs S y L seen o'):o=o':=by
 induction h generalizing o' with
 | found hf =>
   cases h' with
   | found hf'=>rw [hf] at hf'; exact hf'
   | over he=>rw [he] at hf; cases hf
   | next hn=>rw [hf] at hn; cases hn
 | over he =>
   cases h' with
   | found hf=>rw [he] at hf; cases hf
   | over=>rfl
   | next _ hne=>exact absurd he hne
 | next hn hne _ ih =>
   cases h' with
   | found hf=>rw [hn] at hf; cases hf
   | over he=>exact absurd he hne
   | next _ _ h2=>exact ih h2
def un (N seen:List Str):Nat:=(N.filter fun b=>@decide (b ∉ seen) (Classical.propDecidable _)).length
theorem qo6 (N seen:List Str):un N seen<=N.length:=List.length_filter_le _ _
theorem qp6 {N seen:List Str} {b:Str} (hb:b∈N) (hs:b ∉ seen):un N (seen++[b])<un N seen:=by
 have h1:(N.filter fun a=>@decide (a ∉ seen++[b]) (Classical.propDecidable _))=(N.filter fun a=>@decide (a ∉ seen) (Classical.propDecidable _)).filter fun a=>@decide (a≠b) (Classical.propDecidable _):=by
  rw [List.filter_filter];congr 1;funext a;by_cases h2:a∈seen <;> by_cases h3:a=b <;> simp [h2,h3]
 unfold un;rw [h1];exact List.length_filter_lt_length_iff_exists.2 ⟨b,by simp [hb,hs],by simp⟩
end
end Go.Bfs
namespace Go.Proofs.YtbhlngmhgplepaaDoor.Aes
noncomputable section
open Go.Sim
open Go.Proofs
variable {α:Type}
theorem qef (b i:Nat):(⟨b,0,none⟩:Addr).add i=⟨b,i,none⟩:=by
 unfold Addr.add;split
 . rename_i h0; subst h0; rfl
 . simp
def zbK (m:Mem) (b:Nat) (l:List ByteArray):Prop:=∀ i (h:i<l.length),m.cell ⟨b,i,none⟩=some (.string l[i])
def zau (m:Mem) (v:Value) (l:List ByteArray):Prop:=∃ b cap,v=.slice (some ⟨b,0,none⟩) l.length cap/\l.length<=cap/\zbK m b l
def za8 (m:Mem) (v:Value) (l:List ByteArray):Prop:=∃ b cap,v=.slice (some ⟨b,0,none⟩) l.length cap/\l.length<=cap/\zbK m b l/\m.own b=some (l.length,cap,9)
theorem za8.strs {m:Mem} {v:Value} {l:List ByteArray} (h:za8 m v l):zau m v l:=let ⟨b,cap,h1,h2,h3,_⟩:=h; ⟨b,cap,h1,h2,h3⟩
section
variable {m:Mem} {v:Value} {l:List ByteArray}
theorem zau.slc (h:zau m v l):qng v:=by obtain ⟨b,cap,rfl,_⟩:=h; rfl
theorem zau.sl (h:zau m v l):zcH v:=by obtain ⟨b,cap,rfl,_⟩:=h; rfl
theorem zau.len (h:zau m v l):zaK v=l.length:=by obtain ⟨b,cap,rfl,_⟩:=h; rfl
theorem zau.cap (h:zau m v l):zaK v<=zb7 v:=by obtain ⟨b,cap,rfl,h,_⟩:=h; exact h
theorem zau.cell (h:zau m v l) {i:Nat} (hi:i<l.length):m.cell ((zaS v).add (i * 1))=some (.string l[i]):=by
 obtain ⟨b,cap,rfl,_,h2⟩:=h;rw [Nat.mul_one];show m.cell ((⟨b,0,none⟩:Addr).add i)=_;rw [qef]; exact h2 i hi
theorem zau.one (h:zau m v l):v.oneCell'=true:=by obtain ⟨b,cap,rfl,_⟩:=h; rfl
theorem qz2 {A:Addr} {s:ByteArray} {q:List Prop} (h:m.cell A=some (.string s)) (hq:∀ p∈q,p):∀ p∈ldM m A q,p:=by
 refine zaa rfl (zaa (by rw [h]; rfl) (zaa ?_ hq))
 rw [h]; exact zfa _
theorem qg9 {A:Addr} {s:ByteArray} (h:m.cell A=some (.string s)):rdA m A=s:=by unfold rdA; rw [h]; rfl
theorem zau.zex (h:zau m v l) (hl:l≠[]):m.cell (q6w v)=some (.string (l.getLast hl)):=by
 have h0:0<l.length:=List.length_pos_iff.2 hl;have e:((zaK v:Int) - 1).toNat=l.length - 1:=by rw [h.len]; omega
 unfold q6w;rw [e,h.cell (by omega),List.getLast_eq_getElem]
theorem zau.zc3 (h:zau m v l) (hl:l≠[]) (hn:l.length<=1000000000) {q:List Prop} (hq:∀ p∈q,p):∀ p∈q7w m v q,p:=by
 have h0:0<l.length:=List.length_pos_iff.2 hl;have h1:=h.len;exact zaa h.sl (zaa ⟨by omega,by omega⟩ (zaa h.slc (zaa ⟨by omega,by omega⟩ (qz2 (h.zex hl) hq))))
theorem zau.zcY (h:zau m v l) (hl:l≠[]):qqf m v=l.getLast hl:=qg9 (h.zex hl)
theorem zau.zgY (h:zau m v l):∃ b,zaS v=⟨b,0,none⟩/\zbK m b l/\xP v=.slice (some ⟨b,0,none⟩) l.length l.length:=by
 obtain ⟨b,cap,rfl,_,h2⟩:=h;refine ⟨b,rfl,h2,?_⟩;show Value.slice (some (if ((l.length:Nat):Int).toNat=0 then ⟨b,0,none⟩ else (⟨b,0,none⟩:Addr).add (0 * 1))) _ _=_
 have e:(⟨b,0,none⟩:Addr).add (0 * 1)=⟨b,0,none⟩:=by rw [Nat.zero_mul,qef]
 rw [e];simp; rfl
theorem zau.zfO (h:zau m v l) (hn:l.length<=1000000000) {q:List Prop} (hq:∀ p∈q,p):∀ p∈xK m v q,p:=by
 obtain ⟨b,h1,h2,h3⟩:=h.zgY;have hl:=h.len;have hc:=h.cap;unfold xK;rw [h3];have hcell:∀ j,j<l.length * 1->(m.cell ((⟨b,0,none⟩:Addr).add j)).isSome=true:=fun j hj=>by
  rw [qef,h2 j (by omega)]; rfl
 refine zaa h.sl (zaa h.sl (zaa ⟨h.slc,hc⟩ (zaa ⟨by omega,by omega⟩ (zaa ⟨by omega,by omega⟩ (zaa rfl (zaa (Nat.le_refl 1) (zaa rfl (zaa (decide_eq_false ?_) (zaa ⟨rfl,fun h=>(by cases h),hcell⟩ (zaa ⟨?_,?_⟩ hq))))))))))
 . show ¬ l.length+1<=l.length; omega
 . show (l.length+1) * 16<_; omega
 . show l.length+1<_; omega
theorem zbK.add {b:Nat} (h:zbK m b l) {b' n cap:Nat} {el:TypeId} {V:Nat->Value} (hf:m.free b'):zbK (m.add b' n cap el V) b l:=fun i hi=>by
 have h1:=h i hi;rw [Mem.zdC (fun e => ?_)]
 . exact h1
 . have:=hf.1 ⟨b,i,none⟩ e;rw [this] at h1; cases h1
theorem zau.add (h:zau m v l) {b' n cap:Nat} {el:TypeId} {V:Nat->Value} (hf:m.free b'):zau (m.add b' n cap el V) v l:=let ⟨b,c,h1,h2,h3⟩:=h; ⟨b,c,h1,h2,h3.add hf⟩
theorem za8.add (h:za8 m v l) {b' n cap:Nat} {el:TypeId} {V:Nat->Value} (hf:m.free b'):za8 (m.add b' n cap el V) v l:=by
 obtain ⟨b,c,h1,h2,h3,h4⟩:=h;refine ⟨b,c,h1,h2,h3.add hf,?_⟩;show (if b=b' then _ else m.own b)=_
 rw [if_neg]
 . exact h4
 . intro e;rw [← e] at hf;rw [hf.2] at h4; cases h4
theorem qgk {b n cap:Nat} {el:TypeId} {V:Nat->Value} (hn:n=l.length) (hV:∀ i (h:i<l.length),V i=.string l[i]):zbK (m.add b n cap el V) b l:=fun i hi=>by
 rw [Mem.zf3 (by omega),hV i hi]
theorem qqp (L z:Nat):L<=zec L z:=by unfold zec; split <;> omega
theorem qe0 {b n cap:Nat} {V:Nat->Value} (hn:n=l.length) (hc:n<=cap) (hV:∀ i (h:i<l.length),V i=.string l[i]):za8 (m.add b n cap 9 V) (.slice (some ⟨b,0,none⟩) n (cap - 0)) l:=by
 subst hn;refine ⟨b,cap,rfl,hc,qgk rfl hV,?_⟩;show (if b=b then _ else _)=_
 rw [if_pos rfl]
theorem qf0 (h:zau m v l) {s:ByteArray} (z0 z1:Nat):za8 (m.add (m.fresh z0) ((zaK (xP v)+1) * 1) (zec (zaK (xP v)+1) z1) 9 (xY m v s)) (.slice (some ⟨m.fresh z0,0,none⟩) (zaK (xP v)+1) (zec (zaK (xP v)+1) z1 - 0)) (l++[s]):=by
 obtain ⟨b,h1,h2,h3⟩:=h.zgY;have e:zaK (xP v)=l.length:=by rw [h3]; rfl
 rw [Nat.mul_one];refine qe0 (by rw [e]; simp) (qqp _ _) fun i hi => ?_
 unfold xY zb5;rw [e,Nat.mul_one];by_cases hc:i<l.length
 . rw [if_pos hc];show (m.cell ((zaS (xP v)).add i)).getD undef=_;rw [h3];show (m.cell ((⟨b,0,none⟩:Addr).add i)).getD undef=_;rw [qef,h2 i hc,List.getElem_append_left hc]; rfl
 . rw [if_neg hc];have:i=l.length:=by simp at hi; omega
   subst this;rw [Nat.sub_self];simp [atV]
end
def zbs (P:Mem->Value->List ByteArray->Prop) (m:Mem) (V:Nat->Value) (L:List (List ByteArray)):Prop:=∀ i (h:i<L.length),P m (V i) L[i]
theorem zbs.strs {m:Mem} {V:Nat->Value} {L:List (List ByteArray)} (h:zbs za8 m V L):zbs zau m V L:=fun i hi=>(h i hi).strs
theorem zbs.addS {m:Mem} {V:Nat->Value} {L:List (List ByteArray)} (h:zbs zau m V L) {b' n cap:Nat} {el:TypeId} {W:Nat->Value} (hf:m.free b'):zbs zau (m.add b' n cap el W) V L:=fun i hi=>(h i hi).add hf
theorem zbs.zeu {m:Mem} {V:Nat->Value} {L:List (List ByteArray)} (h:zbs za8 m V L) {b' n cap:Nat} {el:TypeId} {W:Nat->Value} (hf:m.free b'):zbs za8 (m.add b' n cap el W) V L:=fun i hi=>(h i hi).add hf
theorem zbs.nil {P:Mem->Value->List ByteArray->Prop} {m:Mem} {V:Nat->Value}:zbs P m V []:=fun i hi=>by cases hi
theorem zbs.snoc {P:Mem->Value->List ByteArray->Prop} {m:Mem} {V W:Nat->Value} {L:List (List ByteArray)} (h:zbs P m V L) {q:List ByteArray} (hq:P m (W L.length) q) (hW:∀ i,i<L.length->W i=V i):zbs P m W (L++[q]):=fun i hi=>by
 by_cases hc:i<L.length
 . rw [List.getElem_append_left hc,hW i hc]; exact h i hc
 . have:i=L.length:=by simp at hi; omega
   subst this;simpa using hq
end
noncomputable section
open Go.Sim
open Go.Proofs
variable {α:Type}
def n14:List Nat:=[0,1,2,3,4,5,6,7,8,9,14]
def n12:List Nat:=[0,1,2,3,4,5,6,7,8,12,10]
def n98:List Nat:=[0,1,2,3,4,5,6,7,9,8,10]
section
variable (es:List MapEntry) (c:Nat) (x y:ByteArray) (es2:List MapEntry) (c2:Nat) (J:zaW) (m:Mem) (es3:List MapEntry) (c3:Nat) (f:Bool) (VL:Nat->Value) (n p:Nat) (b:Bool) (VN:Nat->Value) (nn:Nat) (pv sv:Value) (j:Nat) (lb:Bool) (Vl:Nat->Value) (nl:Nat) (z:Nat->Nat->Nat)
def bX:Cut:=bCQ es c x y es2 c2 (bst m es3 c3 f VL n p b VN nn)
def cX:Cut:=cCQ es c x y es2 c2 (bst m es3 c3 f VL n p b VN nn) ⟨pv,sv,j,⟨lb,Vl,nl⟩⟩
def dX:Cut:=dCQ es c x y es2 c2 (bst m es3 c3 f VL n p b VN nn) ⟨true,Vl,nl⟩ j
theorem qq6:zab (qna 3 n11 (bX es c x y es2 c2 m es3 c3 f VL n p b VN nn) (bX es c x y es2 c2 m es3 c3 f VL n p b VN nn)) (zaG qma (bX es c x y es2 c2 m es3 c3 f VL n p b VN nn).heap) false=true:=by cases f <;> cases b <;> kernel_rfl
theorem zlr:zab (qna 3 n98 (bX es c x y es2 c2 m es3 c3 f VL n p b VN nn) (bX es c x y es2 c2 m es3 c3 f VL n p b VN nn)) (zaG qma (bX es c x y es2 c2 m es3 c3 f VL n p b VN nn).heap) false=true:=by cases f <;> cases b <;> kernel_rfl
theorem jre:zab (qna 3 n11 (cX es c x y es2 c2 m es3 c3 f VL n p b VN nn pv sv j lb Vl nl) (cX es c x y es2 c2 m es3 c3 f VL n p b VN nn pv sv j lb Vl nl)) (zaG qma (cX es c x y es2 c2 m es3 c3 f VL n p b VN nn pv sv j lb Vl nl).heap) false=true:=by cases f <;> cases b <;> cases lb <;> kernel_rfl
theorem zk9:zab (qna 3 n11 (dX es c x y es2 c2 m es3 c3 f VL n p b VN nn j Vl nl) (dX es c x y es2 c2 m es3 c3 f VL n p b VN nn j Vl nl)) (zaG qma (dX es c x y es2 c2 m es3 c3 f VL n p b VN nn j Vl nl).heap) false=true:=by cases f <;> cases b <;> kernel_rfl
theorem jse:zab (qna 3 n12 (dX es c x y es2 c2 m es3 c3 f VL n p b VN nn j Vl nl) (dX es c x y es2 c2 m es3 c3 f VL n p b VN nn j Vl nl)) (zaG qma (dX es c x y es2 c2 m es3 c3 f VL n p b VN nn j Vl nl).heap) false=true:=by cases f <;> cases b <;> kernel_rfl
theorem jte:(((bX es c x y es2 c2 m es3 c3 f VL n p b VN nn).frames[0]?).bind fun p=>p.tmps[44]?)=some (some (.int .i64 (.sym (p:Int)))):=by cases f <;> cases b <;> kernel_rfl
theorem zls:(bX es c x y es2 c2 m es3 c3 f VL n p b VN nn).heap[5]? = some (.ent (.obj (.za6 kS vBo es3 c3))):=by kernel_rfl
theorem jgi:(((cX es c x y es2 c2 m es3 c3 f VL n p b VN nn pv sv j lb Vl nl).frames[0]?).bind fun p=>p.tmps[17]?)=some (some (.int .i64 (.sym (j:Int)))):=by cases f <;> cases b <;> cases lb <;> kernel_rfl
theorem qh9:(((cX es c x y es2 c2 m es3 c3 f VL n p b VN nn pv sv j true Vl nl).frames[0]?).bind fun p=>p.tmps[5]?)=some (some (.slice ⟨10,.lit 0⟩ (.sym nl) (.rest 10 0))):=by cases f <;> cases b <;> kernel_rfl
theorem jhi:(((dX es c x y es2 c2 m es3 c3 f VL n p b VN nn j Vl nl).frames[0]?).bind fun p=>p.tmps[52]?)=some (some (.int .i64 (.sym (j:Int)))):=by cases f <;> cases b <;> kernel_rfl
theorem q02:(((dX es c x y es2 c2 m es3 c3 f VL n p true VN nn j Vl nl).frames[0]?).bind fun p=>p.tmps[14]?)=some (some (.slice ⟨9,.lit 0⟩ (.sym nn) (.rest 9 0))):=by cases f <;> kernel_rfl
theorem zla:(dX es c x y es2 c2 m es3 c3 f VL n p true VN nn j Vl nl).heap[9]? = some (.ent (.own (.raw VN nn) false 25)):=by cases f <;> kernel_rfl
theorem jnc:zaq [1,2] (dX es c x y es2 c2 m es3 c3 f VL n p b VN nn j Vl nl) n11 (dSQ es c x y es2 c2 J (bst m es3 c3 f VL n p b VN nn) ⟨true,Vl,nl⟩ j none 20000) [true,true] z =
  (dG m j Vl nl [decide (qqf m (dVq j Vl)=y)=true],some (.inl (.val (dVq j Vl),[some (.obj (.za6 kPr vBo es c)),some (.mem m)]))):=by cases f <;> cases b <;> kernel_rfl
theorem jii:zaq [1,2] (bX es c x y es2 c2 m es3 c3 f VL n p false VN nn) n11 (bSQ es c x y es2 c2 J (bst m es3 c3 f VL n p false VN nn) none 20000) [false] z=([decide ((p:Int)<(lvM ⟨f,VL,n⟩:Int))=false],some (.inl (.zac,[some (.obj (.za6 kPr vBo es c)),some (.mem m)]))):=by cases f <;> kernel_rfl
def uV:Nat->Value:=fun _=>undef
def bM:Cut:=bX es c x y es2 c2 m0Q [] 0 f uV 0 0 b uV 0
def cM:Cut:=cX es c x y es2 c2 m0Q [] 0 f uV 0 0 b uV 0 undef undef 0 lb uV 0
theorem zlq:zab (qna 3 tgN (bM es c x y es2 c2 f b) (bX es c x y es2 c2 m es3 c3 f VL n p b VN nn)) (zaG qma (bX es c x y es2 c2 m es3 c3 f VL n p b VN nn).heap) false=true:=by cases f <;> cases b <;> kernel_rfl
theorem qi9:zab (qna 3 n14 (cM es c x y es2 c2 f b lb) (cX es c x y es2 c2 m es3 c3 f VL n p b VN nn pv sv j lb Vl nl)) (zaG qma (cX es c x y es2 c2 m es3 c3 f VL n p b VN nn pv sv j lb Vl nl).heap) false=true:=by cases f <;> cases b <;> cases lb <;> kernel_rfl
theorem jji:zaq [] (cM es c x y es2 c2 f b true) n14 (cSQ es c x y es2 c2 J (bst m es3 c3 f VL n p b VN nn) ⟨pv,sv,j,⟨false,Vl,nl⟩⟩ (some (2,3)) 20000) [true,false,false,false] z =
  (xF m es3 pv sv j [qra ((j:Int)+1)],some (.inr (qva [(0,5,.slice ⟨14,.lit 0⟩ (.lit 1) (.rest 14 0))] [] (qia n14 15 (cX es c x y es2 c2 (xM m pv sv j z) (xS m es3 c3 sv j) (c3+1) f VL n p b VN nn pv sv (j+1) true (atV [xV m pv z]) 1))))):=by cases f <;> cases b <;> kernel_rfl
theorem jki:zaq [] (cM es c x y es2 c2 f b true) n14 (cSQ es c x y es2 c2 J (bst m es3 c3 f VL n p b VN nn) ⟨pv,sv,j,⟨true,Vl,nl⟩⟩ (some (2,3)) 20000) [true,false,false,false] z =
  (xF m es3 pv sv j [1<=1,0+nl * 1<=nl,((nl+1) * 24<140737488355328/\nl+1<140737488355328)/\∀ i,i<1 * 1->Go.Sim.zfm ((nth [SV.slice ⟨12,.lit 0⟩ (.sym (zaK (xP pv)+1)) (.rest 12 0)] (0+i)).getD qwa),∀ j,j<(nl+1) * 1->okS (xZ m pv z) (xC pv Vl nl j)=true,qra ((j:Int)+1)],
   some (.inr (qva [(0,5,.slice ⟨14,.lit 0⟩ (.sym (nl+1)) (.rest 14 0))] [] (qia n14 15 (cX es c x y es2 c2 (xM m pv sv j z) (xS m es3 c3 sv j) (c3+1) f VL n p b VN nn pv sv (j+1) true (xW m pv Vl nl z) ((nl+1) * 1)))))):=by cases f <;> cases b <;> kernel_rfl
end
section
variable (es:List MapEntry) (c:Nat) (x y:ByteArray) (m:Mem) (es2:List MapEntry) (c2:Nat) (m2:Mem) (i:Nat) (J:zaW) (z:Nat->Nat->Nat)
theorem jli:zaq [] (bM es c x y es2 c2 true false) tgN (tgS es c x y m es2 c2 m2 i J (some (1,8)) 20000) [false] z=([decide ((i:Int)<(es.length:Int))=false],some (.inr (qva [(0,44,.int .i64 (.lit 0))] [(5,.ent (.obj (.map [(.str (.sym x),.bool (.lit true),0)] 1)))] (qia tgN 13 (bX es c x y es2 c2 (zgF x m2 z) [⟨.string x,.bool true,0⟩] 1 true (atV [.slice (some ⟨m2.fresh (z 0 0),0,none⟩) 1 1]) 1 0 false (fun _=>undef) 0))))):=by kernel_rfl
end
end
end Go.Proofs.YtbhlngmhgplepaaDoor.Aes
namespace Go.Sim
noncomputable section
open Go
namespace Tb
theorem zaZ {K:Value} {e:MapEntry}:q1c K e=true↔e.key=K:=by unfold q1c; simp
theorem zbc {es:List MapEntry} {K:Value}:zaT es K=true↔∃ e∈es,e.key=K:=by
 unfold zaT;rw [List.any_eq_true];exact ⟨fun ⟨e,he,h⟩=>⟨e,he,zaZ.1 h⟩,fun ⟨e,he,h⟩=>⟨e,he,zaZ.2 h⟩⟩
theorem zaU {e:MapEntry} {es:List MapEntry} {K:Value}:zbF (e::es) K=@ite _ (e.key=K) (Classical.propDecidable _) e.val (zbF es K):=by
 unfold zbF;by_cases h:e.key=K
 . rw [List.find?_cons_of_pos (zaZ.2 h)]; simp [h]
 . rw [List.find?_cons_of_neg (fun h'=>h (zaZ.1 h'))]; simp [h]
theorem zdV {es:List MapEntry} {c:Nat} {K V K':Value}:zaT (zcS es c K V) K'=true↔(zaT es K'=true\/K'=K):=by
 unfold zcS;rw [zbc,zbc];constructor
 . rintro ⟨e,he,h⟩;rcases List.mem_append.1 he with he | he
   . exact .inl ⟨e,he,h⟩
   . obtain rfl:=List.mem_singleton.1 he;exact .inr h.symm
 . rintro (⟨e,he,h⟩ | rfl)
   . exact ⟨e,List.mem_append_left _ he,h⟩
   . exact ⟨_,List.mem_append_right _ (List.mem_singleton.2 rfl),rfl⟩
theorem zc8 {c:Nat} {K V:Value}:∀ {es:List MapEntry},zaT es K=false->zbF (zcS es c K V) K=V
 | [],_=>by unfold zcS; rw [List.nil_append,zaU]; simp
 | e::es,h=>by
   have h1:e.key≠K:=fun h'=>by rw [zbc.2 ⟨e,List.mem_cons_self,h'⟩] at h; cases h
   have h2:zaT es K=false:=by
    cases h3:zaT es K with
    | false=>rfl
    | true =>
      obtain ⟨e',he,hk⟩:=zbc.1 h3;rw [zbc.2 ⟨e',List.mem_cons_of_mem _ he,hk⟩] at h; cases h
   unfold zcS;rw [List.cons_append,zaU];simp only [h1,if_false];exact zc8 h2
theorem zb9 {c:Nat} {K V K':Value} (hne:K'≠K):∀ {es:List MapEntry},zbF (zcS es c K V) K'=zbF es K'
 | []=>by
   unfold zcS;rw [List.nil_append,zaU];exact if_neg fun h:K=K'=>hne h.symm
 | e::es=>by
   unfold zcS;rw [List.cons_append,zaU,zaU];have:=zb9 (c:=c) (V:=V) hne (es:=es);unfold zcS at this;rw [this]
theorem qxo {e:MapEntry} {es:List MapEntry} {K V:Value}:zea (e::es) K V=@ite _ (e.key=K) (Classical.propDecidable _) (⟨K,V,e.born⟩::es) (e::zea es K V):=by
 unfold zea zjX;rw [List.findIdx?_cons];by_cases h:e.key=K
 . rw [if_pos (zaZ.2 h)]; simp [h]
 . rw [if_neg (fun h'=>h (zaZ.1 h'))];simp only [h,if_false];cases h1:es.findIdx? (q1c K) with
   | none=>rfl
   | some i =>
     show zah ((e::es)[i+1]?) _ _=_;rw [List.getElem?_cons_succ];cases h2:es[i]? with
     | none=>simp [zah,h2]
     | some e'=>simp [zah,h2]
theorem zbP {e:MapEntry} {es:List MapEntry} {K:Value}:zaT (e::es) K=true↔(e.key=K\/zaT es K=true):=by
 rw [zbc,zbc]; simp
theorem zdU {K V K':Value}:∀ {es:List MapEntry},zaT es K=true->(zaT (zea es K V) K'=true↔zaT es K'=true)
 | [],h=>by cases h
 | e::es,h=>by
   rw [qxo];by_cases h1:e.key=K
   . simp only [h1,if_true];rw [zbP,zbP,h1]
   . simp only [h1,if_false];have h2:zaT es K=true:=(zbP.1 h).resolve_left h1;rw [zbP,zbP,zdU h2]
theorem zdW {K V:Value}:∀ {es:List MapEntry},zaT es K=true->zbF (zea es K V) K=V
 | [],h=>by cases h
 | e::es,h=>by
   rw [qxo];by_cases h1:e.key=K
   . simp only [h1,if_true];rw [zaU]; simp
   . simp only [h1,if_false];have h2:zaT es K=true:=(zbP.1 h).resolve_left h1;rw [zaU];simp only [h1,if_false];exact zdW h2
theorem zcJ {K V K':Value} (hne:K'≠K):∀ {es:List MapEntry},zbF (zea es K V) K'=zbF es K'
 | []=>rfl
 | e::es=>by
   rw [qxo];by_cases h1:e.key=K
   . simp only [h1,if_true];rw [zaU,zaU];exact (if_neg fun h:K=K'=>hne h.symm).trans (if_neg fun h:e.key=K'=>hne (h.symm.trans h1)).symm
   . simp only [h1,if_false];rw [zaU,zaU,zcJ hne]
end Tb
end
end Go.Sim
namespace Go.Proofs.YtbhlngmhgplepaaDoor.Aes
noncomputable section
open Go.Sim
open Go.Proofs
variable {α:Type}
def qfb (T:List Pr) (a:ByteArray):List ByteArray:=(T.filter fun p=>@decide (p.1=a) (Classical.propDecidable _)).map (·.2)
theorem q5m (T:List Pr) (a s:ByteArray):qfb (T++[(a,s)]) a=qfb T a++[s]:=by
 unfold qfb;rw [List.filter_append]; simp
theorem qud (T:List Pr) {a a':ByteArray} (s:ByteArray) (h:a'≠a):qfb (T++[(a,s)]) a'=qfb T a':=by
 unfold qfb;rw [List.filter_append];simp; exact fun e=>h e.symm
theorem ze1 {T:List Pr} {a b:ByteArray}:b∈qfb T a↔(a,b)∈T:=by
 unfold qfb;rw [List.mem_map];constructor
 . rintro ⟨p,hp,rfl⟩;obtain ⟨h1,h2⟩:=List.mem_filter.1 hp;have h2:p.1=a:=by simpa using h2
   rw [← h2]; exact h1
 . intro h;exact ⟨(a,b),List.mem_filter.2 ⟨h,by simp⟩,rfl⟩
theorem qqv (T:List Pr) (a:ByteArray):(qfb T a).length<=T.length:=by
 unfold qfb;rw [List.length_map]; exact List.length_filter_le _ _
def OwnAt (m:Mem) (v:Value) (l:List ByteArray):Prop:=∃ b cap k cap',v=.slice (some ⟨b,0,none⟩) l.length cap/\l.length<=cap/\zbK m b l/\m.own b=some (k,cap',9)/\cap<=cap'
theorem OwnAt.strs {m:Mem} {v:Value} {l:List ByteArray} (h:OwnAt m v l):zau m v l:=let ⟨b,c,_,_,h1,h2,h3,_⟩:=h; ⟨b,c,h1,h2,h3⟩
theorem OwnAt.add {m:Mem} {v:Value} {l:List ByteArray} (h:OwnAt m v l) {b' n cap:Nat} {el:TypeId} {V:Nat->Value} (hf:m.free b'):OwnAt (m.add b' n cap el V) v l:=by
 obtain ⟨b,c,k,c',h1,h2,h3,h4,h5⟩:=h;refine ⟨b,c,k,c',h1,h2,h3.add hf,?_,h5⟩;show (if b=b' then _ else m.own b)=_
 rw [if_neg]
 . exact h4
 . intro e;rw [← e] at hf;rw [hf.2] at h4; cases h4
theorem OwnAt.zew {m:Mem} {v:Value} {l:List ByteArray} (h:OwnAt m v l) {b':Nat} (hf:m.free b'):(zaS v).block≠b':=by
 obtain ⟨b,c,k,c',rfl,h2,h3,h4,h5⟩:=h;intro e;have e:b=b':=e;rw [← e] at hf;rw [hf.2] at h4; cases h4
structure TabAt (m:Mem) (es:List MapEntry) (T:List Pr):Prop where
 has:∀ a,zaT es (.string a)=true↔qfb T a≠[]
 own:∀ a,qfb T a≠[]->OwnAt m (zbF es (.string a)) (qfb T a)
 sep:∀ a a',qfb T a≠[]->qfb T a'≠[]->a≠a'->(zaS (zbF es (.string a))).block≠(zaS (zbF es (.string a'))).block
theorem TabAt.empty {m:Mem}:TabAt m [] []:=⟨fun a=>⟨fun h=>by (cases h),fun h=>absurd rfl h⟩,fun a h=>absurd rfl h,fun a a' h=>absurd rfl h⟩
theorem TabAt.add {m:Mem} {es:List MapEntry} {T:List Pr} (h:TabAt m es T) {b' n cap:Nat} {el:TypeId} {V:Nat->Value} (hf:m.free b'):TabAt (m.add b' n cap el V) es T:=⟨h.has,fun a ha=>(h.own a ha).add hf,h.sep⟩
theorem TabAt.step {m m':Mem} {es es':List MapEntry} {T:List Pr} (h:TabAt m es T) {a s:ByteArray} {v':Value} (hh:∀ a',zaT es' (.string a')=true↔(zaT es (.string a')=true\/a'=a)) (hg:zbF es' (.string a)=v') (ho:∀ a',a'≠a->zbF es' (.string a')=zbF es (.string a'))
  (hn:OwnAt m' v' (qfb T a++[s])) (hk:∀ a',a'≠a->qfb T a'≠[]->OwnAt m' (zbF es (.string a')) (qfb T a')/\(zaS (zbF es (.string a'))).block≠(zaS v').block):TabAt m' es' (T++[(a,s)]):=by
 refine ⟨fun a' => ?_,fun a' ha => ?_,fun a1 a2 h1 h2 hne => ?_⟩
 . rw [hh a',h.has a'];by_cases e:a'=a
   . subst e;rw [q5m]; simp
   . rw [qud T s e]; simp [e]
 . by_cases e:a'=a
   . subst e;rw [q5m,hg]; exact hn
   . rw [qud T s e] at ha ⊢;rw [ho a' e]; exact (hk a' e ha).1
 . by_cases e1:a1=a
   . subst e1;have e2:a2≠a1:=fun e=>hne e.symm;rw [qud T s e2] at h2;rw [hg,ho a2 e2];exact fun e=>(hk a2 e2 h2).2 e.symm
   . rw [qud T s e1] at h1;rw [ho a1 e1];by_cases e2:a2=a
     . subst e2;rw [hg]; exact (hk a1 e1 h1).2
     . rw [qud T s e2] at h2;rw [ho a2 e2]; exact h.sep a1 a2 h1 h2 hne
theorem qg0 {a a':ByteArray} (h:a'≠a):(Value.string a')≠.string a:=fun e=>h (by cases e; rfl)
theorem q12 {m:Mem} {l:List ByteArray} {b n cap:Nat} {V:Nat->Value} (hn:n=l.length) (hc:n<=cap) (hV:∀ i (h:i<l.length),V i=.string l[i]):OwnAt (m.add b n cap 9 V) (.slice (some ⟨b,0,none⟩) n (cap - 0)) l:=by
 subst hn;refine ⟨b,cap,l.length,cap,rfl,hc,qgk rfl hV,?_,Nat.le_refl _⟩;show (if b=b then _ else _)=_
 rw [if_pos rfl]
theorem TabAt.ins {m:Mem} {es:List MapEntry} {T:List Pr} (h:TabAt m es T) {a s:ByteArray} (hk:zaT es (.string a)=false) {b cap c:Nat} (hf:m.free b) (hc:1<=cap) :
  TabAt (m.add b 1 cap 9 (atV [.string s])) (zcS es c (.string a) (.slice (some ⟨b,0,none⟩) 1 (cap - 0))) (T++[(a,s)]):=by
 have he:qfb T a=[]:=by
  cases hs:qfb T a with
  | nil=>rfl
  | cons p r =>
    rw [(h.has a).2 (by rw [hs]; simp)] at hk; cases hk
 refine h.step (fun a' => ?_) (Tb.zc8 hk) (fun a' hne=>Tb.zb9 (qg0 hne)) ?_ fun a' hne ha=>⟨(h.own a' ha).add hf,(h.own a' ha).zew hf⟩
 . rw [Tb.zdV];exact ⟨fun h=>h.imp_right fun e=>by (cases e; rfl),fun h=>h.imp_right fun e=>by rw [e]⟩
 . rw [he];refine q12 (l:=[s]) rfl hc fun i hi => ?_
   obtain rfl:i=0:=by simp at hi; omega
   rfl
theorem TabAt.set {m m':Mem} {es:List MapEntry} {T:List Pr} (h:TabAt m es T) {a s:ByteArray} {v':Value} (hk:zaT es (.string a)=true) (hn:OwnAt m' v' (qfb T a++[s]))
  (ho:∀ a',a'≠a->qfb T a'≠[]->OwnAt m' (zbF es (.string a')) (qfb T a')/\(zaS (zbF es (.string a'))).block≠(zaS v').block):TabAt m' (zea es (.string a) v') (T++[(a,s)]):=by
 refine h.step (fun a' => ?_) (Tb.zdW hk) (fun a' hne=>Tb.zcJ (qg0 hne)) hn ho;rw [Tb.zdU hk];exact ⟨.inl,fun h=>h.elim id fun e=>by rw [e]; exact hk⟩
theorem qrp {m:Mem} {b:Nat} {l:List ByteArray} (h:zbK m b l) {i:Nat} (hi:i<l.length):zc2 m ⟨b,0,none⟩ i=.string l[i]:=by
 show (m.cell ((⟨b,0,none⟩:Addr).add i)).getD undef=_;rw [qef,h i hi]; rfl
theorem TabAt.grow {m:Mem} {es:List MapEntry} {T:List Pr} (h:TabAt m es T) {a s:ByteArray} (hk:zaT es (.string a)=true) {b cap:Nat} (hf:m.free b) {v:Value} (hv:v=zbF es (.string a)) (hc:zaK v+1<=cap) :
  TabAt (m.add b ((zaK v+1) * 1) cap 9 (zb5 (zc2 m (zaS v)) (zaK v * 1) fun j=>atV [.string s] (0+j))) (zea es (.string a) (.slice (some ⟨b,0,none⟩) (zaK v+1) (cap - 0))) (T++[(a,s)]):=by
 have h1:=h.own a ((h.has a).1 hk);rw [← hv] at h1;have hl:=h1.strs.len;refine h.set hk ?_ fun a' hne ha=>⟨(h.own a' ha).add hf,(h.own a' ha).zew hf⟩;rw [Nat.mul_one,Nat.mul_one];refine q12 (by rw [hl]; simp) hc fun i hi => ?_
 obtain ⟨b',c',k,c2,rfl,h2,h3,_⟩:=h1;unfold zb5;show (if i<(qfb T a).length then _ else _)=_
 by_cases hc:i<(qfb T a).length
 . rw [if_pos hc,List.getElem_append_left hc];exact qrp h3 hc
 . rw [if_neg hc];have:i=(qfb T a).length:=by simp at hi; omega
   subst this;show atV [.string s] (0+((qfb T a).length - (qfb T a).length))=_;rw [Nat.sub_self]; simp; rfl
theorem TabAt.put {m:Mem} {es:List MapEntry} {T:List Pr} (h:TabAt m es T) {a s:ByteArray} (hk:zaT es (.string a)=true) {v:Value} (hv:v=zbF es (.string a)) (hc:zaK v+1<=zb7 v) :
  TabAt (m.put (zaS v).block (zaK v * 1) (1 * 1) fun j=>atV [.string s] (0+j)) (zea es (.string a) (.slice (some (zaS v)) (zaK v+1) (zb7 v))) (T++[(a,s)]):=by
 have hne:=(h.has a).1 hk;have h1:=h.own a hne;have hsep:=h.sep a;rw [← hv] at h1;refine h.set hk ?_ fun a' hn ha => ?_
 . obtain ⟨b',c',k,c2,rfl,h2,h3,h4,h5⟩:=h1;refine ⟨b',c',k,c2,?_,?_,fun i hi => ?_,h4,h5⟩
   . show Value.slice _ ((qfb T a).length+1) _=.slice _ (qfb T a++[s]).length _;rw [List.length_append]; rfl
   . rw [List.length_append]; exact hc
   . show (if b'=b'/\(none:Option _)=none/\(qfb T a).length * 1<=i/\i<(qfb T a).length * 1+1 * 1 then some (atV [.string s] (0+(i - (qfb T a).length * 1))) else m.cell ⟨b',i,none⟩)=_
     by_cases hc:i<(qfb T a).length
     . rw [if_neg (by omega),List.getElem_append_left hc]; exact h3 i hc
     . have:i=(qfb T a).length:=by simp at hi; omega
       subst this;rw [if_pos ⟨rfl,rfl,by omega,by omega⟩,Nat.mul_one,Nat.sub_self]; simp; rfl
 . have h2:=hsep a' hne ha fun e=>hn e.symm;rw [← hv] at h2;refine ⟨?_,fun e=>h2 e.symm⟩;obtain ⟨b',c',k,c2,e1,h3,h4,h5,h6⟩:=h.own a' ha;refine ⟨b',c',k,c2,e1,h3,fun i hi => ?_,h5,h6⟩;show (if b'=(zaS v).block/\_ then _ else m.cell ⟨b',i,none⟩)=_
   rw [if_neg]
   . exact h4 i hi
   . intro ⟨e,_⟩;rw [e1] at h2;exact h2 e.symm
theorem qw1 {m:Mem} (h:m.bounded) (b o n:Nat) (Y:Nat->Value):(m.put b o n Y).bounded:=by
 obtain ⟨N,hN⟩:=h;refine ⟨max N (b+1),fun b' hb=>⟨fun a ha => ?_,?_⟩⟩
 . show (if a.block=b/\_ then _ else m.cell a)=none
   rw [if_neg (by omega)]; exact (hN b' (by omega)).1 a ha
 . exact (hN b' (by omega)).2
end
noncomputable section
open Go.Sim
open Go.Proofs
open Go.Sort
open Go.Bfs
variable {α:Type}
theorem qtj (es:List MapEntry):(srL es).length=es.length:=by
 unfold srL;rw [zbp.length_eq]; simp [qxc]
theorem joc {l:List Pr} {i:Nat} (h:i<l.length):prN l i=l[i]:=by
 unfold prN; rw [List.getElem?_eq_getElem h]; rfl
theorem jmi {es:List MapEntry} {i:Nat} (h:i<(srL es).length):(tgA es i,tgB es i)=(srL es)[i]:=by
 unfold tgA tgB cF;have e1:(0+i * 2+0) / 2=i:=by omega
 have e2:(0+i * 2+1) / 2=i:=by omega
 have e3:(0+i * 2+0) % 2=0:=by omega
 have e4:(0+i * 2+1) % 2=1:=by omega
 rw [e1,e2,e3,e4,joc h];rfl
def zbG (T:List Pr) (q:Pth):List Str:=qfb T (q.getLast?.getD ⟨#[]⟩)
theorem jni {T:List Pr} {q:Pth} (h:q≠[]):zbG T q=qfb T (q.getLast h):=by
 unfold zbG;rw [List.getLast?_eq_some_getLast h]; rfl
theorem qsp {T:List Pr} {q:Pth} {b:Str} (h:b∈zbG T q):b∈T.map (·.2):=List.mem_map.2 ⟨_,ze1.1 h,rfl⟩
structure zcw (es:List MapEntry) (l:List Str):Prop where
 has:∀ a,zaT es (.string a)=true↔a∈l
 get:∀ a,a∈l->zbF es (.string a)=.bool true
theorem zcw.one (x:Str):zcw [⟨.string x,.bool true,0⟩] [x]:=by
 refine ⟨fun a => ?_,fun a ha => ?_⟩
 . rw [Tb.zbc]; simp [eq_comm]
 . obtain rfl:=List.mem_singleton.1 ha;rw [Tb.zaU]; simp
theorem zcw.add {es:List MapEntry} {l:List Str} (h:zcw es l) {s:Str} (hs:s ∉ l) (c:Nat):zcw (zcS es c (.string s) (.bool true)) (l++[s]):=by
 have hk:zaT es (.string s)=false:=by
  cases e:zaT es (.string s) with
  | false=>rfl
  | true=>exact absurd ((h.has s).1 e) hs
 refine ⟨fun a => ?_,fun a ha => ?_⟩
 . rw [Tb.zdV,h.has a];simp
 . by_cases e:a=s
   . subst e; exact Tb.zc8 hk
   . rw [Tb.zb9 (qg0 e)];refine h.get a ?_
     rcases List.mem_append.1 ha with ha | ha
     . exact ha
     . exact absurd (List.mem_singleton.1 ha) e
theorem zcw.not {es:List MapEntry} {l:List Str} (h:zcw es l) {s:Str} (hs:s ∉ l):zaT es (.string s)=false:=by
 cases e:zaT es (.string s) with
 | false=>rfl
 | true=>exact absurd ((h.has s).1 e) hs
def zfK (m:Mem) (b:Bool) (V:Nat->Value) (n:Nat) (L:List Pth):Prop:=(b=true/\n=L.length/\L≠[]/\zbs za8 m V L)\/(b=false/\L=[])
theorem zfK.add {m:Mem} {b:Bool} {V:Nat->Value} {n:Nat} {L:List Pth} (h:zfK m b V n L) {b' k cap:Nat} {el:TypeId} {W:Nat->Value} (hf:m.free b'):zfK (m.add b' k cap el W) b V n L:=h.imp (fun ⟨h1,h2,h3,h4⟩=>⟨h1,h2,h3,h4.zeu hf⟩) id
structure BA where
 es2:List MapEntry
 c2:Nat
 m:Mem
 es3:List MapEntry
 c3:Nat
 f:Bool
 VL:Nat->Value
 n:Nat
 p:Nat
 b:Bool
 VN:Nat->Value
 nn:Nat
 L:List Pth
 zbd:List Str
 Nx:List Pth
 Sn:List Str
structure CA where
 pv:Value
 sv:Value
 j:Nat
 lb:Bool
 Vl:Nat->Value
 nl:Nat
 l:List Pth
 R:List Str
inductive Sr
 | t (es2:List MapEntry) (c2:Nat) (m2:Mem) (i:Nat)
 | b (a:BA)
 | c (a:BA) (q:CA)
 | d (a:BA) (k:Nat) (Vl:Nat->Value) (nl:Nat) (l:List Pth)
section
variable (es:List MapEntry) (c:Nat) (x y:ByteArray)
def SrC:Sr->Cut
 | .t es2 c2 m2 i=>tgC es c x y m0Q es2 c2 m2 i
 | .b a=>bX es c x y a.es2 a.c2 a.m a.es3 a.c3 a.f a.VL a.n a.p a.b a.VN a.nn
 | .c a q=>cX es c x y a.es2 a.c2 a.m a.es3 a.c3 a.f a.VL a.n a.p a.b a.VN a.nn q.pv q.sv q.j q.lb q.Vl q.nl
 | .d a k Vl nl _=>dX es c x y a.es2 a.c2 a.m a.es3 a.c3 a.f a.VL a.n a.p a.b a.VN a.nn k Vl nl
def SrB (o:Option Pth):Prop:=Bfs (zbG (srL es)) y [[x]] [x] o
def unQ (Sn:List Str):Nat:=un ((srL es).map (·.2)) Sn
structure BInv (a:BA):Prop where
 tab:TabAt a.m a.es2 (srL es)
 bd:a.m.bounded
 lv:zbs zau a.m a.VL a.L
 lvn:lvM ⟨a.f,a.VL,a.n⟩=a.L.length
 ne:∀ q∈a.L,q≠[]
 nx:zfK a.m a.b a.VN a.nn a.Nx
 seen:zcw a.es3 a.Sn
 fin:∀ o,Bfs (zbG (srL es)) y a.L a.zbd o->SrB es x y o
 zeg:a.Nx.find? (qjd y)=none
 szC:a.L.length<=es.length+2
 szL:∀ q∈a.L,q.length+unQ es a.Sn<=es.length+2
 szN:∀ q∈a.Nx,q≠[]/\q.length+unQ es a.Sn<=es.length+2
def SrQ:Sr->Prop
 | .t es2 _ m2 i=>i<=es.length/\TabAt m2 es2 ((srL es).take i)/\m2.bounded
 | .b a=>BInv es x y a/\a.p<=a.L.length/\Go.Bfs.step (zbG (srL es)) (a.L.take a.p) a.zbd=(a.Nx,a.Sn)/\a.Nx.length+unQ es a.Sn<=es.length+2
 | .c a q=>BInv es x y a/\∃ (h:a.p<a.L.length) (S0:List Str),Go.Bfs.step (zbG (srL es)) (a.L.take a.p) a.zbd=(a.Nx,S0)/\ext a.L[a.p] (q.R.take q.j) S0=(q.l,a.Sn)/\q.R=zbG (srL es) a.L[a.p]/\zau a.m q.pv a.L[a.p]/\zau a.m q.sv q.R/\q.j<=q.R.length /\
   zfK a.m q.lb q.Vl q.nl q.l/\a.Nx.length+q.l.length+unQ es a.Sn<=es.length+2/\∀ r∈q.l,r≠[]/\r.length+unQ es a.Sn<=es.length+2
 | .d a k Vl nl l=>BInv es x y a/\∃ (h:a.p<a.L.length) (N0:List Pth) (S0:List Str),Go.Bfs.step (zbG (srL es)) (a.L.take a.p) a.zbd=(N0,S0)/\ext a.L[a.p] (zbG (srL es) a.L[a.p]) S0=(l,a.Sn)/\a.Nx=N0++l.take k/\k<=l.length /\
   zbs za8 a.m Vl l/\nl=l.length/\N0.length+l.length+unQ es a.Sn<=es.length+2/\∀ r∈l,r≠[]/\r.length+unQ es a.Sn<=es.length+2
def SrD (v:SV) (H:List SO):Prop:=H[1]? = some (.obj (.za6 kPr vBo es c))/\((v=.zac/\SrB es x y none)\/∃ w q m,v=.val w/\SrB es x y (some q)/\H[2]? = some (.mem m)/\za8 m w q/\q.length<=es.length+2)
def SrK:Nat:=2 * es.length+10
def SrW:Nat:=(3 * es.length+20) * SrK es
def zfJ:Sr->Nat
 | .t _ _ _ i=>SrW es+(es.length - i)
 | .b a=>(3 * unQ es a.Sn+2 * a.Nx.length+(a.L.length - a.p)) * SrK es+(2 * es.length+9)
 | .c a q=>(3 * unQ es a.Sn+2 * (a.Nx.length+q.l.length)+(a.L.length - a.p)) * SrK es+(q.R.length - q.j+es.length+3)
 | .d a k _ _ l=>(3 * unQ es a.Sn+2 * (a.Nx.length - k+l.length)+(a.L.length - a.p)) * SrK es+(l.length - k)
end
theorem qj9 {es:List MapEntry} {Sn:List Str} {s:Str} (hs:s ∉ Sn) (hm:s∈(srL es).map (·.2)):unQ es (Sn++[s])<unQ es Sn:=qp6 hm hs
theorem qh0 (es:List MapEntry) (Sn:List Str):unQ es Sn<=es.length:=by
 have:=qo6 ((srL es).map (·.2)) Sn
 rw [List.length_map,qtj] at this;exact this
theorem q22 (es:List MapEntry) (q:Pth):(zbG (srL es) q).length<=es.length:=by
 have:=qqv (srL es) (q.getLast?.getD ⟨#[]⟩);rw [qtj] at this;exact this
theorem jum {m:Mem} {pv:Value} {Vl:Nat->Value} {nl:Nat} {z:Nat->Nat->Nat} {i:Nat} (h:i<nl):xW m pv Vl nl z i=Vl i:=by
 unfold xW xC zeR;rw [if_pos (by omega)]
 show Vl (0+i)=_;rw [Nat.zero_add]
theorem jvm {m:Mem} {pv:Value} {Vl:Nat->Value} {nl:Nat} {z:Nat->Nat->Nat}:xW m pv Vl nl z nl=xV m pv z:=by
 unfold xW xC zeR;rw [if_neg (by omega),Nat.mul_one,Nat.sub_self]; rfl
theorem ziw {m:Mem} {pv:Value} {Vl:Nat->Value} {nl:Nat} {z:Nat->Nat->Nat} {j:Nat} (h:j<(nl+1) * 1):okS (xZ m pv z) (xC pv Vl nl j)=true:=by
 unfold xC zeR;by_cases hj:j<nl * 1
 . rw [if_pos hj]; rfl
 . rw [if_neg hj];have:j=nl:=by omega
   subst this;rw [Nat.mul_one,Nat.sub_self]; rfl
theorem jwm {VN:Nat->Value} {nn j:Nat} {Vl:Nat->Value} {i:Nat} (h:i<nn):dWq VN nn j Vl i=VN i:=by
 unfold dWq zb5;rw [if_pos (by omega)]
 show VN (0+i)=_;rw [Nat.zero_add]
theorem jxm {VN:Nat->Value} {nn j:Nat} {Vl:Nat->Value}:dWq VN nn j Vl nn=dVq j Vl:=by
 unfold dWq zb5;rw [if_neg (by omega),Nat.mul_one,Nat.sub_self]; rfl
theorem zlc {j:Nat} {Vl:Nat->Value}:dVq j Vl=Vl j:=by unfold dVq; rw [Nat.mul_one,Nat.zero_add]
end
noncomputable section
open Go.Sim
open Go.Proofs
open Go.Sort
open Go.Bfs
variable {α:Type}
section
variable {es:List MapEntry} {c:Nat} {x y:ByteArray}
abbrev SrT (es:List MapEntry) (c:Nat) (x y:ByteArray) (a:Sr) (J:zaW):Prop:=qgb zcl 3 (SrC es c x y) (fun a'=>SrQ es x y a'/\zfJ es a'<zfJ es a) (SrD es c x y) ((SrC es c x y a).fill J)
theorem q32 {a:Sr} {M:Cut} {names:List Nat} {N:Nat} {a':Sr} (hq:SrQ es x y a') (hm:zfJ es a'<zfJ es a) (hn:zab (qna 3 names M (SrC es c x y a')) (zaG qma (SrC es c x y a').heap) false=true) :
  zbf 3 (SrC es c x y) (fun a'=>SrQ es x y a'/\zfJ es a'<zfJ es a) M names (qia names N (SrC es c x y a')):=zbf.of (C:=SrC es c x y) a' ⟨hq,hm⟩ hn
theorem qi0 {es2:List MapEntry} {c2:Nat} {m2:Mem} {i:Nat} {zih:List MapEntry} {c2':Nat} {m2':Mem} (h:i<es.length):zfJ es (.t zih c2' m2' (i+1))<zfJ es (.t es2 c2 m2 i):=by
 show SrW es+(es.length - (i+1))<SrW es+(es.length - i);omega
theorem qte {i:Nat} (h:i<=1000000000):qra ((i:Int)+1):=⟨by omega,by omega⟩
theorem sr_t {es2:List MapEntry} {c2:Nat} {m2:Mem} {i:Nat} (hz:es.length<=1000000) (J:zaW) (h:SrQ es x y (.t es2 c2 m2 i)):SrT es c x y (.t es2 c2 m2 i) J:=by
 obtain ⟨hi,ht,hb⟩:i<=es.length/\TabAt m2 es2 ((srL es).take i)/\m2.bounded:=h;show qgb zcl 3 (SrC es c x y) _ _ ((tgC es c x y m0Q es2 c2 m2 i).fill J);by_cases hc:i<es.length
 . have hl:i<(srL es).length:=by rw [qtj]; exact hc
   have hT:(srL es).take (i+1)=(srL es).take i++[(tgA es i,tgB es i)]:=by
    rw [jmi hl,List.take_add_one,List.getElem?_eq_getElem hl]; rfl
   have hP:∀ {q:List Prop},(∀ p∈q,p)->∀ p∈tgP es i q,p:=fun hq=>zaa (decide_eq_true (by omega)) (zaa ⟨by omega,by omega⟩ (zaa (by omega) hq))
   have hR:∀ p∈tgR i,p:=zaa (qte (by omega)) qaa
   cases hk:zaT es2 (.string (tgA es i)) with
   | false =>
     refine q4d (js:=[]) (K:=fun _=>False) (some (2,2)) 20000 (M:=tgC es c x y m0Q es2 c2 m2 i) (names:=tg9) (fun z=>⟨_,_,_,jmc es c x y m0Q es2 c2 m2 i J z,hP (zaa hk (zaa hk hR)),?_⟩) (fun v es h=>h.elim);refine q32 (c:=c) (a':=.t (zcS es2 c2 (.string (tgA es i)) (tgW2 m2 z)) (c2+1) (tgM2 es m2 i z) (i+1)) ⟨hc,?_,Mem.zbo hb _ _ _ _ _⟩ (qi0 hc) (q4m es c x y m0Q es2 c2 m2 i _ _ _ _);rw [hT];exact ht.ins hk (Mem.zbR hb _) (qqp _ _)
   | true =>
     have ho:=ht.own _ ((ht.has _).1 hk);have hs:=ho.strs;have hv:tgV es es2 i=zbF es2 (.string (tgA es i)):=rfl;rw [← hv] at ho hs;have hlen:=hs.len;have hle:zaK (tgV es es2 i)<=1000000:=by
      rw [hlen];have h1:=qqv ((srL es).take i) (tgA es i);have h2:=List.length_take_le i (srL es);omega
     by_cases hcap:zaK (tgV es es2 i)+1<=zb7 (tgV es es2 i)
     . refine qya (some (2,2)) 20000 (names:=tg9) (Sr.t (zea es2 (.string (tgA es i)) (tgW0 es es2 i)) c2 (tgM0 es es2 m2 i) (i+1)) ⟨⟨hc,?_,qw1 hb _ _ _ _⟩,qi0 hc⟩ (fun z=>jkc es c x y m0Q es2 c2 m2 i J z) (q4m es c x y m0Q es2 c2 m2 i _ _ _ _)
        (hP (zaa hk (zaa hs.sl (zaa (Nat.le_refl 1) (zaa hs.slc (zaa (decide_eq_true hcap) (zaa ⟨?_,?_,?_⟩ (zaa hk hR))))))))
       . rw [hT];exact ht.put hk hv hcap
       . obtain ⟨b,cap,k,cap',e,_,_,h4,h5⟩:=ho;rw [e];exact ⟨k,cap',h4,h5⟩
       . obtain ⟨b,cap,k,cap',e,_,_,h4,h5⟩:=ho;rw [e]; rfl
       . intro j hj;obtain rfl:j=0:=by omega
         rfl
     . refine q4d (js:=[]) (K:=fun _=>False) (some (2,2)) 20000 (M:=tgC es c x y m0Q es2 c2 m2 i) (names:=tg9) (fun z=>⟨_,_,_,jlc es c x y m0Q es2 c2 m2 i J z,hP (zaa hk (zaa hs.sl (zaa (Nat.le_refl 1) (zaa hs.slc (zaa (decide_eq_false hcap) (zaa ⟨hs.sl,?_,?_⟩ (zaa ⟨by omega,by omega⟩ (zaa hk hR)))))))),?_⟩) (fun v es h=>h.elim)
       . obtain ⟨b,cap,k,cap',e,_,_,h4,h5⟩:=ho;rw [e];exact fun h=>by cases h
       . obtain ⟨b,cap,k,cap',e,h2,h3,h4,h5⟩:=ho;intro j hj;rw [hlen] at hj;rw [e];show (m2.cell ((⟨b,0,none⟩:Addr).add j)).isSome=true;rw [qef,h3 j (by omega)]; rfl
       . refine q32 (c:=c) (a':=.t (zea es2 (.string (tgA es i)) (tgW1 es es2 m2 i z)) c2 (tgM1 es es2 m2 i z) (i+1)) ⟨hc,?_,Mem.zbo hb _ _ _ _ _⟩ (qi0 hc) (q4m es c x y m0Q es2 c2 m2 i _ _ _ _);rw [hT];exact ht.grow hk (Mem.zbR hb _) hv (qqp _ _)
 . have hT:(srL es).take i=srL es:=List.take_of_length_le (by rw [qtj]; omega)
   rw [hT] at ht;refine q4d (js:=[]) (K:=fun _=>False) (some (1,8)) 20000 (M:=bM es c x y es2 c2 true false) (names:=tgN) (fun z=>⟨_,_,_,jli es c x y m0Q es2 c2 m2 i J z,zaa (decide_eq_false (by omega)) qaa,?_⟩) (fun v es h=>h.elim)
   have hf:=Mem.zbR hb (z 0 0);refine ⟨.b ⟨es2,c2,zgF x m2 z,[⟨.string x,.bool true,0⟩],1,true,atV [.slice (some ⟨m2.fresh (z 0 0),0,none⟩) 1 1],1,0,false,fun _=>undef,0,[[x]],[x],[],[x]⟩,13,[(0,44,.int .i64 (.lit 0))],[(5,.ent (.obj (.map [(.str (.sym x),.bool (.lit true),0)] 1)))],⟨⟨?_,Nat.zero_le _,rfl,?_⟩,?_⟩,rfl,zlq es c x y _ _ _ _ _ _ _ _ _ _ _ _,fun q hq p u hp hu => ?_,fun e he E0 hE0 => ?_⟩
   . refine ⟨ht.add hf,Mem.zbo hb _ _ _ _ _,fun i hi => ?_,rfl,fun q hq => ?_,.inr ⟨rfl,rfl⟩,zcw.one x,fun o h=>h,rfl,?_,fun q hq => ?_,fun q hq=>(by cases hq)⟩
     . obtain rfl:i=0:=by simp at hi; omega
       refine ⟨m2.fresh (z 0 0),1,rfl,Nat.le_refl _,qgk rfl fun i hi => ?_⟩;obtain rfl:i=0:=by simp at hi; omega
       rfl
     . obtain rfl:=List.mem_singleton.1 hq;simp
     . show 1<=es.length+2;omega
     . obtain rfl:=List.mem_singleton.1 hq;have:=qh0 es [x];show 1+unQ es [x]<=_;omega
   . have:=qh0 es [x];show 0+unQ es [x]<=_;omega
   . show (3 * unQ es [x]+2 * 0+(1 - 0)) * SrK es+(2 * es.length+9)<SrW es+(es.length - i);have:=qh0 es [x];have h1:(3 * unQ es [x]+2 * 0+(1 - 0)) * SrK es<=(3 * es.length+10) * SrK es:=Nat.mul_le_mul_right _ (by omega)
     have h2:SrW es=(3 * es.length+10) * SrK es+10 * SrK es:=by unfold SrW; rw [← Nat.add_mul]
     have h3:SrK es=2 * es.length+10:=rfl;omega
   . obtain rfl:=List.mem_singleton.1 hq;exact q6a (jte es c x y _ _ _ _ _ _ _ _ 0 _ _ _) hp hu (qab rfl)
   . obtain rfl:=List.mem_singleton.1 he;have h1:=zls es c x y es2 c2 (zgF x m2 z) [⟨.string x,.bool true,0⟩] 1 true (atV [.slice (some ⟨m2.fresh (z 0 0),0,none⟩) 1 1]) 1 0 false (fun _=>undef) 0;have hE0:(bX es c x y es2 c2 (zgF x m2 z) [⟨.string x,.bool true,0⟩] 1 true (atV [.slice (some ⟨m2.fresh (z 0 0),0,none⟩) 1 1]) 1 0 false (fun _=>undef) 0).heap[5]? = some E0:=hE0;rw [h1] at hE0;cases hE0;refine ⟨_,rfl,fun γ X hX => ?_⟩;have hX:some (Obj.map #[⟨.string x,.bool true,0⟩] 1)=some X:=hX;cases hX;refine za7.zbr.2 ⟨fun e he => ?_,rfl⟩;obtain rfl:=List.mem_singleton.1 he;exact ⟨zfa x,fun _=>rfl⟩
theorem quj {A B K s t:Nat} (h:A<B) (hs:s<K):A * K+s<B * K+t:=by
 have:=Nat.mul_le_mul_right K (show A+1<=B from h)
 rw [Nat.add_mul,Nat.one_mul] at this;omega
theorem qjg {L:List Pth} {p:Nat} (h:p<L.length):L.take (p+1)=L.take p++[L[p]]:=by
 rw [List.take_add_one,List.getElem?_eq_getElem h]; rfl
section
variable {a:BA} (hI:BInv es x y a)
include hI
theorem BInv.pth (hc:a.p<a.L.length):zau a.m (a.VL a.p) a.L[a.p]/\a.L[a.p]≠[]/\a.L[a.p].length<=es.length+2:=by
 have:=hI.szL _ (List.getElem_mem hc);exact ⟨hI.lv _ hc,hI.ne _ (List.getElem_mem hc),by omega⟩
theorem BInv.zgw:bV (bst a.m a.es3 a.c3 a.f a.VL a.n a.p a.b a.VN a.nn)=a.VL a.p:=by
 have _h:=hI;show a.VL (0+a.p * 1)=_;rw [Nat.mul_one,Nat.zero_add]
theorem BInv.zlt (hc:a.p<a.L.length):bL (bst a.m a.es3 a.c3 a.f a.VL a.n a.p a.b a.VN a.nn)=a.L[a.p].getLast (hI.pth hc).2.1:=by
 unfold bL;rw [hI.zgw];exact (hI.pth hc).1.zcY (hI.pth hc).2.1
theorem BInv.zf1 (hz:es.length<=1000000) (hc:a.p<a.L.length) {q:List Prop} (hq:∀ p∈q,p):∀ p∈bG (bst a.m a.es3 a.c3 a.f a.VL a.n a.p a.b a.VN a.nn) q,p:=by
 obtain ⟨h1,h2,h3⟩:=hI.pth hc;have hl:=hI.lvn;unfold bG;rw [hI.zgw];refine zaa (decide_eq_true ?_) (zaa ⟨?_,?_⟩ (zaa ?_ (h1.zc3 h2 (by omega) hq)))
 all_goals (try show _<lvM ⟨a.f,a.VL,a.n⟩)
 all_goals (try show ((a.p:Nat):Int)<((lvM ⟨a.f,a.VL,a.n⟩:Nat):Int))
 . rw [hl]; omega
 . show (0:Int)<=(a.p:Int); omega
 . rw [hl]; omega
 . show 0+a.p * 1<lvM ⟨a.f,a.VL,a.n⟩;rw [hl]; omega
end
theorem sr_b {a:BA} (hz:es.length<=1000000) (J:zaW) (h:SrQ es x y (.b a)):SrT es c x y (.b a) J:=by
 obtain ⟨hI,hp,hs,hN⟩:BInv es x y a/\a.p<=a.L.length/\Go.Bfs.step (zbG (srL es)) (a.L.take a.p) a.zbd=(a.Nx,a.Sn)/\a.Nx.length+unQ es a.Sn<=es.length+2:=h;have hM:=hI.szC;show qgb zcl 3 (SrC es c x y) _ _ ((bCQ es c x y a.es2 a.c2 (bst a.m a.es3 a.c3 a.f a.VL a.n a.p a.b a.VN a.nn)).fill J);by_cases hc:a.p<a.L.length
 . obtain ⟨h1,h2,h3⟩:=hI.pth hc;have hS:zbG (srL es) a.L[a.p]=qfb (srL es) (bL (bst a.m a.es3 a.c3 a.f a.VL a.n a.p a.b a.VN a.nn)):=by rw [hI.zlt hc,jni h2]
   cases hk:zaT a.es2 (.string (bL (bst a.m a.es3 a.c3 a.f a.VL a.n a.p a.b a.VN a.nn))) with
   | false =>
     have he:zbG (srL es) a.L[a.p]=[]:=by
      rw [hS];cases e:qfb (srL es) (bL (bst a.m a.es3 a.c3 a.f a.VL a.n a.p a.b a.VN a.nn)) with
      | nil=>rfl
      | cons u r=>rw [(hI.tab.has _).2 (by rw [e]; simp)] at hk; cases hk
     refine qya (some (1,8)) 20000 (names:=n11) (Sr.b { a with p:=a.p+1 }) ⟨⟨⟨hI.tab,hI.bd,hI.lv,hI.lvn,hI.ne,hI.nx,hI.seen,hI.fin,hI.zeg,hI.szC,hI.szL,hI.szN⟩,hc,?_,hN⟩,?_⟩ (fun z=>jpm es c x y a.es2 a.c2 J a.m a.es3 a.c3 a.f a.VL a.n a.p a.b a.VN a.nn z) (qq6 es c x y _ _ _ _ _ _ _ _ _ _ _ _) (hI.zf1 hz hc (zaa hk (zaa (qte (by omega)) qaa)))
     . show Go.Bfs.step (zbG (srL es)) (a.L.take (a.p+1)) a.zbd=(a.Nx,a.Sn);rw [qjg hc,qfk,hs,he];simp [ext]
     . show (3 * unQ es a.Sn+2 * a.Nx.length+(a.L.length - (a.p+1))) * SrK es+(2 * es.length+9)<(3 * unQ es a.Sn+2 * a.Nx.length+(a.L.length - a.p)) * SrK es+(2 * es.length+9);exact quj (by omega) (by unfold SrK; omega)
   | true =>
     have hne:qfb (srL es) (bL (bst a.m a.es3 a.c3 a.f a.VL a.n a.p a.b a.VN a.nn))≠[]:=(hI.tab.has _).1 hk;have hv:=(hI.tab.own _ hne).strs;have hlen:(zbG (srL es) a.L[a.p]).length<=es.length:=q22 es _;refine qsc (some (2,3)) 20000 (names:=n11) (Sr.c a ⟨bV (bst a.m a.es3 a.c3 a.f a.VL a.n a.p a.b a.VN a.nn),zbF a.es2 (.string (bL (bst a.m a.es3 a.c3 a.f a.VL a.n a.p a.b a.VN a.nn))),0,false,fun _=>undef,0,[],zbG (srL es) a.L[a.p]⟩) ⟨⟨hI,hc,a.Sn,hs,rfl,rfl,?_,?_,Nat.zero_le _,.inr ⟨rfl,rfl⟩,?_,fun r hr=>(by cases hr)⟩,?_⟩ (fun z=>b_go es c x y a.es2 a.c2 J a.m a.es3 a.c3 a.f a.VL a.n a.p a.b a.VN a.nn z) (jre es c x y _ _ _ _ _ _ _ _ _ _ _ _ _ _ _ _ _ _) (fun q hq p u hp hu => ?_) (fun e he=>by cases he) (hI.zf1 hz hc (zaa hk (zaa hv.sl qaa)))
     . show zau a.m (bV (bst a.m a.es3 a.c3 a.f a.VL a.n a.p a.b a.VN a.nn)) _;rw [hI.zgw]; exact h1
     . show zau a.m _ (zbG (srL es) a.L[a.p]);rw [hS]; exact hv
     . show a.Nx.length+0+unQ es a.Sn<=es.length+2;omega
     . show (3 * unQ es a.Sn+2 * (a.Nx.length+0)+(a.L.length - a.p)) * SrK es+((zbG (srL es) a.L[a.p]).length - 0+es.length+3)<(3 * unQ es a.Sn+2 * a.Nx.length+(a.L.length - a.p)) * SrK es+(2 * es.length+9);rw [Nat.add_zero]; omega
     . obtain rfl:=List.mem_singleton.1 hq;exact q6a (jgi es c x y _ _ _ _ _ _ _ _ _ _ _ _ _ _ 0 _ _ _) hp hu (qab rfl)
 . have hpe:a.p=a.L.length:=by omega
   rw [hpe,List.take_length] at hs;have hd:decide ((a.p:Int)<(lvM ⟨a.f,a.VL,a.n⟩:Int))=false:=decide_eq_false (by rw [hI.lvn]; omega)
   rcases hI.nx with ⟨hb,hnn,hne,hrow⟩ | ⟨hb,hnil⟩
   . have hpos:0<a.Nx.length:=List.length_pos_iff.2 hne;rw [hb];refine qsc (some (1,8)) 20000 (names:=n98) (Sr.b ⟨a.es2,a.c2,a.m,a.es3,a.c3,false,a.VN,a.nn,0,false,a.VN,a.nn,a.Nx,a.Sn,[],a.Sn⟩) ⟨⟨⟨hI.tab,hI.bd,hrow.strs,hnn,fun q hq=>(hI.szN q hq).1,.inr ⟨rfl,rfl⟩,hI.seen,fun o ho=>hI.fin o ?_,rfl,?_,fun q hq=>(hI.szN q hq).2,fun q hq=>(by cases hq)⟩,Nat.zero_le _,rfl,?_⟩,?_⟩ (fun z=>jqm es c x y a.es2 a.c2 J a.m a.es3 a.c3 a.f a.VL a.n a.p a.VN a.nn z) (zlr es c x y _ _ _ _ _ _ _ _ _ _ _ _) (fun q hq p u hp hu => ?_) (fun e he=>by cases he) (zaa hd (zaa (decide_eq_true (by rw [hnn]; omega)) qaa))
     . refine .next ?_ ?_ ?_
       . rw [hs]; exact hI.zeg
       . rw [hs]; exact hne
       . rw [hs]; exact ho
     . show a.Nx.length<=es.length+2;omega
     . show 0+unQ es a.Sn<=es.length+2;omega
     . show (3 * unQ es a.Sn+2 * 0+(a.Nx.length - 0)) * SrK es+(2 * es.length+9)<(3 * unQ es a.Sn+2 * a.Nx.length+(a.L.length - a.p)) * SrK es+(2 * es.length+9);exact quj (by omega) (by unfold SrK; omega)
     . obtain rfl:=List.mem_singleton.1 hq;exact q6a (jte es c x y _ _ _ _ _ _ _ _ 0 _ _ _) hp hu (qab rfl)
   . rw [hb];refine qta none 20000 (fun z=>jii es c x y a.es2 a.c2 J a.m a.es3 a.c3 a.f a.VL a.n a.p a.VN a.nn z) (zaa hd qaa) fun H hH => ?_
     obtain ⟨h0,h1⟩:=List.cons.inj (show [H[1]?,H[2]?]=[some (.obj (.za6 kPr vBo es c)),some (.mem a.m)] from hH)
     exact ⟨h0,.inl ⟨rfl,hI.fin _ (.over (by rw [hs]; exact hnil))⟩⟩
end
end
end Go.Proofs.YtbhlngmhgplepaaDoor.Aes
