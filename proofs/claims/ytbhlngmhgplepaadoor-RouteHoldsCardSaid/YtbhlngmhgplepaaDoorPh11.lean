/-
  zcS behind one another: the symbolic simulator and what it is told of the program.
-/
import Derived.Test.YtbhlngmhgplepaaDoorZhSrp7
import Derived.Test.YtbhlngmhgplepaaDoorPh9
import Derived.Test.YtbhlngmhgplepaaDoorZhRtc6
set_option maxRecDepth 1000000
namespace Go.Proofs.YtbhlngmhgplepaaDoor.Aes
noncomputable section
open Go.Sim
open Go.Proofs
open Go.Sort
open Go.Bfs
variable {α:Type}
theorem j4g {A l B:List Pth} {f:Pth->Bool} {k:Nat} (hk:k<l.length) (h:(A++l.take k).find? f=none) (hf:f l[k]=true):(A++l++B).find? f=some l[k]:=by
 have e:A++l++B=(A++l.take k)++(l[k]::(l.drop (k+1)++B)):=by
  have h1:l=l.take k++l[k]::l.drop (k+1):=by rw [List.getElem_cons_drop,List.take_append_drop]
  calc A++l++B=A++(l.take k++l[k]::l.drop (k+1))++B:=by rw [← h1]
   _=_:=by simp only [List.append_assoc,List.cons_append]
 rw [e,List.find?_append,h,List.find?_cons,hf]; rfl
theorem j5g {A:List Pth} {q:Pth} {f:Pth->Bool} (h:A.find? f=none) (hf:f q=false):(A++[q]).find? f=none:=by
 rw [List.find?_append,h]; simp [hf]
theorem qt8 {y:Str} {q:Pth} (h:q≠[]):qkf y q=decide (q.getLast h=y):=by
 unfold qkf;rw [List.getLast?_eq_some_getLast h];by_cases e:q.getLast h=y
 . simp [e]
 . simp [e]
section
variable {es:List MapEntry} {c:Nat} {x y:ByteArray}
set_option maxHeartbeats 0 in
theorem sr_d {a:BA} {k:Nat} {Vl:Nat->Value} {nl:Nat} {l:List Pth} (hz:es.length<=1000000) (J:zaQ) (h:SrQ es x y (.d a k Vl nl l)):SrT es c x y (.d a k Vl nl l) J:=by
 obtain ⟨hI,hc,N0,S0,hs,he,hNx,hk,hrow,hnl,hsz,hq⟩:BInv es x y a/\∃ (h:a.p<a.L.length) (N0:List Pth) (S0:List Str),Go.Bfs.step (zbZ (srL es)) (a.L.take a.p) a.zbT=(N0,S0)/\ext a.L[a.p] (zbZ (srL es) a.L[a.p]) S0=(l,a.Sn)/\a.Nx=N0++l.take k/\k<=l.length /\
   zbw zbn a.m Vl l/\nl=l.length/\N0.length+l.length+unQ es a.Sn<=es.length+2/\∀ r∈l,r≠[]/\r.length+unQ es a.Sn<=es.length+2:=h
 subst hnl;have hM:=hI.szC;have hNl:a.Nx.length=N0.length+k:=by rw [hNx,List.length_append,List.length_take]; omega
 show qlb zcc 3 (SrC es c x y) _ _ ((dCQ es c x y a.es2 a.c2 (bst a.m a.es3 a.c3 a.f a.VL a.n a.p a.b a.VN a.nn) ⟨true,Vl,l.length⟩ k).fill J);by_cases hc2:k<l.length
 . have hP:zbn a.m (dVq k Vl) l[k]:=by rw [zkr]; exact hrow _ hc2
   obtain ⟨hne,hlq⟩:=hq _ (List.getElem_mem hc2);have hG:∀ {r:List Prop},(∀ p∈r,p)->∀ p∈dG a.m k Vl l.length r,p:=fun hr=>zaa (decide_eq_true (by omega)) (zaa ⟨by omega,by omega⟩ (zaa (by omega) (hP.strs.zdo hne (by omega) hr)))
   have hS:qqm a.m (dVq k Vl)=l[k].getLast hne:=hP.strs.zd9 hne;by_cases hy:l[k].getLast hne=y
   . refine qza none 20000 (fun z=>jxb es c x y a.es2 a.c2 J a.m a.es3 a.c3 a.f a.VL a.n a.p a.b a.VN a.nn k Vl l.length z) (hG (zaa (decide_eq_true (hS.trans hy)) qaa)) fun H hH => ?_
     obtain ⟨h0,h1⟩:=List.cons.inj (show [H[1]?,H[2]?]=[some (.obj (.zaU kPr vBo es c)),some (.mem a.m)] from hH)
     refine ⟨h0,.inr ⟨_,l[k],a.m,rfl,hI.fin _ (.found ?_),(List.cons.inj h1).1,hP,by omega⟩⟩
     have hL:a.L=a.L.take a.p++a.L[a.p]::a.L.drop (a.p+1):=by rw [List.getElem_cons_drop,List.take_append_drop]
     have hst:∃ B,(Go.Bfs.step (zbZ (srL es)) a.L a.zbT).1=N0++l++B:=by
      rw [hL,Go.Bfs.zc9,hs];refine ⟨(Go.Bfs.step (zbZ (srL es)) (a.L.drop (a.p+1)) (ext a.L[a.p] (zbZ (srL es) a.L[a.p]) S0).2).1,?_⟩;show N0++((ext a.L[a.p] (zbZ (srL es) a.L[a.p]) S0).1++_)=_;rw [he];simp
     obtain ⟨B,hB⟩:=hst;rw [hB];refine j4g hc2 ?_ ?_
     . rw [← hNx]; exact hI.zdO
     . rw [qt8 hne]; exact decide_eq_true hy
   . have hno:qkf y l[k]=false:=by rw [qt8 hne]; exact decide_eq_false hy
     have hcond:decide (qqm a.m (dVq k Vl)=y)=false:=decide_eq_false (by rw [hS]; exact hy)
     have hT:l.take (k+1)=l.take k++[l[k]]:=q6j hc2;have hN':a.Nx++[l[k]]=N0++l.take (k+1):=by rw [hNx,hT]; simp
     have hmu:∀ A:Nat,A=a.Nx.length+1->(3 * unQ es a.Sn+2 * (A - (k+1)+l.length)+(a.L.length - a.p)) * SrK es+(l.length - (k+1))<(3 * unQ es a.Sn+2 * (a.Nx.length - k+l.length)+(a.L.length - a.p)) * SrK es+(l.length - k):=fun A hA=>by
      have e:A - (k+1)=a.Nx.length - k:=by omega
      rw [e]; omega
     have hI':∀ (V:Nat->Value) (n:Nat),zfn a.m true V n (a.Nx++[l[k]])->BInv es x y { a with b:=true,VN:=V,nn:=n,Nx:=a.Nx++[l[k]] }:=fun V n hn =>
      ⟨hI.tab,hI.bd,hI.lv,hI.lvn,hI.ne,hn,hI.seen,hI.fin,j5g hI.zdO hno,hI.szC,hI.szL,fun q hq'=>by
       rcases List.mem_append.1 hq' with h | h
       . exact hI.szN q h
       . obtain rfl:=List.mem_singleton.1 h;exact ⟨hne,hlq⟩⟩
     rcases hI.nx with ⟨hb,hnn,hnne,zjM⟩ | ⟨hb,hnil⟩
     . rw [hb];refine qzb (some (1,12)) 20000 (names:=n12) (Sr.d { a with b:=true,VN:=dWq a.VN a.nn k Vl,nn:=(a.nn+1) * 1,Nx:=a.Nx++[l[k]] } (k+1) Vl l.length l) ⟨⟨hI' _ _ (.inl ⟨rfl,?_,by simp,?_⟩),hc,N0,S0,hs,he,hN',hc2,hrow,rfl,hsz,hq⟩,hmu _ (by simp)⟩ (fun z=>jvg es c x y a.es2 a.c2 J a.m a.es3 a.c3 a.f a.VL a.n a.p a.VN a.nn k Vl l.length z) (j1d es c x y _ _ _ _ _ _ _ _ _ _ _ _ _ _ _) (fun q hq p u hp hu => ?_) (fun e he=>by cases he)
        (hG (zaa hcond (zaa hP.strs.one (zaa (Nat.le_refl 1) (zaa (by omega) (zaa ⟨⟨by omega,by omega⟩,fun i hi => ?_⟩ (zaa (qwg (by omega)) qaa)))))))
       . rw [hnn,List.length_append]; simp
       . refine zjM.snoc ?_ fun i hi=>jkk (by omega)
         rw [← hnn,jlk]; exact hP
       . obtain rfl:=List.mem_singleton.1 hq;refine q2a (qf2 es c x y _ _ _ _ _ _ _ _ _ _ _ _ _ _) hp hu ?_
         show SV.Imp _ (SV.slice ⟨12,.lit 0⟩ (.sym ((a.nn+1) * 1)) (.rest 12 0));rw [Nat.mul_one];exact .refl _
       . obtain rfl:i=0:=by omega
         exact hP.strs.one
     . rw [hb];refine qzb (some (1,12)) 20000 (names:=n12) (Sr.d { a with b:=true,VN:=atV [dVq k Vl],nn:=1,Nx:=a.Nx++[l[k]] } (k+1) Vl l.length l) ⟨⟨hI' _ _ (.inl ⟨rfl,?_,by simp,?_⟩),hc,N0,S0,hs,he,hN',hc2,hrow,rfl,hsz,hq⟩,hmu _ (by simp)⟩ (fun z=>jug es c x y a.es2 a.c2 J a.m a.es3 a.c3 a.f a.VL a.n a.p a.VN a.nn k Vl l.length z) (j1d es c x y _ _ _ _ _ _ _ _ _ _ _ _ _ _ _) (fun q hq p u hp hu => ?_) (fun e he E0 hE0 => ?_)
        (hG (zaa hcond (zaa hP.strs.one (zaa (qwg (by omega)) qaa))))
       . rw [hnil]; rfl
       . rw [hnil];refine zbw.snoc (V:=fun _=>undef) zbw.nil ?_ fun i hi=>by cases hi
         exact hP
       . obtain rfl:=List.mem_singleton.1 hq;refine q2a (qf2 es c x y _ _ _ _ _ _ _ _ _ _ _ _ _ _) hp hu ?_
         exact fun γ v hv=>hv
       . obtain rfl:=List.mem_singleton.1 he;have h1:=zkp es c x y a.es2 a.c2 a.m a.es3 a.c3 a.f a.VL a.n a.p (atV [dVq k Vl]) 1 (k+1) Vl l.length;have hE0:(dX es c x y a.es2 a.c2 a.m a.es3 a.c3 a.f a.VL a.n a.p true (atV [dVq k Vl]) 1 (k+1) Vl l.length).heap[9]? = some E0:=hE0;rw [h1] at hE0;cases hE0;refine ⟨_,rfl,fun γ vs hv => ?_⟩;have hv:some [dVq k Vl]=some vs:=hv;cases hv;refine ⟨rfl,fun i w hw => ?_⟩;match i,hw with
         | 0,hw=>exact (Option.some.inj hw).symm
 . have hke:k=l.length:=by omega
   subst hke;have hd:decide ((l.length:Int)<(l.length:Int))=false:=decide_eq_false (by omega)
   rw [List.take_length] at hNx;refine q1a (some (1,8)) 20000 (names:=n11) (Sr.b { a with p:=a.p+1 }) ⟨⟨⟨hI.tab,hI.bd,hI.lv,hI.lvn,hI.ne,hI.nx,hI.seen,hI.fin,hI.zdO,hI.szC,hI.szL,hI.szN⟩,hc,?_,?_⟩,?_⟩ (fun z=>zkq es c x y a.es2 a.c2 J a.m a.es3 a.c3 a.f a.VL a.n a.p a.b a.VN a.nn l.length Vl l.length z) (qx5 es c x y _ _ _ _ _ _ _ _ _ _ _ _) (zaa hd (zaa (qwg (by omega)) qaa))
   . show Go.Bfs.step (zbZ (srL es)) (a.L.take (a.p+1)) a.zbT=(a.Nx,a.Sn);rw [q6j hc,qgo,hs];show (N0++(ext a.L[a.p] (zbZ (srL es) a.L[a.p]) S0).1,(ext a.L[a.p] (zbZ (srL es) a.L[a.p]) S0).2)=_;rw [he,hNx]
   . show a.Nx.length+unQ es a.Sn<=_;omega
   . show (3 * unQ es a.Sn+2 * a.Nx.length+(a.L.length - (a.p+1))) * SrK es+(2 * es.length+9)<(3 * unQ es a.Sn+2 * (a.Nx.length - l.length+l.length)+(a.L.length - a.p)) * SrK es+(l.length - l.length);exact qjo (by omega) (by unfold SrK; omega)
theorem j6g (hm:zdG es c) (hz:es.length<=1000000) (hne:zeZ es=false):Runs zcc 35 [.ptr ⟨0,.lit 0⟩,.str (.sym x),.str (.sym y)] [.row (.lst [.map 1]),.obj (.zaU kPr vBo es c),.mem m0Q] (SrD es c x y):=by
 refine q6d jsg (SrC es c x y) (SrQ es x y) (zfm es) (fun g nm hg=>by cases hg) ?_ fun a ha J => ?_
 . refine qfd (some (2,2)) 20000 (names:=tg9) (Sr.t [] 0 m0Q 0) ⟨Nat.zero_le _,TabAt.empty,Mem.zdC⟩ (fun z=>jtg es c x y m0Q z) (qpm es c x y m0Q [] 0 m0Q 0 _ _ _ _) (fun q hq p u hp hu => ?_) (fun e he E0 hE0 => ?_) (zaa ⟨hm,hz⟩ (zaa hne qaa))
   . obtain rfl:=List.mem_singleton.1 hq;exact q2a (jbk es c x y m0Q [] 0 m0Q 0) hp hu (q6a rfl)
   . obtain rfl:=List.mem_singleton.1 he;have hE0:(tgC es c x y m0Q [] 0 m0Q 0).heap[3]? = some E0:=hE0;rw [jck es c x y m0Q [] 0 m0Q 0] at hE0;cases hE0;exact ⟨_,rfl,fun β x h=>zaW.za2.2 ⟨fun e he=>(by cases he),by cases h; rfl⟩⟩
 . cases a with
   | t es2 c2 m2 i=>exact sr_t hz J ha
   | b a=>exact sr_b hz J ha
   | c a q=>exact sr_c hz J ha
   | d a k Vl nl l=>exact sr_d hz J ha
end
end
end Go.Proofs.YtbhlngmhgplepaaDoor.Aes
namespace Go.Sim
noncomputable section
open Go
theorem qu8 {c:Cfg} {f:FuncId} {args:List SV} {H:List SO} {D D':SV->List SO->Prop} (hr:Runs c f args (H++[SO.mem zcF]) D) (hno:∀ (n:Nat) (m':Mem),H[n]? ≠ some (SO.mem m'))
  (h:∀ (O:Nat->Prop) (w0 w:World) (β:Val) (v:SV) (H2:List SO) (x:Value),D v H2->v.den β=some x->zac c.P O w0 β H2 w->∃ β' v' H3,D' v' H3/\β.le β'/\v'.den β'=some x/\zac c.P O w0 β' H3 w):Runs c f args H D':=by
 refine ⟨hr.1,fun O w0 w β vs hH hG ha=>(hr.2 O w0 w β vs (hH.zfP zbp.none hno) hG ha).mono fun e w' zbL => ?_⟩;obtain ⟨v,H2,x,β',he,hD,hle,hv,hH2⟩:=zbL;obtain ⟨β'',v',H3,hD',hle',hv',hH3⟩:=h O w0 w' β' v H2 x hD hv hH2;exact ⟨v',H3,x,β'',he,hD',fun n l hn=>hle' _ _ (hle _ _ hn),hv',hH3⟩
end
end Go.Sim
namespace Go.Proofs.YtbhlngmhgplepaaDoor.Aes
noncomputable section
open Go.Sim
open Go.Proofs
open Go.Sort
open Go.Bfs
variable {α:Type}
def zbI (es:List MapEntry) (x y:ByteArray):Option Pth:=@Classical.epsilon _ ⟨none⟩ (SrB es x y)
theorem q9k {es:List MapEntry} {x y:ByteArray} {o:Option Pth} (h:SrB es x y o):zbI es x y=o:=(Classical.epsilon_spec (p:=SrB es x y) ⟨o,h⟩).det h
def seQ (es:List MapEntry) (x y:ByteArray):Pth:=(zbI es x y).getD []
def zi7 (q:Pth):SO:=.own (.fn (zc8 (qic q)) q.length) false 9
def zft (nm:Nat) (q:Pth):SV:=.slice ⟨nm,.lit 0⟩ (.sym q.length) (.rest nm 0)
def seD (es:List MapEntry) (c:Nat) (x y:ByteArray) (v:SV) (H:List SO):Prop:=H[1]? = some (.obj (.zaU kPr vBo es c))/\((v=.zad/\zbI es x y=none)\/∃ nm q V,2<=nm/\v=zft nm q/\zbI es x y=some q/\H[nm]? = some (.own (.raw V q.length) false 9)/\∀ i (h:i<q.length),V i=.string q[i])
theorem q3h {l:List ByteArray} {i:Nat} (h:i<l.length):qic l i=l[i]:=by unfold qic; rw [List.getElem?_eq_getElem h]; rfl
theorem qv8 {P:Program} {O:Nat->Prop} {w0 w:World} {β:Val} {H2:List SO} {m:Mem} {j:Nat} {u x:Value} {q:Pth} (hj:H2[j]? = some (.mem m)) (hp:zbn m u q) (hx:(SV.val u).den β=some x) (hH:zac P O w0 β H2 w) :
  ∃ β' V,β.le β'/\(zft H2.length q).den β'=some x/\zac P O w0 β' (H2.set j (.mem (m.drop (zaV u).block))++[.own (.raw V q.length) false 9]) w/\∀ i (h:i<q.length),V i=.string q[i]:=by
 obtain ⟨b,cap,rfl,h2,h3,h4⟩:=hp;obtain ⟨h5,h6⟩:=hH.borrow hj (fun k m' hk=>hH.zbC k j m' m hk hj) h4;refine ⟨_,_,h6,?_,h5,fun i hi => ?_⟩
 . cases hx;refine zaf.2 ⟨⟨b,0,none⟩,cap,?_,?_,h2,rfl⟩
   . show Option.map _ ((β.upd H2.length ⟨b,0,cap⟩) H2.length)=_;rw [Val.upd_same]; rfl
   . show Option.map _ ((β.upd H2.length ⟨b,0,cap⟩) H2.length)=_;rw [Val.upd_same]; rfl
 . show zcY m ⟨b,0,none⟩ i=_;exact qh2 h3 hi
section
variable {es:List MapEntry} {c:Nat} {x y:ByteArray}
theorem qk2 (hm:zdG es c) (hz:es.length<=1000000) (hne:zeZ es=false):Runs zcc 35 [.ptr ⟨0,.lit 0⟩,.str (.sym x),.str (.sym y)] [.row (.lst [.map 1]),.obj (.zaU kPr vBo es c)] (seD es c x y):=by
 refine qu8 (j6g hm hz hne) (fun n m' h => ?_) fun O w0 w β v H2 u hD hv hH => ?_
 . match n,h with
   | 0,h=>cases h
   | 1,h=>cases h
 . obtain ⟨h1,⟨rfl,h2⟩ | ⟨u',q,m,rfl,h2,h3,h4,h5⟩⟩:=hD
   . exact ⟨β,_,H2,⟨h1,.inl ⟨rfl,q9k h2⟩⟩,fun n l h=>h,hv,hH⟩
   . obtain ⟨β',V,h6,h7,h8,h9⟩:=qv8 h3 h4 hv hH;have hlen:2<H2.length:=(List.getElem?_eq_some_iff.1 h3).1;refine ⟨β',_,_,⟨?_,.inr ⟨H2.length,q,V,by omega,rfl,q9k h2,?_,h9⟩⟩,h6,h7,h8⟩
     . rw [List.getElem?_append_left (by simp; omega),List.getElem?_set_ne (by omega)]; exact h1
     . rw [List.getElem?_append_right (by simp)]; simp
end
def qy5:Cfg:=qhc (qkc ziM)
theorem ql2:zaC qy5:=qpc qo8
section
variable (es:List MapEntry) (c:Nat) (x y:ByteArray)
def szT:Tree:=qka qy5 4000 35 [.ptr ⟨0,.lit 0⟩,.str (.sym x),.str (.sym y)] [.row (.lst [.zau])]
def seT:Tree:=qka qy5 4000 35 [.ptr ⟨0,.lit 0⟩,.str (.sym x),.str (.sym y)] [.row (.lst [.map 1]),.obj (.zaU kPr vBo es c)]
theorem jmk:za4 [] (szT x y) []=([],some (.zad,[])):=by kernel_rfl
theorem jnk:za4 [1] (seT es c x y) [true]=([agG es c,zeZ es=true],some (.zad,[some (.obj (.zaU kPr vBo es c))])):=by kernel_rfl
end
theorem qzf {es:List MapEntry} {x y:ByteArray} (h:zeZ es=true):zbI es x y=none:=by
 refine q9k (.over ?_);have:srL es=[]:=List.length_eq_zero_iff.1 (by rw [qmj]; unfold zeZ at h; cases es <;> first | rfl | cases h)
 rw [this];show ([]++[]:List Pth)=[];rfl
theorem j7g {V:Nat->Value} {q:Pth} (h:∀ i (h:i<q.length),V i=.string q[i]):(Cells.raw V q.length).Imp (.fn (zc8 (qic q)) q.length):=fun γ vs hv=>by
 obtain ⟨h1,h2⟩:vs.length=q.length/\∀ (i:Nat) (x:Value),vs[i]? = some x->x=V i:=hv;refine ⟨h1,fun i x hx => ?_⟩;have hi:i<q.length:=by rw [← h1]; exact (List.getElem?_eq_some_iff.1 hx).1
 rw [h2 i x hx,h i hi];show some (Value.string (qic q i))=_;rw [q3h hi]
def seR (base:Nat) (es:List MapEntry) (c:Nat) (x y:ByteArray):R zaH :=
 .need (agG es c) (.fork (zbI es x y).isSome (.ok ⟨zft base (seQ es x y),[],[zi7 (seQ es x y)]⟩) (.ok ⟨.zad,[],[]⟩))
def seSm:za3:=fun args H base=>q4o args fun p xv yv=>zah (zb0 xv) (.stuck 7850) fun x=>zah (zb0 yv) (.stuck 7850) fun y=>zah (q7o p) (.stuck 7851) fun m=>zah (nth H m) (.stuck 7852) fun e=>zah (q9o e) (.stuck 7853) fun s =>
 zab (qkj s) (.ok ⟨.zad,[],[]⟩) (zah (qkm s) (.stuck 7854) fun mm=>zah (nth H mm) (.stuck 7855) fun e=>match e with
  | .obj (.zaU k v es c)=>zab (qnm k) (zab (q8o v) (zab (qmg [m,mm]) (seR base es c x.den y.den) (.stuck 7856)) (.stuck 7856)) (.stuck 7856)
  | _=>.stuck 7857)
theorem seOK:qeb Tryd.prog 35 seSm:=by
 intro glob O w0 β H w base args vs hH hG ha;refine q1h fun p xv yv hv=>qfa fun x hx=>qfa fun y hy=>qfa fun m hm=>qfa fun e he=>qfa fun s hs => ?_
 rw [hv,qbe hm,q8a hx,q8a hy] at ha;have ha:=qoa (.refl _) (qoa (q7b (t:=.sym x.den) rfl) (qoa (q7b (t:=.sym y.den) rfl) qdc)) _ _ ha;generalize x.den=x at ha ⊢;generalize y.den=y at ha ⊢;have hs:=qli hs;rw [qda] at he;refine R.Sat.zab (fun hnl => ?_) fun _=>qfa fun mm hmm=>qfa fun e2 he2 => ?_
 . rw [qqf hnl] at hs
   let I:Ifc:=⟨[m],[.row (.lst [.zau])],[.ptr ⟨0,.lit 0⟩,.str (.sym x),.str (.sym y)]⟩
   exact qcb ql2 4000 hH I (by intro g j hg; cases hg) ha (Ifc.zbV (by simp [I]) rfl ⟨⟨⟨_,he,qpe hs rfl⟩,rfl⟩,trivial⟩) [] (by simp) (by simp) (q0a (jmk x y) qaa fun H2 _=>⟨.refl _,rfl,trivial,trivial⟩)
 . split
   . rename_i k v es c;refine qgb fun hk=>qgb fun hv=>qgb fun hd => ?_
     have hd:=qtd hd;rw [qhf hmm] at hs;rw [qda] at he2;rw [qvg hk,qki hv] at he2;intro hg
     let I:Ifc:=⟨[m,mm],[.row (.lst [.map 1]),.obj (.zaU kPr vBo es c)],[.ptr ⟨0,.lit 0⟩,.str (.sym x),.str (.sym y)]⟩
     have hF:I.zbQ H:=Ifc.zbV hd rfl ⟨⟨⟨_,he,qpe hs rfl⟩,rfl⟩,⟨⟨_,he2,_,rfl,fun _ _ h=>h⟩,rfl⟩,trivial⟩;cases hn:zeZ es with
     | true =>
       refine ⟨fun hs => ?_,fun _ => ?_⟩
       . rw [qzf hn] at hs; cases hs
       . refine qce (k':=kPr) (v':=vBo) hH he2 ?_
         exact qcb ql2 4000 hH I (by intro g j hg; cases hg) ha hF [] (by simp) (by simp) (q0a (jnk es c x y) (zaa hg (zaa hn qaa)) fun H2 hH2=>⟨.refl _,rfl,⟨⟨rfl,.inr ⟨_,_,(List.cons.inj hH2).1,rfl,fun _ _ h=>h,rfl⟩⟩,trivial⟩,trivial⟩)
     | false =>
       refine ⟨fun hs => ?_,fun hs => ?_⟩
       . refine qce (k':=kPr) (v':=vBo) hH he2 ?_
         refine quu (c:=zcc) hH I (by intro g j hg; cases hg) ha hF (qec (qk2 (es:=es) (c:=c) (x:=x) (y:=y) hg.1 hg.2 hn) fun v H2 hD => ?_)
         obtain ⟨h1,⟨rfl,h2⟩ | ⟨nm,q,V,h0,rfl,h2,h3,h4⟩⟩:=hD
         . rw [h2] at hs; cases hs
         . have hq:seQ es x y=q:=by unfold seQ; rw [h2]; rfl
           rw [hq];have hnm:I.names.length<=nm:=h0;refine ⟨[nm],fun j hj=>by rw [List.mem_singleton.1 hj]; exact hnm,by simp,?_,?_,⟨⟨rfl,.inr ⟨_,_,h1,rfl,fun _ _ h=>h,rfl⟩⟩,trivial⟩,⟨.inl ⟨_,_,_,_,h3,trivial,j7g h4,rfl⟩,trivial⟩⟩
           . show SV.Imp (.slice ⟨I.out base [nm] nm,.lit 0⟩ (.sym q.length) (.rest (I.out base [nm] nm) 0)) _;rw [zhx hnm];exact .refl _
           . show (I.seen [nm] nm && I.seen [nm] nm)=true;rw [qfw]; rfl
       . refine qce (k':=kPr) (v':=vBo) hH he2 ?_
         refine quu (c:=zcc) hH I (by intro g j hg; cases hg) ha hF (qec (qk2 (es:=es) (c:=c) (x:=x) (y:=y) hg.1 hg.2 hn) fun v H2 hD => ?_)
         obtain ⟨h1,⟨rfl,h2⟩ | ⟨nm,q,V,h0,rfl,h2,h3,h4⟩⟩:=hD
         . exact ⟨[],by simp,by simp,.refl _,rfl,⟨⟨rfl,.inr ⟨_,_,h1,rfl,fun _ _ h=>h,rfl⟩⟩,trivial⟩,trivial⟩
         . rw [h2] at hs; cases hs
   . trivial
end
noncomputable section
open Go.Sim
open Go.Proofs
variable {α:Type}
def zaP (x:ByteArray):Bool:=decide (fiI x>=0)
def zb4 (x:ByteArray):ByteArray:=zab (zaP x) (x.extract (fiI x+1).toNat x.size) zfe
def cutA (x:ByteArray):ByteArray:=zab (zaP x) (x.extract 0 (fiI x).toNat) x
def zhR (s:ByteArray):Tree:=qka zb6 2000 72 [.str (.sym s),.str (.lit zdk)] []
section
variable (s:ByteArray)
theorem j8g:za4 [] (zhR s) [true,true]=([decide (zdk=s)=true,0<=s.size,1<=s.size],some (.tuple [.str (.sym (s.extract 0 0)),.str (.sym (s.extract 1 s.size)),.bool (.lit true)],[])):=by kernel_rfl
theorem jok:za4 [] (zhR s) [false,false]=([decide (zdk=s)=false,decide (fiI s>=0)=false],some (.tuple [.str (.sym s),.str (.lit zfe),.bool (.lit false)],[])):=by kernel_rfl
theorem j9g:za4 [] (zhR s) [false,true]=([decide (zdk=s)=false,decide (fiI s>=0)=true,0<=fiI s/\fiI s<=(s.size:Int),qna (fiI s+1),0<=fiI s+1/\fiI s+1<=(s.size:Int)],some (.tuple [.str (.sym (s.extract 0 (fiI s).toNat)),.str (.sym (s.extract (fiI s+1).toNat s.size)),.bool (.lit true)],[])):=by kernel_rfl
end
theorem jpk:fiI zdk=0:=by kernel_rfl
theorem qw8 (s:ByteArray):fiI s = -1\/0<=fiI s/\fiI s<(s.size:Int):=by
 rcases q9g s 46 with ⟨h,_⟩ | ⟨m,h,hm,_⟩
 . exact .inl h
 . exact .inr ⟨by show 0<=firstIdx s 46; omega,by show firstIdx s 46<_; omega⟩
def j3d (s:ByteArray) (v:SV):Prop:=∃ a b:za8,∃ c:SB,v=.tuple [.str a,.str b,.bool c]/\a.den=cutA s/\b.den=zb4 s/\c.den=zaP s
def zhc (s:ByteArray):zaH:=⟨.tuple [.str (.sym (cutA s)),.str (.sym (zb4 s)),.bool (.sym (zaP s))],[],[]⟩
theorem jzb {base:Nat} {I:Ifc} {s:ByteArray} {v:SV} {H:List SO} (ho:qpb I.ents 0=[]) (h:j3d s v):I.zde base [] (zhc s) v H:=by
 obtain ⟨a,b,c,rfl,h1,h2,h3⟩:=h;refine ⟨fun β x hx => ?_,rfl,?_,trivial⟩
 . rw [show (zhc s).v=.tuple [.str (.sym a.den),.str (.sym b.den),.bool (.sym c.den)] by rw [h1,h2,h3]; rfl]
   exact hx
 . rw [ho]; trivial
def qrz (v:SV):Bool:=zah (zb0 v) false fun s=>za8.rec (motive:=fun _=>Bool) (fun s=>decide (s=zdk)) (fun _=>false) (fun _=>false) s
theorem qd1 {v:SV} (h:qrz v=true):v=.str (.lit zdk):=by
 unfold qrz at h;cases hv:zb0 v with
 | none=>rw [hv] at h; cases h
 | some s =>
   rw [hv] at h;rw [q8a hv];cases s with
   | lit b=>rw [of_decide_eq_true (show decide (b=zdk)=true from h)]
   | sym b=>cases h
   | bytes b=>cases h
def cutS:za3:=fun args _ _=>quf args fun v w=>zah (zb0 v) (.stuck 7820) fun s=>zab (qrz w) (.need (s.den.size<=9223372036854775807) (.ok (zhc s.den))) (.stuck 7821)
theorem zks:qeb Tryd.prog 72 cutS:=by
 intro glob O w0 β H w base args vs hH hG ha;refine qed fun v w' hv=>qfa fun s hs=>qgb fun hd=>fun hz => ?_
 rw [hv,q8a hs,qd1 hd] at ha;have ha:=qoa (q7b (t:=.sym s.den) rfl) (qoa (.refl _) qdc) _ _ ha;show qtb Tryd.prog H β w base _ vs (zhc s.den);generalize s.den=s at ha hz ⊢;have hb:∀ {ds ps v},za4 [] (zhR s) ds=(ps,some (v,[]))->(∀ p∈ps,p)->j3d s v->qtb Tryd.prog H β w base 72 vs (zhc s):=fun hr hp hc=>qcb q2h 2000 hH ⟨[],[],[.str (.sym s),.str (.lit zdk)]⟩ (by intro g j hg; cases hg) ha (Ifc.zbV (by simp) rfl trivial) [] (by simp) (by simp) (q0a hr hp fun H2 _=>jzb rfl hc)
 by_cases hd:zdk=s
 . have e0:fiI s=0:=by rw [← hd]; exact jpk
   have hF:zaP s=true:=decide_eq_true (by rw [e0]; exact Int.le_refl 0)
   have h1:1<=s.size:=by rw [← hd]; exact Nat.le_refl 1
   refine hb (j8g s) (zaa (decide_eq_true hd) (zaa (Nat.zero_le _) (zaa h1 qaa))) ⟨_,_,_,rfl,?_,?_,hF.symm⟩
   . show _=zab (zaP s) _ _;rw [hF]; show _=s.extract 0 (fiI s).toNat;rw [e0]; rfl
   . show _=zab (zaP s) _ _;rw [hF]; show _=s.extract (fiI s+1).toNat s.size;rw [e0]; rfl
 . have hdF:decide (zdk=s)=false:=decide_eq_false hd;rcases qw8 s with h | ⟨h1,h2⟩
   . have hF:zaP s=false:=decide_eq_false (by omega)
     refine hb (jok s) (zaa hdF (zaa hF qaa)) ⟨_,_,_,rfl,?_,?_,hF.symm⟩
     . show _=zab (zaP s) _ _;rw [hF]; rfl
     . show _=zab (zaP s) _ _;rw [hF]; rfl
   . have hF:zaP s=true:=decide_eq_true (by omega)
     refine hb (j9g s) (zaa hdF (zaa hF (zaa ⟨h1,by omega⟩ (zaa ⟨by omega,by omega⟩ (zaa ⟨by omega,by omega⟩ qaa))))) ⟨_,_,_,rfl,?_,?_,hF.symm⟩
     . show _=zab (zaP s) _ _;rw [hF]; rfl
     . show _=zab (zaP s) _ _;rw [hF]; rfl
def zgN (x:ByteArray):Bool:=zab (zaP x) (zax (zb4 x)) false
section
variable (s:ByteArray) (i:Nat)
def rpT (st:Option (Nat × Nat)):Tree:=qka (zcr.at st) 4000 70 [.str (.sym s)] []
def rpC:Cut:=⟨q0b (qub (rpT s (some (1,3))) []).frames [[(0,.str (.sym s)),(4,.int .i64 (.sym i))]],[]⟩
variable (J:zaQ) (z:Nat->Nat->Nat)
theorem jah:zaq [] (rpC s 0) [] (rpT s (some (1,3))) [] z=([],some (.inr (qva [(0,4,.int .i64 (.lit 0))] [] (qja [] 0 (rpC s 0))))):=by kernel_rfl
theorem jbh:zaq [] (rpC s i) [] (za9 (zcr.at (some (1,3))) 4000 ((rpC s i).fill J)) [true,false] z=([decide ((i:Int)<(s.size:Int))=true,(0:Int)<=(i:Int)/\(i:Int)<(s.size:Int),(zaG s i == 46)=false,qna ((i:Int)+1)],some (.inr (qja [] 0 (rpC s (i+1))))):=by kernel_rfl
def sfx:ByteArray:=s.extract ((i:Int)+1).toNat s.size
theorem jqk:zaq [] (rpC s i) [] (za9 (zcr.at none) 4000 ((rpC s i).fill J)) [true,true] z=([decide ((i:Int)<(s.size:Int))=true,(0:Int)<=(i:Int)/\(i:Int)<(s.size:Int),(zaG s i == 46)=true,qna ((i:Int)+1),(0:Int)<=(i:Int)+1/\(i:Int)+1<=(s.size:Int),qna ((i:Int)+1),(0:Int)<=(i:Int)+1/\(i:Int)+1<=(s.size:Int),(sfx s i).size<=9223372036854775807],some (.inl (.tuple [.str (.sym (sfx s i)),.bool (.sym (zax (sfx s i)))],[]))):=by kernel_rfl
theorem jrk:zaq [] (rpC s i) [] (za9 (zcr.at none) 4000 ((rpC s i).fill J)) [false] z=([decide ((i:Int)<(s.size:Int))=false],some (.inl (.tuple [.str (.lit zfe),.bool (.lit false)],[]))):=by kernel_rfl
theorem qsz (j:Nat):zab (qua 0 [] (rpC s i) (rpC s j)) (zaO qpa (rpC s j).heap) false=true:=by kernel_rfl
theorem jsk:(((rpC s i).frames[0]?).bind fun p=>p.tmps[4]?)=some (some (.int .i64 (.sym i))):=by kernel_rfl
end
def j4d (s:ByteArray) (v:SV):Prop:=∃ b:za8,∃ c:SB,v=.tuple [.str b,.bool c]/\b.den=zb4 s/\c.den=zgN s
def zhw (s:ByteArray):zaH:=⟨.tuple [.str (.sym (zb4 s)),.bool (.sym (zgN s))],[],[]⟩
theorem j0b {base:Nat} {I:Ifc} {s:ByteArray} {v:SV} {H:List SO} (ho:qpb I.ents 0=[]) (h:j4d s v):I.zde base [] (zhw s) v H:=by
 obtain ⟨b,c,rfl,h2,h3⟩:=h;refine ⟨fun β x hx => ?_,rfl,?_,trivial⟩
 . rw [show (zhw s).v=.tuple [.str (.sym b.den),.bool (.sym c.den)] by rw [h2,h3]; rfl]
   exact hx
 . rw [ho]; trivial
theorem qx8 {s:ByteArray} {m:Nat} (hm:m<s.size) (hd:zaG s m=46) (hf:∀ j,j<m->zaG s j≠46):fiI s=(m:Int):=by
 rcases q9g s 46 with ⟨_,h⟩ | ⟨q,h,h1,h2,h3⟩
 . exact absurd hd (h m hm)
 . have h2:zaG s q=46:=h2;have:q=m:=by
    rcases Nat.lt_trichotomy q m with c | c | c
    . exact absurd h2 (hf q c)
    . exact c
    . exact absurd hd (h3 m c)
   rw [← this]; exact h
theorem j1b {s:ByteArray} (hf:∀ j,j<s.size->zaG s j≠46):fiI s = -1:=by
 rcases q9g s 46 with ⟨h,_⟩ | ⟨q,h,h1,h2,h3⟩
 . exact h
 . exact absurd h2 (hf q h1)
theorem jch (s:ByteArray) (hbig:s.size<=9223372036854775807):Runs zcr 70 [.str (.sym s)] [] fun v _=>j4d s v:=by
 refine qwu q5e (rpC s) (fun i=>zaG s i≠46) s.size (fun g nm hg=>by cases hg) (fun Q hQ => ?_) (fun i hi hp J Q hQ => ?_) (fun i hi hp hb J Q => ?_) (fun hp J Q => ?_)
 . refine qfd (some (1,3)) 4000 0 hQ (jah s) (qsz s 0 0) (fun q hq p u hp hu => ?_) (fun e he=>by cases he) qaa
   obtain rfl:q=(0,4,.int .i64 (.lit 0)):=by simpa using hq
   exact q2a (jsk s 0) hp hu (q6a rfl)
 . exact q1a (some (1,3)) 4000 (i+1) hQ (jbh s i J) (qsz s i (i+1)) (zaa (decide_eq_true (by omega)) (zaa ⟨by omega,by omega⟩ (zaa (zhi hp) (zaa ⟨by omega,by omega⟩ qaa))))
 . have hd:zaG s i=46:=Classical.byContradiction hp;have he:fiI s=(i:Int):=qx8 hi hd hb;have hF:zaP s=true:=decide_eq_true (by rw [he]; omega)
   have hB:sfx s i=zb4 s:=by
    show _=zab (zaP s) _ _;rw [hF]; show _=s.extract (fiI s+1).toNat s.size;rw [he]; rfl
   have hz:(sfx s i).size<=9223372036854775807:=by unfold sfx; rw [qvd]; omega
   have h64:qna ((i:Int)+1):=⟨by omega,by omega⟩
   refine qza none 4000 (jqk s i J) (zaa (decide_eq_true (by omega)) (zaa ⟨by omega,by omega⟩ (zaa (eqT hd) (zaa h64 (zaa ⟨by omega,by omega⟩ (zaa h64 (zaa ⟨by omega,by omega⟩ (zaa hz qaa)))))))) fun H _=>⟨_,_,rfl,hB,?_⟩
   show zax (sfx s i)=zab (zaP s) (zax (zb4 s)) false;rw [hF,hB]; rfl
 . exact qza none 4000 (jrk s s.size J) (zaa (decide_eq_false (by omega)) qaa) fun H _=>by
    have hF:zaP s=false:=decide_eq_false (by rw [j1b hp]; omega)
    refine ⟨_,_,rfl,?_,?_⟩
    . show _=zab (zaP s) _ _;rw [hF]; rfl
    . show _=zab (zaP s) _ _;rw [hF]; rfl
def rpS:za3:=fun args _ _=>qrg args fun v=>zah (zb0 v) (.stuck 7822) fun s=>.need (s.den.size<=9223372036854775807) (.ok (zhw s.den))
theorem rpOK:qeb Tryd.prog 70 rpS:=by
 intro glob O w0 β H w base args vs hH hG ha;refine qdd fun v hv=>qfa fun s hs=>fun hb => ?_
 rw [hv,q8a hs] at ha;have ha:=qoa (q7b (t:=.sym s.den) rfl) qdc _ _ ha;show qtb Tryd.prog H β w base _ vs (zhw s.den);generalize s.den=s at ha hb ⊢
 let I:Ifc:=⟨[],[],[.str (.sym s)]⟩
 exact qqc (c:=zcr) hH I (by intro g j hg; cases hg) ha (qkd rfl).q [] (by simp) (by simp) (qec (jch s hb) fun v H h=>j0b rfl h)
end
noncomputable section
open Go.Sim
open Go.Proofs
variable {α:Type}
def suf (s:ByteArray) (i:Nat):ByteArray:=Nat.rec s (fun _ r=>zb4 r) i
def zdl (f:Nat):ByteArray->Nat:=Nat.rec (fun _=>0) (fun _ ih r=>zab (zaP r) (Nat.succ (ih (zb4 r))) 0) f
def dep (s:ByteArray):Nat:=zdl 16 s
def rlA:List (FuncId × za3):=(70,rpS)::(72,cutS)::rlL2
theorem j5d:∀ y∈rlA,qeb Tryd.prog y.1 y.2:=zcu rpOK (zcu zks j9j)
def zhg:Cfg:=qhc (qkc rlA)
theorem zhf:zaC zhg:=qpc j5d
def acT (st:Option (Nat × Nat)) (s:ByteArray):Tree:=qka (zhg.at st) 20000 40 [.str (.sym s)] []
def liT (st:Option (Nat × Nat)) (s:ByteArray):Tree:=qka (zhg.at st) 20000 56 [.str (.sym s)] []
def acC (j:Nat):ByteArray->List Prop:=Nat.rec (fun r=>[r.size<=9223372036854775807,zaP r=false,zaP r=false,zaP r=false,zaP r=false]) (fun _ ih r=>(r.size<=9223372036854775807)::(zaP r=true)::ih (zb4 r)) j
def liC (j:Nat):ByteArray->List Prop:=Nat.rec (fun r=>[r.size<=9223372036854775807,zgN r=false]) (fun _ ih r=>(r.size<=9223372036854775807)::(zgN r=true)::ih (zb4 r)) j
def acL (s:ByteArray) (j:Nat):List SV:=zas (fun i=>SV.str (.sym (suf s i))) (qqa (Nat.succ j) 0)
def acE (s:ByteArray) (j:Nat):Option SO:=some (.own (.lst (acL s j)) false 9)
def acV (nm j:Nat):SV:=.slice ⟨nm,.lit 0⟩ (.lit (Nat.succ j)) (.rest nm 0)
theorem ac_0 (s:ByteArray):za4 [0] (acT none s) [false,false,false,false,false]=(((!zax s)=false)::acC 0 s,some (.slice ⟨0,.lit 0⟩ (.lit 1) (.lit 1),[some (.own (.lst [.str (.sym s)]) true 9)])):=by kernel_rfl
theorem li_0 (s:ByteArray):za4 [0] (liT none s) [false]=(liC 0 s,some (.slice ⟨0,.lit 0⟩ (.lit 1) (.lit 1),[some (.own (.lst [.str (.sym s)]) true 9)])):=by kernel_rfl
theorem ac_n (s:ByteArray):zas (fun j=>za4 [4+2 * j] (acT none s) (false::app (zba true j) [false,false,false,false])) (qqa 15 1)=zas (fun j=>(((!zax s)=false)::acC j s,some (acV (4+2 * j) j,[acE s j]))) (qqa 15 1):=by kernel_rfl
theorem li_n (s:ByteArray):zas (fun j=>za4 [2 * j] (liT none s) (app (zba true j) [false])) (qqa 15 1)=zas (fun j=>(liC j s,some (acV (2 * j) j,[acE s j]))) (qqa 15 1):=by kernel_rfl
theorem qtz {γ:Val} {f:Nat->SV}:∀ {n k:Nat} {vs:List Value},SV.zal γ (zas f (qqa n k))=some vs->vs.length=n/\∀ i x,vs[i]? = some x->(f (k+i)).den γ=some x
 | 0,k,vs,h=>by cases h; exact ⟨rfl,fun i x hx=>by simp at hx⟩
 | n+1,k,vs,h=>by
   obtain ⟨v,us,hv,hu,rfl⟩:=zae.1 (show SV.zal γ (f k::zas f (qqa n (k+1)))=some vs from h)
   obtain ⟨h1,h2⟩:=qtz hu;refine ⟨by simp [h1],fun i x hx => ?_⟩
   cases i with
   | zero =>
     simp at hx; subst hx;exact hv
   | succ i =>
     have:=h2 i x (by simpa using hx)
     rwa [show k+1+i=k+(i+1) by omega] at this
theorem quz (f:Nat->SV) (n:Nat):(Cells.lst (zas f (qqa n 0))).Imp (.fn f n):=fun γ vs hv=>by
 obtain ⟨h1,h2⟩:=qtz (show SV.zal γ (zas f (qqa n 0))=some vs from hv)
 exact ⟨h1,fun i x hx=>by have:=h2 i x hx; rwa [Nat.zero_add] at this⟩
theorem q4h {r:ByteArray} (h:zbl r) (hc:zaP r=true):zbl (zb4 r)/\(zb4 r).size+2<=r.size:=by
 have hB:zb4 r=r.extract (fiI r+1).toNat r.size:=by
  show zab (zaP r) _ _=_;rw [hc]; rfl
 have hge:fiI r>=0:=of_decide_eq_true hc;rcases q9g r 46 with ⟨h1,_⟩ | ⟨m,h1,hm,hd,_⟩
 . have h1:fiI r = -1:=h1;omega
 have h1:fiI r=(m:Int):=h1;rw [h1,show ((m:Int)+1).toNat=m+1 by omega] at hB
 have hz:(zb4 r).size=r.size - (m+1):=by rw [hB,qvd,Nat.min_self]
 have hb:∀ i,i<(zb4 r).size->zaG (zb4 r) i=zaG r (m+1+i):=fun i hi=>by rw [hB]; exact q5k (by rw [Nat.min_self]; omega)
 obtain ⟨_,h32,ha⟩:=h;rcases ha m hm with hk | ⟨_,hm0,hml,_⟩
 . exact absurd hd (q6k hk)
 refine ⟨⟨by omega,by omega,fun i hi => ?_⟩,by omega⟩
 rcases ha (m+1+i) (by omega) with hk | ⟨hk,_,hkl,hkp⟩
 . exact .inl (by rw [hb i hi]; exact hk)
 . have hi0:i≠0:=fun e=>by
    subst e;exact hkp (by rw [show m+1+0 - 1=m by omega]; exact hd)
   refine .inr ⟨by rw [hb i hi]; exact hk,hi0,by omega,?_⟩
   rw [hb (i - 1) (by omega),show m+1+(i - 1)=m+1+i - 1 by omega]
   exact hkp
theorem qzu {r:ByteArray} (h:zbl r):zgN r=zaP r:=by
 show zab (zaP r) (zax (zb4 r)) false=_;cases hc:zaP r with
 | false=>rfl
 | true=>exact qcg (q4h h hc).1
theorem qvi:∀ (f:Nat) (r:ByteArray),zbl r->r.size<=2 * f->zdl f r+1<=f/\(∀ p∈acC (zdl f r) r,p)/\∀ p∈liC (zdl f r) r,p
 | 0,r,h,hz=>by have:=h.1; omega
 | f+1,r,h,hz=>by
   have h32:=h.2.1;have hs:r.size<=9223372036854775807:=by omega
   cases hc:zaP r with
   | false =>
     have e:zdl (f+1) r=0:=by
      show zab (zaP r) _ _=_;rw [hc]; rfl
     rw [e];exact ⟨by omega,zaa hs (zaa hc (zaa hc (zaa hc (zaa hc qaa)))),zaa hs (zaa ((qzu h).trans hc) qaa)⟩
   | true =>
     have e:zdl (f+1) r=zdl f (zb4 r)+1:=by
      show zab (zaP r) _ _=_;rw [hc]; rfl
     obtain ⟨h1,h2⟩:=q4h h hc;obtain ⟨h3,h4,h5⟩:=qvi f (zb4 r) h1 (by omega)
     rw [e];exact ⟨by omega,zaa hs (zaa hc h4),zaa hs (zaa ((qzu h).trans hc) h5)⟩
theorem jdh {r:ByteArray} (hc:zaP r=true):1<=dep r:=by
 show 1<=zab (zaP r) _ _;rw [hc]; exact Nat.succ_le_succ (Nat.zero_le _)
theorem qnj {r:ByteArray} (hc:zaP r=false):dep r=0:=by
 show zab (zaP r) _ _=_;rw [hc]; rfl
theorem qy8 {s:ByteArray} (h:zbl s):∀ i,i<=dep s->zbl (suf s i):=by
 have key:∀ (f:Nat) (r:ByteArray),zbl r->∀ i,i<=zdl f r->zbl (suf r i)/\(i<zdl f r->zaP (suf r i)=true):=fun f=>by
  induction f with
  | zero =>
    intro r hr i hi;have hi:i<=0:=hi;obtain rfl:i=0:=by omega
    exact ⟨hr,fun h=>by have h:(0:Nat)<0:=h; omega⟩
  | succ f ih =>
    intro r hr i hi;cases hc:zaP r with
    | false =>
      have e:zdl (f+1) r=0:=by
       show zab (zaP r) _ _=_;rw [hc]; rfl
      rw [e] at hi ⊢;obtain rfl:i=0:=by omega
      exact ⟨hr,fun h=>by omega⟩
    | true =>
      have e:zdl (f+1) r=zdl f (zb4 r)+1:=by
       show zab (zaP r) _ _=_;rw [hc]; rfl
      rw [e] at hi ⊢;have hsuf:∀ j,suf r (j+1)=suf (zb4 r) j:=fun j=>by
       induction j with
       | zero=>rfl
       | succ j ihj=>show zb4 (suf r (j+1))=zb4 (suf (zb4 r) j); rw [ihj]
      cases i with
      | zero=>exact ⟨hr,fun _=>hc⟩
      | succ i =>
        rw [hsuf];obtain ⟨h1,h2⟩:=ih _ (q4h hr hc).1 i (by omega)
        exact ⟨h1,fun h=>h2 (by omega)⟩
 exact fun i hi=>(key 16 s h i hi).1
def upV (nm:Nat) (b:Bool) (s:ByteArray):SV:=.slice ⟨nm,.lit 0⟩ (.sym (Nat.succ (dep s))) (zab b (.rest nm 0) (.lit 1))
def upE (b:Bool) (s:ByteArray):SO:=.own (.fn (zc8 (suf s)) (Nat.succ (dep s))) (zab b false true) 9
def upR (base:Nat) (s:ByteArray):R zaH:=.need (zbl s) (.fork (zaP s) (.ok ⟨upV base true s,[],[upE true s]⟩) (.ok ⟨upV base false s,[],[upE false s]⟩))
def upS:za3:=fun args _ base=>qrg args fun v=>zah (zb0 v) (.stuck 7823) fun s=>upR base s.den
theorem j2b {β:Type} {f g:Nat->β} {k b:Nat} (h:zas f (qqa k b)=zas g (qqa k b)) {l:Nat} (h1:b<=l) (h2:l<b+k):f l=g l:=by
 rw [qxa,qxa,qb8] at h;have h3:∀ f:Nat->β,(List.map f (List.range' b k))[l - b]? = some (f l):=fun f=>by
  rw [List.getElem?_map,List.getElem?_range' (by omega)]
  simp only [Option.map_some];rw [show b+1 * (l - b)=l from by omega]
 have h4:=h3 f;rw [h,h3 g] at h4;exact (Option.some.inj h4).symm
theorem j3b (q:Nat):zbD q [q]=true:=by
 show zab (Nat.beq q q) true _=true;rw [Nat.beq_refl]; rfl
theorem jeh (args:List SV) (base q:Nat):(⟨[],[],args⟩:Ifc).out base [q] q=base:=by
 show base+zab (Nat.beq q q) 0 _=base;rw [Nat.beq_refl]; rfl
theorem qm2 (p:Nat->Bool) (f:Nat->ByteArray):∀ l:List Nat,SV.zbi p (zas (fun i=>SV.str (.sym (f i))) l)=true
 | []=>rfl
 | a::l=>show (true && SV.zbi p (zas (fun i=>SV.str (.sym (f i))) l))=true by rw [qm2 p f l]; rfl
theorem qz8 (g:Nat->Nat) (f:Nat->ByteArray):∀ l:List Nat,SV.zbJ g (zas (fun i=>SV.str (.sym (f i))) l)=zas (fun i=>SV.str (.sym (f i))) l
 | []=>rfl
 | a::l=>show SV.str (.sym (f a))::SV.zbJ g (zas (fun i=>SV.str (.sym (f i))) l)=SV.str (.sym (f a))::zas (fun i=>SV.str (.sym (f i))) l by rw [qz8 g f l]
theorem q08 {f:FuncId} (T:ByteArray->Tree) (hT:∀ s,T s=qka (zhg.at none) 20000 f [.str (.sym s)] []) (nmF:Nat->Nat) (ds:Nat->List Bool) (C:Nat->ByteArray->List Prop) (hC:∀ s,zbl s->∀ p∈C (dep s) s,p)
  (h0:∀ s,za4 [0] (T s) (ds 0)=(C 0 s,some (.slice ⟨0,.lit 0⟩ (.lit 1) (.lit 1),[some (.own (.lst [.str (.sym s)]) true 9)])))
  (hn:∀ s,zas (fun j=>za4 [nmF j] (T s) (ds j)) (qqa 15 1)=zas (fun j=>(C j s,some (acV (nmF j) j,[acE s j]))) (qqa 15 1)):qeb Tryd.prog f upS:=by
 intro glob O w0 β H w base args vs hH hG ha;refine qdd fun v hv=>qfa fun s hs => ?_
 rw [hv,q8a hs] at ha;have ha:=qoa (q7b (t:=.sym s.den) rfl) qdc _ _ ha;generalize s.den=s at ha ⊢;intro hr;have hcc:=hC s hr;have hcA:zaC (zhg.at none):=zhf.at none;refine ⟨fun hc => ?_,fun hc => ?_⟩
 . have hd1:=jdh hc;have hd2:=(qvi 16 s hr hr.2.1).1;have hd2:dep s+1<=16:=hd2;have hrun:za4 [nmF (dep s)] (T s) (ds (dep s))=(C (dep s) s,some (acV (nmF (dep s)) (dep s),[acE s (dep s)])):=j2b (hn s) hd1 (by omega)
   rw [hT] at hrun;refine qud hcA rfl 20000 hH ⟨[],[],[.str (.sym s)]⟩ ha (qkd rfl) [nmF (dep s)] (by simp) (by simp) hrun hcc fun H2 hH2 => ?_
   have h:=(List.cons.inj (show [H2[nmF (dep s)]?]=[acE s (dep s)] from hH2)).1
   generalize nmF (dep s)=q at h ⊢;have ho:(⟨[],[],[.str (.sym s)]⟩:Ifc).out base [q] q=base:=jeh _ _ _;refine ⟨?_,?_,trivial,⟨⟨_,_,_,_,h,?_,?_,rfl⟩,trivial⟩⟩
   . show SV.Imp (.slice ⟨Ifc.out _ base [q] q,.lit 0⟩ (.lit (Nat.succ (dep s))) (.rest (Ifc.out _ base [q] q) 0)) _;rw [ho];exact fun _ _ h=>h
   . exact show (zbD q [q] && zbD q [q])=true by rw [j3b]; rfl
   . exact qm2 _ (suf s) _
   . show Cells.Imp (.lst (SV.zbJ _ (acL s (dep s)))) _;rw [show SV.zbJ _ (acL s (dep s))=acL s (dep s) from qz8 _ (suf s) _]
     exact quz (zc8 (suf s)) (Nat.succ (dep s))
 . have e0:=qnj hc;rw [e0] at hcc;have hrun:=h0 s;rw [hT] at hrun;refine qud hcA rfl 20000 hH ⟨[],[],[.str (.sym s)]⟩ ha (qkd rfl) [0] (by simp) (by simp) hrun hcc fun H2 hH2 => ?_
   have h:=(List.cons.inj (show [H2[0]?]=[some (.own (.lst [.str (.sym s)]) true 9)] from hH2)).1
   refine ⟨?_,rfl,trivial,⟨⟨_,_,_,_,h,by rfl,?_,rfl⟩,trivial⟩⟩
   . show SV.Imp _ (.slice ⟨base,.lit 0⟩ (.sym (Nat.succ (dep s))) (.lit 1));rw [e0];exact fun _ _ h=>h
   . show Cells.Imp _ (.fn (zc8 (suf s)) (Nat.succ (dep s)));rw [e0];exact quz (zc8 (suf s)) 1
theorem acOK:qeb Tryd.prog 40 upS :=
 q08 (acT none) (fun _=>rfl) (fun j=>4+2 * j) (fun j=>false::app (zba true j) [false,false,false,false]) (fun j s=>((!zax s)=false)::acC j s) (fun s hr=>zaa (qet hr) (qvi 16 s hr hr.2.1).2.1) ac_0 ac_n
theorem liOK:qeb Tryd.prog 56 upS :=
 q08 (liT none) (fun _=>rfl) (fun j=>2 * j) (fun j=>app (zba true j) [false]) liC (fun s hr=>(qvi 16 s hr hr.2.1).2.2) li_0 li_n
end
noncomputable section
open Go.Sim
open Go.Proofs
variable {α:Type}
def rlH:List (FuncId × za3):=(56,upS)::(40,upS)::(41,ixS)::(34,zgJ)::(36,zh3)::rlA
def zeu:Cfg:=qhc (qkc rlH)
def heT (st:Option (Nat × Nat)) (x y:ByteArray):Tree:=qka (zeu.at st) 20000 18 [.str (.sym x),.str (.sym y)] []
theorem ziN:∀ y∈rlH,qeb Tryd.prog y.1 y.2:=zcu liOK (zcu acOK (zcu ixOK (zcu qhw (zcu zh4 j5d))))
theorem zfz:zaC zeu:=qpc ziN
section
variable (x y:ByteArray) (bu bd:Bool) (i:Nat)
def heO:Cut:=⟨q0b (qub (heT (some (1,3)) x y) [false,true,true]).frames [[(6,upV 0 bu x),(7,upV 1 bd y),(23,upV 0 bu x),(24,.int .i64 (.sym (Nat.succ (dep x):Nat))),(25,.int .i64 (.sym i))]],[.ent (upE bu x),.ent (upE bd y)]⟩
def heN:List Nat:=[0,1]
def heM:List Nat:=[0,1,2,3,4,5]
def zg9:List Nat:=[7,1,2,3,4,5]
variable (J:zaQ)
def heS (st:Option (Nat × Nat)):Tree:=za9 (zeu.at st) 20000 ((heO x y bu bd i).fill J)
def dSs (bd:Bool) (y:ByteArray):Ss:=⟨suf y,Nat.succ (dep y),0,Nat.succ (dep y),bd,zab bd 0 1⟩
def hq:Int:=zfW (dSs bd y) (suf x (0+i * 1))
def heJ:zaQ:=⟨fun _ _=>undef,fun _ _=>undef⟩
def heA0:SS:=qub (heS x y bu bd i heJ (some (2,2))) [true,false]
def pV (nm:Nat) (z:Int):SV:=.slice ⟨nm,.lit 0⟩ (.sym z.toNat) (.sym z.toNat)
def heH (e0 e1:SO) (p d:SV):List HP:=[.ent e0,.ent e1,.ent (.own (.lst [p]) true 25),.ent (.own (.lst [d]) true 25),.ent (.deferred (some [])),qes (nth (heA0 x y bu bd i).heap 5) [(11,.ptr ⟨2,.lit 0⟩)]]
variable (q m:Int) (V:Nat->Value) (n:Nat)
def heF:List SP:=q0b (heA0 x y bu bd i).frames [[(0,.func (.yield 5) [] []),(1,.ptr ⟨3,.lit 0⟩),(3,.int .i64 (.sym m))],[(11,.ptr ⟨2,.lit 0⟩)]]
def heA:Cut:=⟨heF x y bu bd i m,heH x y bu bd i (upE bu x) (upE bd y) (pV 0 ((i:Int)+1)) (pV 1 q)⟩
def heB:Cut:=⟨heF x y bu bd i m,heH x y bu bd i (.own (.raw V (n * 1)) false 9) (upE bd y) (.slice ⟨0,.lit 0⟩ (.sym n) (.rest 0 0)) (pV 1 q)⟩
def ltC (t:List Prop):List Prop:=(decide ((i:Int)<(Nat.succ (dep x):Nat))=true)::((0:Int)<=(i:Int)/\(i:Int)<(Nat.succ (dep x):Nat))::(0+i * 1<Nat.succ (dep x))::IsS (zc8 (suf y))::(dSs bd y).ok::t
variable (z:Nat->Nat->Nat)
theorem jfh:zaq [] (heO x y bu bd (i+1)) heN (heS x y bu bd i J (some (1,3))) [true,true] z=(ltC x y bd i [decide (hq x y bd i<0)=true,qna ((i:Int)+1)],some (.inr (qja heN 2 (heO x y bu bd (i+1))))):=by cases bu <;> cases bd <;> kernel_rfl
theorem jgh:zaq [] (heA x y bu bd i (hq x y bd i) ((hq x y bd i).toNat - 1)) heM (heS x y bu bd i J (some (2,2))) [true,false] z=(ltC x y bd i [decide (hq x y bd i<0)=false,qna ((i:Int)+1),qna ((i:Int)+1),0<=(i:Int)+1/\(i:Int)+1<=(zab bu (Nat.succ (dep x)) 1:Nat),0<=(i:Int)+1/\(i:Int)+1<=(((i:Int)+1).toNat:Int),0<=hq x y bd i/\hq x y bd i<=(zab bd (Nat.succ (dep y)) 1:Nat),0<=hq x y bd i/\hq x y bd i<=((hq x y bd i).toNat:Int),qna (((hq x y bd i).toNat:Int) - 1)],some (.inr (qja heM 6 (heA x y bu bd i (hq x y bd i) ((hq x y bd i).toNat - 1))))):=by cases bu <;> cases bd <;> kernel_rfl
theorem jhh:zaq [] (heO x y bu bd i) heN (heS x y bu bd i J none) [false] z=([decide ((i:Int)<(Nat.succ (dep x):Nat))=false],some (.inl (.tuple [.zad,.int .i64 (.lit 9)],[]))):=by cases bu <;> cases bd <;> kernel_rfl
def heAS (st:Option (Nat × Nat)):Tree:=za9 (zeu.at st) 20000 ((heA x y bu bd i q m).fill J)
def heBS (st:Option (Nat × Nat)):Tree:=za9 (zeu.at st) 20000 ((heB x y bu bd i q m V n).fill J)
def geC (t:List Prop):List Prop:=(decide (m>=0)=true)::(0<=m/\m<(q.toNat:Int))::(0+m.toNat * 1<Nat.succ (dep y))::(1<=1)::t
def ze4 (V:Nat->Value) (n:Nat) (s:ByteArray):Nat->Value:=zc5 (fun j=>V (0+j)) (n * 1) fun j=>atV [.string s] (0+j)
def zh7 (x:ByteArray):Nat->Value:=fun j=>zah (zcX (zc8 (suf x) j)) undef fun x=>x
def n1:Nat:=((i:Int)+1).toNat
theorem zj7:zaq [] (heB x y bu bd i q (m - 1) (ze4 (zh7 x) (n1 i) (suf y (0+m.toNat * 1))) (n1 i+1)) zg9 (heAS x y bu bd i J q m (some (2,2))) [true,false] z=(geC y q m [decide (n1 i+1<=n1 i)=false,0+n1 i * 1<=Nat.succ (dep x)/\∀ j,j<n1 i * 1->∃ v,zcX (zc8 (suf x) (0+j))=some v,(n1 i+1) * 16<140737488355328/\n1 i+1<140737488355328,qna (m - 1)],some (.inr (qja zg9 8 (heB x y bu bd i q (m - 1) (ze4 (zh7 x) (n1 i) (suf y (0+m.toNat * 1))) (n1 i+1))))):=by cases bu <;> cases bd <;> kernel_rfl
theorem zj8:zaq [0] (heA x y bu bd i q m) heM (heAS x y bu bd i J q m none) [false] z=([decide (m>=0)=false],some (.inl (.tuple [pV 0 ((i:Int)+1),.int .i64 (.lit 0)],[some (upE bu x)]))):=by cases bu <;> cases bd <;> kernel_rfl
theorem zj5:zaq [] (heB x y bu bd i q (m - 1) (ze4 V n (suf y (0+m.toNat * 1))) (n+1)) zg9 (heBS x y bu bd i J q m V n (some (2,2))) [true] z=(geC y q m [0+n * 1<=n * 1,((n+1) * 16<140737488355328/\n+1<140737488355328)/\∀ j,j<1->(atV [Value.string (suf y (0+m.toNat * 1))] (0+j)).oneCell'=true,qna (m - 1)],some (.inr (qja zg9 8 (heB x y bu bd i q (m - 1) (ze4 V n (suf y (0+m.toNat * 1))) (n+1))))):=by cases bu <;> cases bd <;> kernel_rfl
theorem zj6:zaq [0] (heB x y bu bd i q m V n) heM (heBS x y bu bd i J q m V n none) [false] z=([decide (m>=0)=false],some (.inl (.tuple [.slice ⟨0,.lit 0⟩ (.sym n) (.rest 0 0),.int .i64 (.lit 0)],[some (.own (.raw V (n * 1)) false 9)]))):=by cases bu <;> cases bd <;> kernel_rfl
def qrm:Ss:=⟨qic [x,y],2,0,2,false,2⟩
theorem jtk:za4 [] (heT none x y) [true]=([(qrm x y).ok,(!cB (zeG (qrm x y)))=true],some (.tuple [.zad,.int .i64 (.lit 2)],[])):=by kernel_rfl
theorem jih:zaq [] (heO x y bu bd 0) [1,2] (heT (some (1,3)) x y) [false,bu,bd] z=([(qrm x y).ok,(!cB (zeG (qrm x y)))=false,zbl x,zaP x=bu,zbl y,zaP y=bd],some (.inr (qva [(0,25,.int .i64 (.lit 0))] [] (qja [1,2] 3 (heO x y bu bd 0))))):=by cases bu <;> cases bd <;> kernel_rfl
theorem zj4:zab (qua 0 [1,2] (heO x y bu bd 0) (heO x y bu bd 0)) (zaO qpa (heO x y bu bd 0).heap) false=true:=by cases bu <;> cases bd <;> kernel_rfl
theorem zj2:zab (qua 0 heN (heO x y bu bd (i+1)) (heO x y bu bd (i+1))) (zaO qpa (heO x y bu bd (i+1)).heap) false=true:=by cases bu <;> cases bd <;> kernel_rfl
theorem zj3:zab (qua 0 heM (heA x y bu bd i q m) (heA x y bu bd i q m)) (zaO qpa (heA x y bu bd i q m).heap) false=true:=by cases bu <;> cases bd <;> kernel_rfl
theorem j6d:zab (qua 0 zg9 (heB x y bu bd i q m V n) (heB x y bu bd i q m V n)) (zaO qpa (heB x y bu bd i q m V n).heap) false=true:=by cases bu <;> cases bd <;> kernel_rfl
theorem juk:(((heO x y bu bd i).frames[0]?).bind fun p=>p.tmps[25]?)=some (some (.int .i64 (.sym i))):=by cases bu <;> cases bd <;> kernel_rfl
end
end
noncomputable section
open Go.Sim
open Go.Proofs
variable {α:Type}
def zdY (x y:ByteArray) (i:Nat):Prop:=∃ k,k<=dep y/\suf y k=suf x i
def zf5 (x y:ByteArray):Option Nat:=(List.range (dep x+1)).find? fun i=>cB (zdY x y i)
def zc4 (x y:ByteArray) (i:Nat):Nat:=((List.range (dep y+1)).find? fun k=>cB (suf y k=suf x i)).getD 0
def zbz (x y:ByteArray):Bool:=(zf5 x y).isSome
def cI (x y:ByteArray):Nat:=(zf5 x y).getD 0
def cK (x y:ByteArray):Nat:=zc4 x y (cI x y)
def zgu (x y:ByteArray) (i k:Nat) (j:Nat):ByteArray:=if j<=i then suf x j else suf y (k - (j - i))
def zcB (x y:ByteArray):Nat->ByteArray:=zgu x y (cI x y) (cK x y)
def zbm (x y:ByteArray):Nat:=cI x y+1+cK x y
theorem qvz {x y:ByteArray} (h:∀ i,i<=dep x->¬ zdY x y i):zbz x y=false:=by
 unfold zbz zf5;rw [List.find?_eq_none.2 fun i hi hc=>h i (by have:=List.mem_range.1 hi; omega) (zbR.1 hc)]
 rfl
theorem qlq {x y:ByteArray} {i:Nat} (hi:i<=dep x) (h:zdY x y i) (hm:∀ j,j<i->¬ zdY x y j):zbz x y=true/\cI x y=i:=by
 unfold zbz cI zf5;rw [List.find?_range_eq_some.2 ⟨zbR.2 h,List.mem_range.2 (by omega),fun j hj=>by rw [q8b (hm j hj)]; rfl⟩]
 exact ⟨rfl,rfl⟩
theorem qah {x y:ByteArray} {i:Nat} (h:zdY x y i):zc4 x y i<=dep y/\suf y (zc4 x y i)=suf x i/\∀ j,j<zc4 x y i->suf y j≠suf x i:=by
 unfold zc4;cases hf:(List.range (dep y+1)).find? fun k=>cB (suf y k=suf x i) with
 | none =>
   obtain ⟨k,hk,he⟩:=h;exact absurd (zbR.2 he) (List.find?_eq_none.1 hf k (List.mem_range.2 (by omega)))
 | some k =>
   obtain ⟨h1,h2,h3⟩:=List.find?_range_eq_some.1 hf;have h2:=List.mem_range.1 h2;refine ⟨by show k<=_; omega,zbR.1 h1,fun j hj he => ?_⟩
   have:=h3 j hj;rw [qrc he] at this;cases this
theorem jjh {x y:ByteArray} {bd:Bool} {i:Nat} (h:¬ zdY x y i):hq x y bd i = -1:=by
 refine qfo fun k hk he=>h ⟨k,by have hk:k<Nat.succ (dep y):=hk; omega,?_⟩
 have he:suf y (0+k)=suf x (0+i * 1):=he
 rwa [Nat.zero_add,Nat.zero_add,Nat.mul_one] at he
theorem jkh {x y:ByteArray} {bd:Bool} {i:Nat} (h:zdY x y i):hq x y bd i=(zc4 x y i:Int):=by
 obtain ⟨h1,h2,h3⟩:=qah h;refine qxu (by show _<Nat.succ (dep y); omega) ?_ fun j hj => ?_
 . show suf y (0+_)=suf x (0+i * 1);rw [Nat.zero_add,Nat.zero_add,Nat.mul_one]; exact h2
 . show suf y (0+j)≠suf x (0+i * 1);rw [Nat.zero_add,Nat.zero_add,Nat.mul_one]; exact h3 j hj
theorem qwz {V:Nat->Value} {n j:Nat} {s:ByteArray} (h:j<n):ze4 V n s j=V j:=by
 unfold ze4 zc5;rw [if_pos (by omega)]
 show V (0+j)=V j;rw [Nat.zero_add]
theorem qxz {V:Nat->Value} {n:Nat} {s:ByteArray}:ze4 V n s n=.string s:=by
 unfold ze4 zc5;rw [if_neg (by omega)]
 show atV [.string s] (0+(n - n * 1))=_;rw [show 0+(n - n * 1)=0 by omega]
 rfl
theorem qz5 (i:Nat):n1 i=i+1:=by unfold n1; omega
theorem q18 (x y:ByteArray):(qrm x y).ok:=⟨Nat.le_refl _,by show (2:Nat)<=_; omega⟩
theorem zeC {x y:ByteArray}:zeG (qrm x y)↔zbl x/\zbl y:=by
 constructor
 . intro h;exact ⟨h 0 (by show (0:Nat)<2; omega),h 1 (by show (1:Nat)<2; omega)⟩
 . rintro ⟨h1,h2⟩ i hi;have hi:i<2:=hi;rcases (show i=0\/i=1 by omega) with rfl | rfl
   . exact h1
   . exact h2
def heD (x y:ByteArray) (bu:Bool) (v:SV) (H:List SO):Prop :=
 (zbz x y=false/\v=.tuple [.zad,.int .i64 (.lit 9)]) \/
 (zbz x y=true/\cK x y=0/\v=.tuple [pV 0 ((cI x y:Int)+1),.int .i64 (.lit 0)]/\H[0]? = some (upE bu x)) \/
 (zbz x y=true/\cK x y≠0/\∃ V,v=.tuple [.slice ⟨0,.lit 0⟩ (.sym (zbm x y)) (.rest 0 0),.int .i64 (.lit 0)]/\H[0]? = some (.own (.raw V (zbm x y * 1)) false 9)/\∀ j,j<zbm x y->V j=.string (zcB x y j))
inductive HeK where
 | O (i:Nat)
 | A (i:Nat) (q m:Int)
 | B (i:Nat) (q m:Int) (V:Nat->Value) (n:Nat)
def heK (x y:ByteArray) (bu bd:Bool):HeK->Cut
 | .O i=>heO x y bu bd i
 | .A i q m=>heA x y bu bd i q m
 | .B i q m V n=>heB x y bu bd i q m V n
def heQ (x y:ByteArray):HeK->Prop
 | .O i=>i<=dep x+1/\∀ j,j<i->¬ zdY x y j
 | .A i q m=>i<=dep x/\zdY x y i/\(∀ j,j<i->¬ zdY x y j)/\q=(zc4 x y i:Int)/\m=q - 1
 | .B i q m V n=>i<=dep x/\zdY x y i/\(∀ j,j<i->¬ zdY x y j)/\q=(zc4 x y i:Int)/\∃ t,1<=t/\t<=zc4 x y i/\m=q - 1 - t/\n=i+1+t/\∀ j,j<n->V j=.string (zgu x y i (zc4 x y i) j)
def heMu (x _y:ByteArray):HeK->Nat
 | .O i=>(dep x+1 - i) * 1000+500
 | .A _ _ _=>400
 | .B _ _ m _ _=>(m+1).toNat
theorem jlh {x y:ByteArray} (hx:zbl x) (hy:zbl y):Runs zeu 18 [.str (.sym x),.str (.sym y)] [] (heD x y (zaP x)):=by
 have hdx:dep x+1<=16:=(qvi 16 x hx hx.2.1).1;have hdy:dep y+1<=16:=(qvi 16 y hy hy.2.1).1;have hcx:∀ i,i<=dep x->i+1<=zab (zaP x) (Nat.succ (dep x)) 1:=fun i hi=>by
  cases hc:zaP x with
  | true=>show i+1<=Nat.succ (dep x); omega
  | false=>have:=qnj hc; show i+1<=1; omega
 have hcy:∀ i,i<=dep y->i+1<=zab (zaP y) (Nat.succ (dep y)) 1:=fun i hi=>by
  cases hc:zaP y with
  | true=>show i+1<=Nat.succ (dep y); omega
  | false=>have:=qnj hc; show i+1<=1; omega
 have hok:(dSs (zaP y) y).ok:=⟨by show 0+Nat.succ (dep y)<=Nat.succ (dep y); omega,by show Nat.succ (dep y)<=1099511627776; omega⟩
 have hB:(!cB (zeG (qrm x y)))=false:=by rw [qrc (zeC.2 ⟨hx,hy⟩)]; rfl
 refine q6d zfz (heK x y (zaP x) (zaP y)) (heQ x y) (heMu x y) (fun g nm hg=>by cases hg) ?_ fun a ha J => ?_
 . refine qfd (some (1,3)) 20000 (HeK.O 0) ⟨Nat.zero_le _,fun j hj=>by omega⟩ (fun z=>jih x y (zaP x) (zaP y) z) (zj4 x y _ _) (fun q hq p u hp hu => ?_) (fun e he=>by cases he) (zaa (q18 x y) (zaa hB (zaa hx (zaa rfl (zaa hy (zaa rfl qaa))))))
   obtain rfl:q=(0,25,.int .i64 (.lit 0)):=by simpa using hq
   exact q2a (juk x y _ _ 0) hp hu (q6a rfl)
 cases a with
 | O i =>
   obtain ⟨hi,hno⟩:=ha;show qlb zeu _ (heK x y (zaP x) (zaP y)) _ _ ((heO x y (zaP x) (zaP y) i).fill J);by_cases hin:i<=dep x
   . have hL:∀ t:List Prop,(∀ p∈t,p)->∀ p∈ltC x y (zaP y) i t,p:=fun t ht=>zaa (decide_eq_true (by omega)) (zaa ⟨by omega,by omega⟩ (zaa (by omega) (zaa (jqb _) (zaa hok ht))))
     have h64:qna ((i:Int)+1):=⟨by omega,by omega⟩
     by_cases hm:zdY x y i
     . have hqv:=jkh (bd:=zaP y) hm;have hk:=(qah hm).1;have hk2:=hcy _ hk;have hi2:=hcx _ hin;refine q1a (some (2,2)) 20000 (HeK.A i (hq x y (zaP y) i) ((hq x y (zaP y) i).toNat - 1)) ⟨⟨hin,hm,hno,hqv,by rw [hqv]; omega⟩,by show 400<(dep x+1 - i) * 1000+500; omega⟩ (fun z=>jgh x y _ _ i J z) (zj3 x y _ _ i _ _) (hL _ ?_)
       exact zaa (decide_eq_false (by omega)) (zaa h64 (zaa h64 (zaa ⟨by omega,by omega⟩ (zaa ⟨by omega,by omega⟩ (zaa ⟨by omega,by omega⟩ (zaa ⟨by omega,by omega⟩ (zaa ⟨by omega,by omega⟩ qaa)))))))
     . have hqv:=jjh (bd:=zaP y) hm;exact q1a (some (1,3)) 20000 (HeK.O (i+1)) ⟨⟨by omega,fun j hj=>by
        by_cases c:j<i
        . exact hno j c
        . obtain rfl:j=i:=by omega
          exact hm⟩,by show (dep x+1 - (i+1)) * 1000+500<(dep x+1 - i) * 1000+500; omega⟩ (fun z=>jfh x y _ _ i J z) (zj2 x y _ _ i) (hL _ (zaa (decide_eq_true (by omega)) (zaa h64 qaa)))
   . exact qza none 20000 (fun z=>jhh x y _ _ i J z) (zaa (decide_eq_false (by omega)) qaa) fun H _=>.inl ⟨qvz fun j hj=>hno j (by omega),rfl⟩
 | A i q m =>
   obtain ⟨hin,hm,hno,hq,hmq⟩:=ha;obtain ⟨hc1,hc2⟩:=qlq hin hm hno;have hk:=(qah hm).1;have hck:cK x y=zc4 x y i:=by unfold cK; rw [hc2]
   show qlb zeu _ (heK x y (zaP x) (zaP y)) _ _ ((heA x y (zaP x) (zaP y) i q m).fill J);by_cases hz:zc4 x y i=0
   . refine qza none 20000 (fun z=>zj8 x y _ _ i J q m z) (zaa (decide_eq_false (by omega)) qaa) fun H hH=>.inr (.inl ⟨hc1,by rw [hck]; exact hz,by rw [hc2],?_⟩)
     exact (List.cons.inj (show [H[0]?]=[some (upE (zaP x) x)] from hH)).1
   . refine q1a (some (2,2)) 20000 (HeK.B i q (m - 1) (ze4 (zh7 x) (n1 i) (suf y (0+m.toNat * 1))) (n1 i+1)) ⟨⟨hin,hm,hno,hq,1,Nat.le_refl _,by omega,by omega,by rw [qz5],fun j hj => ?_⟩,by show (m - 1+1).toNat<400; omega⟩ (fun z=>zj7 x y _ _ i J q m z) (j6d x y _ _ i _ _ _ _) ?_
     . rw [qz5] at hj ⊢;unfold zgu;by_cases c:j<=i
       . rw [if_pos c,qwz (by omega)]; rfl
       . obtain rfl:j=i+1:=by omega
         rw [if_neg c,qxz,show 0+m.toNat * 1=zc4 x y i - (i+1 - i) by omega]
     . rw [qz5];exact zaa (decide_eq_true (by omega)) (zaa ⟨by omega,by omega⟩ (zaa (by omega) (zaa (Nat.le_refl 1) (zaa (decide_eq_false (by omega)) (zaa ⟨by omega,fun j _=>⟨_,rfl⟩⟩ (zaa ⟨by omega,by omega⟩ (zaa ⟨by omega,by omega⟩ qaa)))))))
 | B i q m V n =>
   obtain ⟨hin,hm,hno,hq,t,ht1,ht2,hmt,hn,hV⟩:=ha;obtain ⟨hc1,hc2⟩:=qlq hin hm hno;have hk:=(qah hm).1;have hck:cK x y=zc4 x y i:=by unfold cK; rw [hc2]
   show qlb zeu _ (heK x y (zaP x) (zaP y)) _ _ ((heB x y (zaP x) (zaP y) i q m V n).fill J);by_cases hz:t=zc4 x y i
   . refine qza none 20000 (fun z=>zj6 x y _ _ i J q m V n z) (zaa (decide_eq_false (by omega)) qaa) fun H hH=>.inr (.inr ⟨hc1,by rw [hck]; omega,V,?_,?_,?_⟩)
     . rw [show zbm x y=n by unfold zbm; rw [hck,hc2,hn,hz]]
     . rw [show zbm x y=n by unfold zbm; rw [hck,hc2,hn,hz]]
       exact (List.cons.inj (show [H[0]?]=[some (.own (.raw V (n * 1)) false 9)] from hH)).1
     . intro j hj;rw [show zbm x y=n by unfold zbm; rw [hck,hc2,hn,hz]] at hj
       rw [hV j hj];unfold zcB;rw [hck,hc2]
   . refine q1a (some (2,2)) 20000 (HeK.B i q (m - 1) (ze4 V n (suf y (0+m.toNat * 1))) (n+1)) ⟨⟨hin,hm,hno,hq,t+1,by omega,by omega,by omega,by omega,fun j hj => ?_⟩,by show (m - 1+1).toNat<(m+1).toNat; omega⟩ (fun z=>zj5 x y _ _ i J q m V n z) (j6d x y _ _ i _ _ _ _) ?_
     . by_cases c:j<n
       . rw [qwz c]; exact hV j c
       . obtain rfl:j=n:=by omega
         rw [qxz];unfold zgu;rw [if_neg (by omega),show 0+m.toNat * 1=zc4 x y i - (j - i) by omega]
     . exact zaa (decide_eq_true (by omega)) (zaa ⟨by omega,by omega⟩ (zaa (by omega) (zaa (Nat.le_refl 1) (zaa (by omega) (zaa ⟨⟨by omega,by omega⟩,fun j hj=>by obtain rfl:j=0:=(by omega); rfl⟩ (zaa ⟨by omega,by omega⟩ qaa))))))
theorem jmh {V:Nat->Value} {S:Nat->ByteArray} {n:Nat} (h:∀ j,j<n->V j=.string (S j)):(Cells.raw V (n * 1)).Imp (.fn (zc8 S) n):=fun γ vs hv=>by
 obtain ⟨h1,h2⟩:vs.length=n * 1/\∀ (i:Nat) (x:Value),vs[i]? = some x->x=V i:=hv;refine ⟨by omega,fun i x hx => ?_⟩
 have hi:i<vs.length:=(List.getElem?_eq_some_iff.1 hx).1;rw [h2 i x hx,h i (by omega)]
 rfl
def zcE (v:SV) (n:Int):SV:=.tuple [v,.int .i64 (.lit n)]
def h0V (base:Nat) (x y:ByteArray):SV:=.slice ⟨base,.lit 0⟩ (.sym (cI x y+1)) (.sym (cI x y+1))
def h1V (base:Nat) (x y:ByteArray):SV:=.slice ⟨base,.lit 0⟩ (.sym (zbm x y)) (.rest base 0)
def h1E (x y:ByteArray):SO:=.own (.fn (zc8 (zcB x y)) (zbm x y)) false 9
def hieR (base:Nat) (x y:ByteArray):R zaH :=
 .fork (zax x && zax y) (.fork (zbz x y) (.fork (decide (cK x y=0)) (.ok ⟨zcE (h0V base x y) 0,[],[upE (zaP x) x]⟩) (.ok ⟨zcE (h1V base x y) 0,[],[h1E x y]⟩)) (.ok ⟨zcE .zad 9,[],[]⟩)) (.ok ⟨zcE .zad 2,[],[]⟩)
def q05:za3:=fun args _ base=>quf args fun v w=>zah (zb0 v) (.stuck 7824) fun x=>zah (zb0 w) (.stuck 7824) fun y=>hieR base x.den y.den
theorem qsm {x y:ByteArray} (h:(zax x && zax y)=true):zbl x/\zbl y:=by
 rw [Bool.and_eq_true] at h;exact ⟨zbR.1 h.1,zbR.1 h.2⟩
theorem q28 {x y:ByteArray} (h:(zax x && zax y)=false):¬ (zbl x/\zbl y):=fun ⟨h1,h2⟩=>by
 rw [qcg h1,qcg h2] at h;cases h
theorem j7d:qeb Tryd.prog 18 q05:=by
 intro glob O w0 β H w base args vs hH hG ha;refine qed fun v w' hv=>qfa fun x hx=>qfa fun y hy => ?_
 rw [hv,q8a hx,q8a hy] at ha;have ha:=qoa (q7b (t:=.sym x.den) rfl) (qoa (q7b (t:=.sym y.den) rfl) qdc) _ _ ha;generalize x.den=x at ha ⊢;generalize y.den=y at ha ⊢
 let I:Ifc:=⟨[],[],[.str (.sym x),.str (.sym y)]⟩
 have hF:I.zbQ H:=(qkd rfl).q;refine ⟨fun hv => ?_,fun hv => ?_⟩
 . obtain ⟨h1,h2⟩:=qsm hv;have hr:=jlh h1 h2;refine ⟨fun hc=>⟨fun hk => ?_,fun hk => ?_⟩,fun hc => ?_⟩
   . have hk:=of_decide_eq_true hk;refine qqc (c:=zeu) hH I (by intro g j hg; cases hg) ha hF [0] (by simp [I]) (by simp) (qec hr fun v H h => ?_)
     rcases h with ⟨h,_⟩ | ⟨_,_,rfl,h⟩ | ⟨_,h,_⟩
     . rw [hc] at h; cases h
     . have hz:((cI x y:Int)+1).toNat=cI x y+1:=by omega
       refine ⟨?_,rfl,trivial,⟨.inl ⟨_,_,_,_,h,fun _=>rfl,Cells.Imp.refl _,rfl⟩,trivial⟩⟩;show SV.Imp (zcE (.slice ⟨base,.lit 0⟩ (.sym ((cI x y:Int)+1).toNat) (.sym ((cI x y:Int)+1).toNat)) 0) _;rw [hz];exact .refl _
     . exact absurd hk h
   . have hk:=of_decide_eq_false hk;refine qqc (c:=zeu) hH I (by intro g j hg; cases hg) ha hF [0] (by simp [I]) (by simp) (qec hr fun v H h => ?_)
     rcases h with ⟨h,_⟩ | ⟨_,h,_⟩ | ⟨_,_,V,rfl,h,hV⟩
     . rw [hc] at h; cases h
     . exact absurd h hk
     . exact ⟨.refl _,rfl,trivial,⟨.inl ⟨_,_,_,_,h,trivial,jmh hV,rfl⟩,trivial⟩⟩
   . refine qqc (c:=zeu) hH I (by intro g j hg; cases hg) ha hF [] (by simp [I]) (by simp) (qec hr fun v H h => ?_)
     rcases h with ⟨_,rfl⟩ | ⟨h,_⟩ | ⟨h,_⟩
     . exact ⟨.refl _,rfl,trivial,trivial⟩
     . rw [hc] at h; cases h
     . rw [hc] at h; cases h
 . refine qcb (zfz.at none) 20000 hH I (by intro g j hg; cases hg) ha hF [] (by simp [I]) (by simp) (q0a (jtk x y) (zaa (q18 x y) (zaa ?_ qaa)) fun H2 _=>⟨.refl _,rfl,trivial,trivial⟩)
   rw [q8b fun h=>q28 hv (zeC.1 h)]; rfl
end
noncomputable section
open Go.Sim
open Go.Proofs
open Go.Sort
open Go.Bfs
variable {α:Type}
def rlPa:List (FuncId × za3):=[(35,seSm),(34,zgJ)]
theorem jvk:∀ y∈rlPa,qeb Tryd.prog y.1 y.2:=zcu seOK (all1 qhw)
def q15:Cfg:=qhc (qkc rlPa)
theorem q8c:zaC q15:=qpc jvk
section
variable (es:List MapEntry) (c:Nat) (x y:ByteArray)
def paT:Tree:=qka q15 4000 10 [.ptr ⟨0,.lit 0⟩,.str (.sym x),.str (.sym y)] [.row (.lst [.map 1]),.obj (.zaU kPr vBo es c)]
def paZ:Tree:=qka q15 4000 10 [.ptr ⟨0,.lit 0⟩,.str (.sym x),.str (.sym y)] [.row (.lst [.zau])]
def rlQ (b:Bool):Prop:=(!cB (zeG (twS x y)))=b
def amE:SO:=.obj (.zaU kPr vBo es c)
def zgo (nm:Nat):SV:=.slice ⟨nm,.lit 0⟩ (.lit 1) (.lit 1)
def q25:SO:=.own (.lst [.str (.sym x)]) true 9
theorem q38:za4 [1] (paT es c x y) [true]=([(twS x y).ok,rlQ x y true],some (zcE .zad 2,[some (amE es c)])):=by kernel_rfl
theorem q48:za4 [1,3] (paT es c x y) [false,true]=([(twS x y).ok,rlQ x y false,decide (x=y)=true],some (zcE (zgo 3) 0,[some (amE es c),some (q25 x)])):=by kernel_rfl
theorem qn2:za4 [1,3] (paT es c x y) [false,false,true]=([(twS x y).ok,rlQ x y false,decide (x=y)=false,agG es c,(zbI es x y).isSome=true],some (zcE (zft 3 (seQ es x y)) 0,[some (amE es c),some (zi7 (seQ es x y))])):=by kernel_rfl
theorem qo2:za4 [1] (paT es c x y) [false,false,false]=([(twS x y).ok,rlQ x y false,decide (x=y)=false,agG es c,(zbI es x y).isSome=false],some (zcE .zad 9,[some (amE es c)])):=by kernel_rfl
theorem q58:za4 [] (paZ x y) [true]=([(twS x y).ok,rlQ x y true],some (zcE .zad 2,[])):=by kernel_rfl
theorem q68:za4 [2] (paZ x y) [false,true]=([(twS x y).ok,rlQ x y false,decide (x=y)=true],some (zcE (zgo 2) 0,[some (q25 x)])):=by kernel_rfl
theorem qp2:za4 [] (paZ x y) [false,false]=([(twS x y).ok,rlQ x y false,decide (x=y)=false],some (zcE .zad 9,[])):=by kernel_rfl
def paR (base:Nat):R zaH :=
 .fork (zax x && zax y) (.fork (decide (x=y)) (.ok ⟨zcE (zgo base) 0,[],[q25 x]⟩) (.need (agG es c) (.fork (zbI es x y).isSome (.ok ⟨zcE (zft base (seQ es x y)) 0,[],[zi7 (seQ es x y)]⟩) (.ok ⟨zcE .zad 9,[],[]⟩)))) (.ok ⟨zcE .zad 2,[],[]⟩)
end
theorem q7c {x y:ByteArray} {b:Bool} (h:(zax x && zax y)=b):rlQ x y (!b):=by
 unfold rlQ;congr 1;cases b with
 | true=>exact qrc (zd6.2 (qsm h))
 | false=>exact q8b fun hc=>q28 h (zd6.1 hc)
def q35 (H:List SO) (p:SV) (f:Nat->Option Nat->List MapEntry->Nat->R α):R α:=zah (q7o p) (.stuck 7851) fun m=>zah (nth H m) (.stuck 7852) fun e=>zah (q9o e) (.stuck 7853) fun s =>
 zab (qkj s) (f m none [] 0) (zah (qkm s) (.stuck 7854) fun mm=>zah (nth H mm) (.stuck 7855) fun e=>match e with
  | .obj (.zaU k v es c)=>zab (qnm k) (zab (q8o v) (zab (qmg [m,mm]) (f m (some mm) es c) (.stuck 7856)) (.stuck 7856)) (.stuck 7856)
  | _=>.stuck 7857)
theorem q0u {H:List SO} {p:SV} {f:Nat->Option Nat->List MapEntry->Nat->R α} {φ:α->Prop}
  (h0:∀ m e,p=.ptr ⟨m,.lit 0⟩->H[m]? = some e->(e=.row (.lst [.zau])\/∃ w el,e=.own (.lst [.zau]) w el)->(f m none [] 0).Sat φ)
  (h1:∀ m mm e es c,p=.ptr ⟨m,.lit 0⟩->H[m]? = some e->(e=.row (.lst [.map mm])\/∃ w el,e=.own (.lst [.map mm]) w el)->H[mm]? = some (.obj (.zaU kPr vBo es c))->[m,mm].Nodup->(f m (some mm) es c).Sat φ):(q35 H p f).Sat φ:=by
 refine qfa fun m hm=>qfa fun e he=>qfa fun s hs => ?_
 have hs:=qli hs;rw [qda] at he;refine R.Sat.zab (fun hnl => ?_) fun _=>qfa fun mm hmm=>qfa fun e2 he2 => ?_
 . rw [qqf hnl] at hs;exact h0 m e (qbe hm) he hs
 . split
   . rename_i k v es c;refine qgb fun hk=>qgb fun hv=>qgb fun hd => ?_
     rw [qhf hmm] at hs;rw [qda,qvg hk,qki hv] at he2;exact h1 m mm e es c (qbe hm) he hs he2 (qtd hd)
   . trivial
def paSm:za3:=fun args H base=>q4o args fun p xv yv=>zah (zb0 xv) (.stuck 7850) fun x=>zah (zb0 yv) (.stuck 7850) fun y=>q35 H p fun _ _ es c=>paR es c x.den y.den base
theorem qbp {I:Ifc} {base nm:Nat} (h:I.names.length<=nm):((zcE (zgo nm) 0).ren (I.out base [nm])).Imp (zcE (zgo base) 0):=by
 show SV.Imp (zcE (.slice ⟨I.out base [nm] nm,.lit 0⟩ (.lit 1) (.lit 1)) 0) _;rw [zhx h];exact .refl _
theorem qq2 {I:Ifc} {base nm:Nat} {q:Pth} (h:I.names.length<=nm):((zcE (zft nm q) 0).ren (I.out base [nm])).Imp (zcE (zft base q) 0):=by
 show SV.Imp (zcE (.slice ⟨I.out base [nm] nm,.lit 0⟩ (.sym q.length) (.rest (I.out base [nm] nm) 0)) 0) _;rw [zhx h];exact .refl _
theorem qcp {I:Ifc} {nm:Nat}:(zcE (zgo nm) 0).uses (I.seen [nm])=true:=by
 show ((I.seen [nm] nm && true) && true)=true;rw [qfw]; rfl
theorem qr2 {I:Ifc} {nm:Nat} {q:Pth}:(zcE (zft nm q) 0).uses (I.seen [nm])=true:=by
 show ((I.seen [nm] nm && I.seen [nm] nm) && true)=true;rw [qfw]; rfl
theorem paOK:qeb Tryd.prog 10 paSm:=by
 intro glob O w0 β H w base args vs hH hG ha;refine q1h fun p xv yv hv=>qfa fun x hx=>qfa fun y hy => ?_
 rw [hv,q8a hx,q8a hy] at ha;have ha:=qoa (.refl p) (qoa (q7b (t:=.sym x.den) rfl) (qoa (q7b (t:=.sym y.den) rfl) qdc)) _ _ ha;generalize x.den=x at ha ⊢;generalize y.den=y at ha ⊢;refine q0u (fun m e hp he hs => ?_) fun m mm e es c hp he hs he2 hd => ?_
 . rw [hp] at ha
   let I:Ifc:=⟨[m],[.row (.lst [.zau])],[.ptr ⟨0,.lit 0⟩,.str (.sym x),.str (.sym y)]⟩
   have hF:I.zbQ H:=Ifc.zbV (by simp [I]) rfl ⟨⟨⟨_,he,qpe hs rfl⟩,rfl⟩,trivial⟩
   refine ⟨fun hr=>⟨fun hxy => ?_,fun hxy=>fun hg=>⟨fun hb => ?_,fun hb => ?_⟩⟩,fun hr => ?_⟩
   . exact qcb q8c 4000 hH I (by intro g j hg; cases hg) ha hF [2] (by simp [I]) (by simp) (q0a (q68 x y) (zaa (q0c x y) (zaa (q7c hr) (zaa hxy qaa))) fun H2 hH2=>⟨qbp (by simp [I]),qcp,trivial,⟨.inl ⟨_,_,_,_,(List.cons.inj hH2).1,rfl,Cells.zaR rfl,rfl⟩,trivial⟩⟩)
   . rw [qzf rfl] at hb; cases hb
   . exact qcb q8c 4000 hH I (by intro g j hg; cases hg) ha hF [] (by simp) (by simp) (q0a (qp2 x y) (zaa (q0c x y) (zaa (q7c hr) (zaa hxy qaa))) fun H2 _=>⟨.refl _,rfl,trivial,trivial⟩)
   . exact qcb q8c 4000 hH I (by intro g j hg; cases hg) ha hF [] (by simp) (by simp) (q0a (q58 x y) (zaa (q0c x y) (zaa (q7c hr) qaa)) fun H2 _=>⟨.refl _,rfl,trivial,trivial⟩)
 . rw [hp] at ha
   let I:Ifc:=⟨[m,mm],[.row (.lst [.map 1]),.obj (.zaU kPr vBo es c)],[.ptr ⟨0,.lit 0⟩,.str (.sym x),.str (.sym y)]⟩
   have hF:I.zbQ H:=Ifc.zbV hd rfl ⟨⟨⟨_,he,qpe hs rfl⟩,rfl⟩,⟨⟨_,he2,_,rfl,fun _ _ h=>h⟩,rfl⟩,trivial⟩;have hS:∀ (keep:List Nat) {H2:List SO},H2[1]? = some (amE es c)->zcC I.big (I.seen keep) (I.out base keep) H2 (qpb I.ents 0) [(mm,.obj (.zaU kPr vBo es c))]:=fun keep H2 h0=>⟨⟨rfl,.inr ⟨_,_,h0,rfl,fun _ _ h=>h,rfl⟩⟩,trivial⟩;refine ⟨fun hr=>⟨fun hxy => ?_,fun hxy=>fun hg=>⟨fun hb => ?_,fun hb => ?_⟩⟩,fun hr => ?_⟩
   . refine qce (k':=kPr) (v':=vBo) hH he2 ?_
     exact qcb q8c 4000 hH I (by intro g j hg; cases hg) ha hF [3] (by simp [I]) (by simp) (q0a (q48 es c x y) (zaa (q0c x y) (zaa (q7c hr) (zaa hxy qaa))) fun H2 hH2=>⟨qbp (by simp [I]),qcp,hS _ (List.cons.inj hH2).1,⟨.inl ⟨_,_,_,_,(List.cons.inj (List.cons.inj hH2).2).1,rfl,Cells.zaR rfl,rfl⟩,trivial⟩⟩)
   . refine qce (k':=kPr) (v':=vBo) hH he2 ?_
     exact qcb q8c 4000 hH I (by intro g j hg; cases hg) ha hF [3] (by simp [I]) (by simp) (q0a (qn2 es c x y) (zaa (q0c x y) (zaa (q7c hr) (zaa hxy (zaa hg (zaa hb qaa))))) fun H2 hH2=>⟨qq2 (by simp [I]),qr2,hS _ (List.cons.inj hH2).1,⟨.inl ⟨_,_,_,_,(List.cons.inj (List.cons.inj hH2).2).1,fun _=>rfl,Cells.zaR rfl,rfl⟩,trivial⟩⟩)
   . refine qce (k':=kPr) (v':=vBo) hH he2 ?_
     exact qcb q8c 4000 hH I (by intro g j hg; cases hg) ha hF [] (by simp) (by simp) (q0a (qo2 es c x y) (zaa (q0c x y) (zaa (q7c hr) (zaa hxy (zaa hg (zaa hb qaa))))) fun H2 hH2=>⟨.refl _,rfl,hS _ (List.cons.inj hH2).1,trivial⟩)
   . refine qce (k':=kPr) (v':=vBo) hH he2 ?_
     exact qcb q8c 4000 hH I (by intro g j hg; cases hg) ha hF [] (by simp) (by simp) (q0a (q38 es c x y) (zaa (q0c x y) (zaa (q7c hr) qaa)) fun H2 hH2=>⟨.refl _,rfl,hS _ (List.cons.inj hH2).1,trivial⟩)
end
noncomputable section
open Go.Sim
open Go.Proofs
open Go.Sort
open Go.Bfs
variable {α:Type}
def rlNx:List (FuncId × za3):=[(10,paSm),(34,zgJ),(18,q05),(17,zjm)]
theorem jwk:∀ y∈rlNx,qeb Tryd.prog y.1 y.2:=zcu paOK (zcu qhw (zcu j7d (all1 mtOK)))
def zdB:Cfg:=qhc (qkc rlNx)
theorem qal:zaC zdB:=qpc jwk
section
variable (mn kz:Bool) (es:List MapEntry) (c:Nat) (x y:ByteArray) (i:Int) (J:zaQ)
def nqA:List SO:=zab mn [.row (.lst [.zau])] [.row (.lst [.map 1]),.obj (.zaU kPr vBo es c)]
def nqR (st:Option (Nat × Nat)) (n:Nat):Tree:=qka (zdB.at st) n 12 [.ptr ⟨0,.lit 0⟩,.str (.sym x),.str (.sym y)] (nqA mn es c)
def zhz:SS:=qub (nqR mn es c x y (some (2,2)) 2000) [false,false,true,true,kz]
def nqE (j:Nat):HP:=.ent ((nth (zhz mn kz es c x y).heap j).getD .gone)
def nqF (j:Nat):List SV:=zah (nth (zhz mn kz es c x y).frames j) [] fun f=>f.tmps
def nq8:List Nat:=[0,1,2,3,4,6,7]
def nqLP (j:Nat):HP:=qes (nth (zhz mn kz es c x y).heap j) (qji (nqF mn kz es c x y 1) nq8)
def nqEs:List HP:=zab mn [nqE mn kz es c x y 0,nqE mn kz es c x y 1,nqE mn kz es c x y 2,nqE mn kz es c x y 3,nqE mn kz es c x y 4,nqE mn kz es c x y 5,nqE mn kz es c x y 6,nqE mn kz es c x y 7,nqE mn kz es c x y 8,nqLP mn kz es c x y 9]
 [nqE mn kz es c x y 0,nqE mn kz es c x y 1,nqE mn kz es c x y 2,nqE mn kz es c x y 3,nqE mn kz es c x y 4,nqE mn kz es c x y 5,nqE mn kz es c x y 6,nqE mn kz es c x y 7,nqE mn kz es c x y 8,nqE mn kz es c x y 9,nqLP mn kz es c x y 10]
def nqC:Cut:=⟨q0b (zhz mn kz es c x y).frames [app (qji (nqF mn kz es c x y 0) [0,1]) [(3,.int .i64 (.sym i))],qji (nqF mn kz es c x y 1) nq8],nqEs mn kz es c x y⟩
def nqS (st:Option (Nat × Nat)) (n:Nat):Tree:=za9 (zdB.at st) n ((nqC mn kz es c x y i).fill J)
def nqN:List Nat:=zab mn [0,1,2,3,4,5,6,7,8,9] [0,1,2,3,4,5,6,7,8,9,10]
def nqM:Nat:=zab mn 10 11
def nqJ:List Nat:=zab mn [] [1]
def nqO:List (Option SO):=zab mn [] [some (amE es c)]
variable (z:Nat->Nat->Nat)
def hiM:Nat:=zab kz (cI x y+1) (zbm x y)
def hiR:Nat:=zab kz (Nat.succ (dep x)) (zbm x y)
def hiS:ByteArray:=zab kz (suf x (0+i.toNat * 1)) (zcB x y (0+i.toNat * 1))
def sE (s:ByteArray) (e:Int):SV:=.tuple [.str (.sym s),.int .i64 (.lit e)]
def noE (e:Int):SV:=.tuple [.str (.lit .empty),.int .i64 (.lit e)]
def nqG:List Prop:=[(twS x y).ok,rlQ x y false,decide (x=y)=false]
theorem jnh:zaq [] (nqC mn kz es c x y ((hiM kz x y:Int) - 1)) (nqN mn) (nqR mn es c x y (some (2,2)) 20000) [false,false,true,true,kz] z=(app (nqG x y) [(zax x && zax y)=true,zbz x y=true,decide (cK x y=0)=kz,qna ((hiM kz x y:Int) - 1)],some (.inr (qja (nqN mn) (nqM mn) (nqC mn kz es c x y ((hiM kz x y:Int) - 1))))):=by cases mn <;> cases kz <;> kernel_rfl
theorem zjf:zab (qua (zab mn 1 2) (nqN mn) (nqC mn kz es c x y i) (nqC mn kz es c x y i)) (zaO qpa (nqC mn kz es c x y i).heap) false=true:=by cases mn <;> cases kz <;> kernel_rfl
def nqB (q:List Prop):List Prop:=(decide (i>=0)=true)::((0:Int)<=i/\i<(hiM kz x y:Int))::(0+i.toNat * 1<hiR kz x y)::q
theorem joh:zaq [] (nqC false kz es c x y (i - 1)) (nqN false) (nqS false kz es c x y i J (some (2,2)) 20000) [true,false] z=(nqB kz x y i [mtB es x (hiS kz x y i)=false,qna (i - 1)],some (.inr (qja (nqN false) (nqM false) (nqC false kz es c x y (i - 1))))):=by cases kz <;> kernel_rfl
theorem j4b:zaq [] (nqC true kz es c x y (i - 1)) (nqN true) (nqS true kz es c x y i J (some (2,2)) 20000) [true] z=(nqB kz x y i [qna (i - 1)],some (.inr (qja (nqN true) (nqM true) (nqC true kz es c x y (i - 1))))):=by cases kz <;> kernel_rfl
theorem jxk:zaq [1] (nqC false kz es c x y i) (nqN false) (nqS false kz es c x y i J none 20000) [true,true] z=(nqB kz x y i [mtB es x (hiS kz x y i)=true],some (.inl (sE (hiS kz x y i) 0,[some (amE es c)]))):=by cases kz <;> kernel_rfl
def q1S:ByteArray:=qic (seQ es x y) (0+1 * 1)
def nqK (q:List Prop):List Prop:=((zax x && zax y)=true)::(decide (x=y)=false)::(agG es c)::q
def nqL:List Prop:=[(zbI es x y).isSome=true,decide (((seQ es x y).length:Int)<2)=false,1<(seQ es x y).length,1<(seQ es x y).length]
theorem jph:zaq [1] (nqC false kz es c x y i) (nqN false) (nqS false kz es c x y i J none 20000) [false,true,false,true,false] z=((decide (i>=0)=false)::nqK es c x y (nqL es x y),some (.inl (sE (q1S es x y) 0,[some (amE es c)]))):=by cases kz <;> kernel_rfl
theorem zje:zaq (nqJ mn) (nqC mn kz es c x y i) (nqN mn) (nqS mn kz es c x y i J none 20000) [false,true,false,false] z=((decide (i>=0)=false)::nqK (zab mn [] es) (zab mn 0 c) x y [(zbI (zab mn [] es) x y).isSome=false],some (.inl (noE 9,nqO mn es c))):=by cases mn <;> cases kz <;> kernel_rfl
theorem j5b:za4 [1] (nqR false es c x y none 20000) [false,false,true,false,true,false,true,false]=(app (nqG x y) (((zax x && zax y)=true)::(zbz x y=false)::nqK es c x y (nqL es x y)),some (sE (q1S es x y) 0,[some (amE es c)])):=by kernel_rfl
theorem jyk:za4 (nqJ mn) (nqR mn es c x y none 20000) [false,false,true,false,true,false,false]=(app (nqG x y) (((zax x && zax y)=true)::(zbz x y=false)::nqK (zab mn [] es) (zab mn 0 c) x y [(zbI (zab mn [] es) x y).isSome=false]),some (noE 9,nqO mn es c)):=by cases mn <;> kernel_rfl
theorem jzk:za4 (nqJ mn) (nqR mn es c x y none 20000) [true,true,true,true]=((twS x y).ok::zba (rlQ x y true) 4,some (noE 2,nqO mn es c)):=by cases mn <;> kernel_rfl
theorem jqh:za4 (nqJ mn) (nqR mn es c x y none 20000) [false,true]=([(twS x y).ok,rlQ x y false,decide (x=y)=true],some (noE 2,nqO mn es c)):=by cases mn <;> kernel_rfl
end
end
end Go.Proofs.YtbhlngmhgplepaaDoor.Aes
namespace Go.Bfs
noncomputable section
def zep (f:Nat->Bool):Nat->Option Nat
 | 0=>none
 | n+1=>Go.Sim.zab (f n) (some n) (zep f n)
theorem q1u {f:Nat->Bool} {i:Nat} (hf:f i=true):∀ {n:Nat},i<n->(∀ j,i<j->j<n->f j=false)->zep f n=some i
 | 0,h,_=>absurd h (Nat.not_lt_zero _)
 | n+1,h,hn=>by
   unfold zep;by_cases hi:i=n
   . subst hi; rw [hf]; rfl
   . rw [hn n (by omega) (by omega)]
     exact q1u hf (by omega) fun j h1 h2=>hn j h1 (by omega)
theorem q2u {f:Nat->Bool}:∀ {n:Nat},(∀ j,j<n->f j=false)->zep f n=none
 | 0,_=>rfl
 | n+1,h=>by
   unfold zep;rw [h n (by omega)]
   exact q2u fun j hj=>h j (by omega)
theorem qyz {p:Pth} {q:Pth} (hp:p≠[]):∀ {r seen:List Str},q∈(ext p r seen).1->2<=q.length
 | [],_,h=>by cases h
 | b::r,seen,h=>by
   by_cases hb:b∈seen
   . rw [qde hb] at h; exact qyz hp h
   . rw [qjf hb] at h;rcases List.mem_cons.1 h with rfl | h
     . have:=List.length_pos_iff.2 hp;rw [List.length_append]; simp; omega
     . exact qyz hp h
theorem qht {S:Pth->List Str} {q:Pth}:∀ {L:List Pth} {seen:List Str},(∀ p∈L,p≠[])->q∈(step S L seen).1->2<=q.length
 | [],_,_,h=>by cases h
 | p::r,seen,hL,h=>by
   rw [step] at h;rcases List.mem_append.1 h with h | h
   . exact qyz (hL p List.mem_cons_self) h
   . exact qht (fun p hp=>hL p (List.mem_cons_of_mem _ hp)) h
theorem Bfs.two {S:Pth->List Str} {y:Str} {L:List Pth} {seen:List Str} {o:Option Pth} (h:Bfs S y L seen o) (hL:∀ p∈L,p≠[]) {q:Pth} (ho:o=some q):2<=q.length:=by
 induction h with
 | found hf =>
   cases ho;exact qht hL (List.mem_of_find?_eq_some hf)
 | over=>cases ho
 | next _ _ _ ih =>
   refine ih (fun p hp => ?_) ho;have:=qht hL hp;intro e;rw [e] at this;simp at this
theorem qzz {N:List Str} {p:Pth}:∀ {r seen:List Str},(∀ b∈r,b∈N)->un N (ext p r seen).2+(ext p r seen).1.length<=un N seen
 | [],_,_=>Nat.le_refl _
 | b::r,seen,h=>by
   by_cases hb:b∈seen
   . rw [qde hb]; exact qzz fun b' h'=>h b' (List.mem_cons_of_mem _ h')
   . rw [qjf hb];have h1:=jzd (h b List.mem_cons_self) hb;have h2:=qzz (p:=p) (r:=r) (seen:=seen++[b]) fun b' h'=>h b' (List.mem_cons_of_mem _ h');simp only [List.length_cons];omega
theorem qdp {N:List Str} {S:Pth->List Str} (hS:∀ q b,b∈S q->b∈N):∀ {L:List Pth} {seen:List Str},un N (step S L seen).2+(step S L seen).1.length<=un N seen
 | [],_=>Nat.le_refl _
 | p::r,seen=>by
   rw [step];have h1:=qzz (N:=N) (p:=p) (r:=S p) (seen:=seen) (hS p);have h2:=qdp hS (L:=r) (seen:=(ext p (S p) seen).2);simp only [List.length_append];omega
theorem Bfs.ex {N:List Str} {S:Pth->List Str} (hS:∀ q b,b∈S q->b∈N) (y:Str):∀ (k:Nat) (L:List Pth) (seen:List Str),un N seen<=k->∃ o,Bfs S y L seen o:=by
 intro k;induction k with
 | zero =>
   intro L seen hk;have:=qdp hS (L:=L) (seen:=seen);exact ⟨none,.over (List.length_eq_zero_iff.1 (by omega))⟩
 | succ k ih =>
   intro L seen hk;have h1:=qdp hS (L:=L) (seen:=seen);cases hf:(step S L seen).1.find? (qkf y) with
   | some q=>exact ⟨some q,.found hf⟩
   | none =>
     by_cases he:(step S L seen).1=[]
     . exact ⟨none,.over he⟩
     . have:=List.length_pos_iff.2 he;obtain ⟨o,ho⟩:=ih (step S L seen).1 (step S L seen).2 (by omega)
       exact ⟨o,.next hf he ho⟩
end
end Go.Bfs
namespace Go.Proofs.YtbhlngmhgplepaaDoor.Aes
noncomputable section
open Go.Sim
open Go.Proofs
open Go.Sort
open Go.Bfs
variable {α:Type}
def zcg (es:List MapEntry) (x y:ByteArray):ByteArray × Int :=
 zab (zax x && zax y) (zab (decide (x=y)) (.empty,2) (zah (zab (zbz x y) (zep (fun j=>mtB es x (zcB x y j)) (zbm x y)) none) (zah (zbI es x y) (.empty,9) fun q=>(qic q 1,0)) fun j=>(zcB x y j,0))) (.empty,2)
def nxI (mn:Bool) (es:List MapEntry):List MapEntry:=zab mn [] es
def nqD (mn:Bool) (es:List MapEntry) (c:Nat) (x y:ByteArray) (v:SV) (H:List SO):Prop :=
 (∃ s e,v=.tuple [.str s,.int .i64 e]/\s.den=(zcg (nxI mn es) x y).1/\e.den=(zcg (nxI mn es) x y).2)/\(mn=false->H[1]? = some (amE es c))
theorem q45 {x y:ByteArray} (h:zbz x y=true):cI x y<=dep x:=by
 unfold zbz at h;unfold cI;cases ho:zf5 x y with
 | none=>rw [ho] at h; cases h
 | some i =>
   have:=List.mem_of_find?_eq_some ho;have:=List.mem_range.1 this;show i<=_;omega
theorem zkz {x y:ByteArray} (h:zbz x y=true):cK x y<=dep y:=by
 unfold cK;unfold zbz at h;unfold cI;cases ho:zf5 x y with
 | none=>rw [ho] at h; cases h
 | some i =>
   have h1:=List.find?_some ho;exact (qah (zbR.1 h1)).1
theorem jrh {es:List MapEntry} {x y:ByteArray} {q:Pth} (h:SrB es x y (some q)):2<=q.length:=h.two (fun p hp=>by rw [List.mem_singleton.1 hp]; simp) rfl
section
variable {mn:Bool} {es:List MapEntry} {c:Nat} {x y:ByteArray}
theorem qep (hr:(zax x && zax y)=true) (hxy:decide (x=y)=false) (hn:zab (zbz x y) (zep (fun j=>mtB (nxI mn es) x (zcB x y j)) (zbm x y)) none=none):zcg (nxI mn es) x y=zah (zbI (nxI mn es) x y) (.empty,9) fun q=>(qic q 1,0):=by
 unfold zcg;rw [hr,hxy,hn]; rfl
theorem qs2 (hr:(zax x && zax y)=true) (hxy:decide (x=y)=false) (hn:zab (zbz x y) (zep (fun j=>mtB es x (zcB x y j)) (zbm x y)) none=none) (hb:(zbI es x y).isSome=true) (hl:2<=(seQ es x y).length) :
  zcg es x y=(q1S es x y,0)/\∀ p∈nqL es x y,p:=by
 constructor
 . have:=qep (mn:=false) (es:=es) hr hxy hn;rw [show zcg es x y=zcg (nxI false es) x y from rfl,this]
   unfold q1S seQ;show zah (zbI es x y) _ _=_;cases hq:zbI es x y with
   | none=>rw [hq] at hb; cases hb
   | some q=>rfl
 . exact zaa hb (zaa (decide_eq_false (by omega)) (zaa (by omega) (zaa (by omega) qaa)))
theorem q0z (es:List MapEntry) (x y:ByteArray):SrB es x y (zbI es x y):=by
 obtain ⟨o,ho⟩:=Bfs.ex (N:=(srL es).map (·.2)) (fun q b h=>qgt h) y _ [[x]] [x] (Nat.le_refl _)
 rw [q9k ho]; exact ho
theorem q78 (hb:(zbI es x y).isSome=true):2<=(seQ es x y).length:=by
 obtain ⟨o,ho⟩:∃ o,SrB es x y o:=⟨_,q0z es x y⟩;have e:=q9k ho;unfold seQ;rw [e] at hb ⊢;cases o with
 | none=>cases hb
 | some q=>exact jrh ho
theorem q5h {kz:Bool} (hk:decide (cK x y=0)=kz):hiM kz x y=zbm x y:=by
 cases kz with
 | false=>rfl
 | true =>
   have:cK x y=0:=of_decide_eq_true hk;show cI x y+1=cI x y+1+cK x y;omega
theorem q1z {kz:Bool} (hk:decide (cK x y=0)=kz) (hc:zbz x y=true):zbm x y<=hiR kz x y:=by
 cases kz with
 | false=>exact Nat.le_refl _
 | true =>
   have:cK x y=0:=of_decide_eq_true hk;have:=q45 hc;show cI x y+1+cK x y<=dep x+1;omega
theorem q2z {kz:Bool} (hk:decide (cK x y=0)=kz) {i:Int} (h1:i<(zbm x y:Int)):hiS kz x y i=zcB x y i.toNat:=by
 unfold hiS;rw [Nat.mul_one,Nat.zero_add];cases kz with
 | false=>rfl
 | true =>
   have h2:cK x y=0:=of_decide_eq_true hk;have h3:zbm x y=cI x y+1+cK x y:=rfl;show suf x i.toNat=_;unfold zcB zgu;rw [if_pos (by omega)]
theorem q3u (s:ByteArray):dep s<=16:=by
 have:∀ n s,zdl n s<=n:=by
  intro n;induction n with
  | zero=>intro s; exact Nat.le_refl _
  | succ n ih =>
    intro s;show zab (zaP s) (Nat.succ (zdl n (zb4 s))) 0<=n+1;cases zaP s with
    | false=>exact Nat.zero_le _
    | true=>exact Nat.succ_le_succ (ih _)
 exact this 16 s
theorem qtm (hc:zbz x y=true):zbm x y<=40:=by
 have h1:=q45 hc;have h2:=zkz hc;have h3:=q3u x;have h4:=q3u y;show cI x y+1+cK x y<=40;omega
theorem q3z (h:∀ j,j<zbm x y->mtB es x (zcB x y j)=false):zab (zbz x y) (zep (fun j=>mtB es x (zcB x y j)) (zbm x y)) none=none:=by
 cases zbz x y with
 | false=>rfl
 | true=>exact q2u h
section
variable (hr:(zax x && zax y)=true) (hxy:decide (x=y)=false)
include hr hxy
theorem j0k (kz:Bool) (hg:agG (nxI mn es) (zab mn 0 c)) {i:Int} (hi:¬ i>=0) (hn:∀ j,j<zbm x y->mtB (nxI mn es) x (zcB x y j)=false) (J:zaQ) {A:Type} {C:A->Cut} {Q:A->Prop} {k0:Nat}:qlb zdB k0 C Q (nqD mn es c x y) ((nqC mn kz es c x y i).fill J):=by
 have hd:decide (i>=0)=false:=decide_eq_false hi;have hP:=qep (mn:=mn) (es:=es) hr hxy (q3z hn);cases hb:(zbI (nxI mn es) x y).isSome with
 | true =>
   cases mn with
   | true=>rw [show nxI true es=[] from rfl,qzf rfl] at hb; cases hb
   | false =>
     obtain ⟨h1,h2⟩:=qs2 (es:=es) hr hxy (q3z hn) hb (q78 hb);refine qza none 20000 (fun z=>jph kz es c x y i J z) (zaa hd (zaa hr (zaa hxy (zaa hg h2)))) fun H hH=>⟨⟨_,_,rfl,?_,?_⟩,fun _=>(List.cons.inj hH).1⟩
     . show q1S es x y=(zcg es x y).1;rw [h1]
     . show (0:Int)=(zcg es x y).2;rw [h1]
 | false =>
   have hP':zcg (nxI mn es) x y=(.empty,9):=by
    rw [hP];cases hq:zbI (nxI mn es) x y with
    | none=>rfl
    | some q=>rw [hq] at hb; cases hb
   refine qza none 20000 (fun z=>zje mn kz es c x y i J z) (zaa hd (zaa hr (zaa hxy (zaa hg (zaa hb qaa))))) fun H hH=>⟨⟨_,_,rfl,?_,?_⟩,fun hm => ?_⟩
   . show ByteArray.empty=_;rw [hP']
   . show (9:Int)=_;rw [hP']
   . subst hm;exact (List.cons.inj hH).1
theorem jsh (hg:agG (nxI mn es) (zab mn 0 c)) (hc:zbz x y=true):Runs zdB 12 [.ptr ⟨0,.lit 0⟩,.str (.sym x),.str (.sym y)] (nqA mn es c) (nqD mn es c x y):=by
 obtain ⟨kz,hk⟩:∃ kz,decide (cK x y=0)=kz:=⟨_,rfl⟩;have hM:=q5h hk;have hRl:=q1z hk hc;have hsm:=qtm hc;have hpos:1<=zbm x y:=by show 1<=cI x y+1+cK x y; omega
 have hlen:(nqA mn es c).length=zab mn 1 2:=by cases mn <;> rfl
 have hB:∀ {i:Int} {q:List Prop},0<=i->i<(zbm x y:Int)->(∀ p∈q,p)->∀ p∈nqB kz x y i q,p:=fun {i q} h0 h1 hq=>zaa (decide_eq_true h0) (zaa ⟨h0,by rw [hM]; exact h1⟩ (zaa (by omega) hq))
 refine q6d qal (nqC mn kz es c x y) (fun i => -1<=i/\i<(zbm x y:Int)/\∀ j:Nat,i<(j:Int)->j<zbm x y->mtB (nxI mn es) x (zcB x y j)=false) (fun i=>(i+1).toNat) (fun g nm hg=>by cases hg) ?_ fun i hi J => ?_
 . rw [hlen];refine qfm (some (2,2)) 20000 ((hiM kz x y:Int) - 1) ⟨by omega,by omega,fun j h1 h2=>by omega⟩ (fun z=>jnh mn kz es c x y z) (zjf mn kz es c x y _) (qbb (zaa (q0c x y) (zaa (q7c hr) (zaa hxy qaa))) (zaa hr (zaa hc (zaa hk (zaa ⟨by omega,by omega⟩ qaa)))))
 . rw [hlen];obtain ⟨h1,h2,h3⟩:=hi;by_cases h0:i>=0
   . have hS:=q2z hk h2;have hin:i.toNat<zbm x y:=by omega
     have hnext:mtB (nxI mn es) x (zcB x y i.toNat)=false->∀ j:Nat,i - 1<(j:Int)->j<zbm x y->mtB (nxI mn es) x (zcB x y j)=false:=fun hf j h4 h5=>by
      by_cases e:(j:Int)=i
      . rw [show j=i.toNat by omega]; exact hf
      . exact h3 j (by omega) h5
     cases mn with
     | true =>
       exact q1a (some (2,2)) 20000 (i - 1) ⟨⟨by omega,by omega,hnext rfl⟩,by omega⟩ (fun z=>j4b kz es c x y i J z) (zjf true kz es c x y _) (hB h0 h2 (zaa ⟨by omega,by omega⟩ qaa))
     | false =>
       cases hf:mtB es x (zcB x y i.toNat) with
       | false =>
         exact q1a (some (2,2)) 20000 (i - 1) ⟨⟨by omega,by omega,hnext hf⟩,by omega⟩ (fun z=>joh kz es c x y i J z) (zjf false kz es c x y _) (hB h0 h2 (zaa (by rw [hS]; exact hf) (zaa ⟨by omega,by omega⟩ qaa)))
       | true =>
         have hP:zcg es x y=(zcB x y i.toNat,0):=by
          unfold zcg;rw [hr,hxy,hc,show zab true (zep (fun j=>mtB es x (zcB x y j)) (zbm x y)) none=some i.toNat from q1u hf hin fun j h4 h5=>h3 j (by omega) h5]
          rfl
         refine qza none 20000 (fun z=>jxk kz es c x y i J z) (hB h0 h2 (zaa (by rw [hS]; exact hf) qaa)) fun H hH=>⟨⟨_,_,rfl,?_,?_⟩,fun _=>(List.cons.inj hH).1⟩
         . show hiS kz x y i=(zcg es x y).1;rw [hP,hS]
         . show (0:Int)=(zcg es x y).2;rw [hP]
   . exact j0k hr hxy kz hg h0 (fun j hj=>h3 j (by omega) hj) J
end
end
end
noncomputable section
open Go.Sim
open Go.Proofs
open Go.Sort
open Go.Bfs
variable {α:Type}
section
variable {mn:Bool} {es:List MapEntry} {c:Nat} {x y:ByteArray}
theorem zjg {H:List SO} (h:(nqJ mn).map (fun j=>H[j]?)=nqO mn es c):mn=false->H[1]? = some (amE es c):=fun hm=>by
 subst hm;exact (List.cons.inj h).1
theorem q88 (hg:agG (nxI mn es) (zab mn 0 c)):Runs zdB 12 [.ptr ⟨0,.lit 0⟩,.str (.sym x),.str (.sym y)] (nqA mn es c) (nqD mn es c x y):=by
 cases hr:(zax x && zax y) with
 | false =>
   have hP:zcg (nxI mn es) x y=(.empty,2):=by unfold zcg; rw [hr]; rfl
   have hq:rlQ x y true:=q7c hr;exact q5d qal (q0a (jzk mn es c x y) (zaa (q0c x y) (zaa hq (zaa hq (zaa hq (zaa hq qaa))))) fun H hH=>⟨⟨_,_,rfl,by rw [hP]; rfl,by rw [hP]; rfl⟩,zjg hH⟩)
 | true =>
   have hq:rlQ x y false:=q7c hr;cases hxy:decide (x=y) with
   | true =>
     have hP:zcg (nxI mn es) x y=(.empty,2):=by unfold zcg; rw [hr,hxy]; rfl
     exact q5d qal (q0a (jqh mn es c x y) (zaa (q0c x y) (zaa hq (zaa hxy qaa))) fun H hH=>⟨⟨_,_,rfl,by rw [hP]; rfl,by rw [hP]; rfl⟩,zjg hH⟩)
   | false =>
     cases hc:zbz x y with
     | true=>exact jsh hr hxy hg hc
     | false =>
       have hn:zab (zbz x y) (zep (fun j=>mtB (nxI mn es) x (zcB x y j)) (zbm x y)) none=none:=by rw [hc]; rfl
       have hP:=qep (mn:=mn) (es:=es) hr hxy hn;have hG:∀ {q:List Prop},(∀ p∈q,p)->∀ p∈app (nqG x y) (((zax x && zax y)=true)::(zbz x y=false)::nqK (zab mn [] es) (zab mn 0 c) x y q),p:=fun hq'=>qbb (zaa (q0c x y) (zaa hq (zaa hxy qaa))) (zaa hr (zaa hc (zaa hr (zaa hxy (zaa hg hq')))));cases hb:(zbI (nxI mn es) x y).isSome with
       | true =>
         cases mn with
         | true=>rw [show nxI true es=[] from rfl,qzf rfl] at hb; cases hb
         | false =>
           obtain ⟨h1,h2⟩:=qs2 (es:=es) hr hxy hn hb (q78 hb);refine q5d qal (q0a (j5b es c x y) (hG h2) fun H hH=>⟨⟨_,_,rfl,?_,?_⟩,fun _=>(List.cons.inj hH).1⟩)
           . show q1S es x y=(zcg es x y).1;rw [h1]
           . show (0:Int)=(zcg es x y).2;rw [h1]
       | false =>
         have hP':zcg (nxI mn es) x y=(.empty,9):=by
          rw [hP];cases hq:zbI (nxI mn es) x y with
          | none=>rfl
          | some q=>rw [hq] at hb; cases hb
         exact q5d qal (q0a (jyk mn es c x y) (hG (zaa hb qaa)) fun H hH=>⟨⟨_,_,rfl,by rw [hP']; rfl,by rw [hP']; rfl⟩,zjg hH⟩)
end
def nxV (es:List MapEntry) (x y:ByteArray):SV:=.tuple [.str (.sym (zcg es x y).1),.int .i64 (.sym (zcg es x y).2)]
def neSm:za3:=fun args H _=>q4o args fun p xv yv=>zah (zb0 xv) (.stuck 7850) fun x=>zah (zb0 yv) (.stuck 7850) fun y=>q35 H p fun _ _ es c=>.need (agG es c) (.ok ⟨nxV es x.den y.den,[],[]⟩)
theorem q98 {es:List MapEntry} {x y:ByteArray} {s:za8} {e:SI} (h1:s.den=(zcg es x y).1) (h2:e.den=(zcg es x y).2) (f:Nat->Nat):((SV.tuple [.str s,.int .i64 e]).ren f).Imp (nxV es x y):=fun γ v hv=>by
 have hv:some (Value.tuple #[.string s.den,.int .i64 e.den])=some v:=hv;rw [h1,h2] at hv;exact hv
theorem neOK:qeb Tryd.prog 12 neSm:=by
 intro glob O w0 β H w base args vs hH hG ha;refine q1h fun p xv yv hv=>qfa fun x hx=>qfa fun y hy => ?_
 rw [hv,q8a hx,q8a hy] at ha;have ha:=qoa (.refl p) (qoa (q7b (t:=.sym x.den) rfl) (qoa (q7b (t:=.sym y.den) rfl) qdc)) _ _ ha;generalize x.den=x at ha ⊢;generalize y.den=y at ha ⊢;refine q0u (fun m e hp he hs=>fun hg => ?_) fun m mm e es c hp he hs he2 hd=>fun hg => ?_
 . rw [hp] at ha
   let I:Ifc:=⟨[m],[.row (.lst [.zau])],[.ptr ⟨0,.lit 0⟩,.str (.sym x),.str (.sym y)]⟩
   have hF:I.zbQ H:=Ifc.zbV (by simp [I]) rfl ⟨⟨⟨_,he,qpe hs rfl⟩,rfl⟩,trivial⟩
   refine qqc (c:=zdB) hH I (by intro g j hg; cases hg) ha hF [] (by simp) (by simp) (qec (q88 (mn:=true) (es:=[]) (c:=0) hg) fun v H2 h => ?_)
   obtain ⟨⟨s,e,rfl,h1,h2⟩,_⟩:=h;exact ⟨q98 h1 h2 _,rfl,trivial,trivial⟩
 . rw [hp] at ha
   let I:Ifc:=⟨[m,mm],[.row (.lst [.map 1]),.obj (.zaU kPr vBo es c)],[.ptr ⟨0,.lit 0⟩,.str (.sym x),.str (.sym y)]⟩
   have hF:I.zbQ H:=Ifc.zbV hd rfl ⟨⟨⟨_,he,qpe hs rfl⟩,rfl⟩,⟨⟨_,he2,_,rfl,fun _ _ h=>h⟩,rfl⟩,trivial⟩;refine qce (k':=kPr) (v':=vBo) hH he2 ?_
   refine qqc (c:=zdB) hH I (by intro g j hg; cases hg) ha hF [] (by simp) (by simp) (qec (q88 (mn:=false) (es:=es) (c:=c) hg) fun v H2 h => ?_)
   obtain ⟨⟨s,e,rfl,h1,h2⟩,h3⟩:=h;exact ⟨q98 h1 h2 _,rfl,⟨⟨rfl,.inr ⟨_,_,h3 rfl,rfl,fun _ _ h=>h,rfl⟩⟩,trivial⟩,trivial⟩
end
noncomputable section
open Go.Sim
open Go.Proofs
variable {α:Type}
def rlRp:List (FuncId × za3):=[(36,zh3),(37,inS')]
def zf7:Cfg:={ qhc (qkc rlRp) with zej:=some 1 }
structure RSt where
 m:Mem
 g:Bool
 VS:Nat->Value
 ns:Nat
 f:Bool
 VL:Nat->Value
 n:Nat
 b:Bool
 VN:Nat->Value
 nn:Nat
section
variable (V:Nat->Value) (N n k:Nat) (x y:ByteArray) (J:zaQ)
def rzT (st:Option (Nat × Nat)) (f:Nat):Tree:=qka (zf7.at st) f 11 [slP 0 n k,.str (.sym x),.str (.sym y)] [rwV V N,.mem m0Q]
def rzS0:SS:=qub (rzT V N n k x y (some (1,7)) 2000) [false]
def rzS2:SS:=qub (rzT V N n k x y (some (1,11)) 2000) [false,false]
variable (s:RSt) (i q:Nat) (u:ByteArray)
def rzSn:SV:=zab s.g (.slice ⟨2,.lit 0⟩ (.lit 1) (.lit 1)) (.slice ⟨2,.lit 0⟩ (.sym s.ns) (.rest 2 0))
def rzSE:HP:=zab s.g (.ent (.own (.lst [.str (.sym x)]) true 9)) (.ent (.own (.raw s.VS s.ns) false 9))
def rzLn:SN:=zab s.f (.lit 1) (.sym s.n)
def rzLS:SV:=.slice ⟨3,.lit 0⟩ (rzLn s) (zab s.f (.lit 1) (.rest 3 0))
def rzLE:HP:=zab s.f (.ent (.own (.fn (fun i=>.val (s.VL i)) 1) true 25)) (.ent (.own (.fn (fun i=>.val (s.VL i)) s.n) false 25))
def rzNS:SV:=zab s.b (.slice ⟨4,.lit 0⟩ (.sym s.nn) (.rest 4 0)) .zad
def rzNE:HP:=zab s.b (.ent (.own (.raw s.VN s.nn) false 25)) (.ent .gone)
def rzI (i:Nat):SV:=.int .i64 (.sym (i:Int))
def ziq (b:Bool):List (Nat × SV):=[(0,slP 0 n k),(1,.str (.sym x)),(2,.str (.sym y)),(8,rzSn s),(9,rzLS s)]
def rzH (b:Bool):List HP:=[.ent (rwV V N),.ent (.mem s.m),rzSE x s,rzLE s,zab b (rzNE s) (.ent .gone)]
def rzA:Cut:=⟨q0b (rzS0 V N n k x y).frames [app (ziq n k x y s false) [(10,rzI i)]],rzH V N x s false⟩
def rzSA (st:Option (Nat × Nat)) (f:Nat):Tree:=za9 (zf7.at st) f ((rzA V N n k x y s i).fill J)
end
def rz0:RSt:=⟨m0Q,true,fun _=>undef,0,true,fun _=>undef,1,false,fun _=>undef,0⟩
section
variable (V:Nat->Value) (N n k:Nat) (x y:ByteArray) (J:zaQ) (s:RSt) (i q:Nat) (u:ByteArray)
def rzS1:SS:=qub (rzSA V N n k x y J0Q rz0 0 (some (1,7)) 2000) [false]
def rzB:Cut:=⟨q0b (rzS1 V N n k x y).frames [app (ziq n k x y s true) [(11,rzNS s),(12,rzI i)]],rzH V N x s true⟩
def rzC:Cut:=⟨q0b (rzS2 V N n k x y).frames [app (ziq n k x y s true) [(11,rzNS s),(12,rzI i),(13,.str (.sym u)),(14,rzI q)]],rzH V N x s true⟩
end
section
variable (V:Nat->Value) (N n k:Nat) (x y:ByteArray) (J:zaQ) (m:Mem) (g:Bool) (VS:Nat->Value) (ns:Nat) (f:Bool) (VL:Nat->Value) (nl:Nat) (b:Bool) (VN:Nat->Value) (nn:Nat) (i q:Nat) (u:ByteArray) (z:Nat->Nat->Nat)
def rzs:RSt:=⟨m,g,VS,ns,f,VL,nl,b,VN,nn⟩
def rzM:Nat:=zab f 1 nl
end
end
noncomputable section
open Go.Sim
open Go.Proofs
variable {α:Type}
section
variable (V:Nat->Value) (N n k:Nat) (x y:ByteArray) (J:zaQ) (m:Mem) (g:Bool) (VS:Nat->Value) (ns:Nat) (f:Bool) (VL:Nat->Value) (nl:Nat) (b:Bool) (VN:Nat->Value) (nn:Nat) (i q:Nat) (u:ByteArray) (z:Nat->Nat->Nat)
def pzB:ByteArray:=zd5 (V (0+q * 2+1))
end
end
noncomputable section
open Go.Sim
open Go.Proofs
variable {α:Type}
end
noncomputable section
open Go.Sim
open Go.Proofs
variable {α:Type}
section
variable (V:Nat->Value) (N n k:Nat) (x y:ByteArray) (J:zaQ) (m:Mem) (g:Bool) (VS:Nat->Value) (ns:Nat) (f:Bool) (VL:Nat->Value) (nl:Nat) (b:Bool) (VN:Nat->Value) (nn:Nat) (i q:Nat) (u:ByteArray) (z:Nat->Nat->Nat)
def aZ:Cut:=rzA V N n k x y (rzs m g VS ns f VL nl b VN nn) i
def bZ:Cut:=rzB V N n k x y (rzs m g VS ns f VL nl b VN nn) i
def cZ:Cut:=rzC V N n k x y (rzs m g VS ns f VL nl b VN nn) i q u
end
end
end Go.Proofs.YtbhlngmhgplepaaDoor.Aes
namespace Go.Bfs
noncomputable section
def RB (S:Pth->List Str) (y:Str) (L:List Pth) (seen:List Str) (o:Option Pth):Prop:=(∃ q,L.find? (qkf y)=some q/\o=some q)\/(L.find? (qkf y)=none/\Bfs S y L seen o)
end
end Go.Bfs
namespace Go.Proofs.YtbhlngmhgplepaaDoor.Aes
noncomputable section
open Go.Sim
open Go.Proofs
open Go.Sort
open Go.Bfs
variable {α:Type}
end
noncomputable section
open Go.Sim
open Go.Proofs
open Go.Sort
open Go.Bfs
variable {α:Type}
def LvQ (x:ByteArray) (m:Mem) (v:Value) (q:Pth):Prop:=∃ b cap cap',v=.slice (some ⟨b,0,none⟩) q.length cap/\q.length<=cap/\zbB m b q/\m.own b=some (q.length,cap',9)/\(q≠[x]->cap=cap')/\(q=[x]->cap=1)
def SnAt (x:ByteArray) (g:Bool) (VS:Nat->Value) (ns:Nat) (Sn:List Str):Prop:=(g=true/\Sn=[x])\/(g=false/\ns=Sn.length/\∀ i (h:i<Sn.length),VS i=.string Sn[i])
structure RA where
 m:Mem
 g:Bool
 VS:Nat->Value
 ns:Nat
 f:Bool
 VL:Nat->Value
 nl:Nat
 b:Bool
 VN:Nat->Value
 nn:Nat
 L:List Pth
 zbT:List Str
 Nx:List Pth
 Sn:List Str
inductive Rr
 | a (s:RA) (i:Nat)
 | b (s:RA) (i:Nat)
 | c (s:RA) (i q:Nat)
def j8d (q:Pth):Str:=q.getLast?.getD ⟨#[]⟩
def atQ (L:List Pth) (i:Nat):Pth:=(L[i]?).getD []
section
variable (V:Nat->Value) (N n k:Nat) (x y:ByteArray)
def RrC:Rr->Cut
 | .a s i=>aZ V N n k x y s.m s.g s.VS s.ns s.f s.VL s.nl s.b s.VN s.nn i
 | .b s i=>bZ V N n k x y s.m s.g s.VS s.ns s.f s.VL s.nl s.b s.VN s.nn i
 | .c s i q=>cZ V N n k x y s.m s.g s.VS s.ns s.f s.VL s.nl s.b s.VN s.nn i q (j8d (atQ s.L i))
def uzR (Sn:List Str):Nat:=un ((prL V n).map (·.2)) Sn
def zgh:Pth->List Str:=zbZ (prL V n)
def RrB (o:Option Pth):Prop:=RB (zgh V n) y [[x]] [x] o
structure RInv (s:RA):Prop where
 bd:s.m.bounded
 lv:zbw (LvQ x) s.m s.VL s.L
 lvn:rzM s.f s.nl=s.L.length
 ne:∀ q∈s.L,q≠[]
 nx:zfn s.m s.b s.VN s.nn s.Nx
 sn:SnAt x s.g s.VS s.ns s.Sn
 gb:s.b=true->s.g=false
 szC:s.L.length<=n+2
 szL:∀ q∈s.L,q.length+uzR V n s.Sn<=n+2
 szN:∀ q∈s.Nx,2<=q.length/\q.length+uzR V n s.Sn<=n+2
 szS:s.Sn.length+uzR V n s.Sn<=n+2
 szX:s.Nx.length+uzR V n s.Sn<=n+2
def RrQ:Rr->Prop
 | .a s i=>RInv V n x s/\s.Nx=[]/\s.Sn=s.zbT/\i<=s.L.length/\s.L≠[]/\(s.L.take i).find? (qkf y)=none/\∀ o,RB (zgh V n) y s.L s.zbT o->RrB V n x y o
 | .b s i=>RInv V n x s/\i<=s.L.length/\Go.Bfs.step (zgh V n) (s.L.take i) s.zbT=(s.Nx,s.Sn)/\∀ o,Bfs (zgh V n) y s.L s.zbT o->RrB V n x y o
 | .c s i q=>RInv V n x s/\(∃ (h:i<s.L.length) (N0 l:List Pth) (S0:List Str),Go.Bfs.step (zgh V n) (s.L.take i) s.zbT=(N0,S0)/\ext s.L[i] (q3a ((prL V n).take q) (j8d s.L[i])) S0=(l,s.Sn)/\s.Nx=N0++l/\q<=n)/\∀ o,Bfs (zgh V n) y s.L s.zbT o->RrB V n x y o
def RrD (v:SV) (H:List SO):Prop:=(v=.tuple [.zad,.int .i64 (.lit 9)]/\RrB V n x y none)\/∃ w q m,v=.tuple [.val w,.int .i64 (.lit 0)]/\RrB V n x y (some q)/\H[1]? = some (.mem m)/\LvQ x m w q
def RrK:Nat:=(n+3) * (n+5)+10
def RrMu:Rr->Nat
 | .a s i=>(3 * uzR V n s.Sn+2 * s.Nx.length) * RrK n+((s.L.length - i)+s.L.length * (n+3)+1)
 | .b s i=>(3 * uzR V n s.Sn+2 * s.Nx.length) * RrK n+(s.L.length - i) * (n+3)
 | .c s i q=>(3 * uzR V n s.Sn+2 * s.Nx.length) * RrK n+((s.L.length - (i+1)) * (n+3)+(n - q)+1)
end
end
noncomputable section
open Go.Sim
open Go.Proofs
open Go.Sort
open Go.Bfs
variable {α:Type}
section
variable {V:Nat->Value} {N n k:Nat} {x y:ByteArray}
abbrev RrT (V:Nat->Value) (N n k:Nat) (x y:ByteArray) (a:Rr) (J:zaQ):Prop:=qlb zf7 2 (RrC V N n k x y) (fun a'=>RrQ V n x y a'/\RrMu V n a'<RrMu V n a) (RrD V n x y) ((RrC V N n k x y a).fill J)
end
end
noncomputable section
open Go.Sim
open Go.Proofs
open Go.Sort
open Go.Bfs
variable {α:Type}
end
noncomputable section
open Go.Sim
open Go.Proofs
open Go.Sort
open Go.Bfs
variable {α:Type}
end
noncomputable section
open Go.Sim
open Go.Proofs
open Go.Sort
open Go.Bfs
variable {α:Type}
end
end Go.Proofs.YtbhlngmhgplepaaDoor.Aes
namespace Go.Sim
noncomputable section
end
end Go.Sim
namespace Go.Proofs.YtbhlngmhgplepaaDoor.Aes
noncomputable section
open Go.Sim
open Go.Proofs
open Go.Sort
open Go.Bfs
variable {α:Type}
end
end Go.Proofs.YtbhlngmhgplepaaDoor.Aes
namespace Go.Bfs
noncomputable section
end
end Go.Bfs
namespace Go.Proofs.YtbhlngmhgplepaaDoor.Aes
noncomputable section
open Go.Sim
open Go.Proofs
open Go.Sort
open Go.Bfs
variable {α:Type}
def rbO (T:List Pr) (x y:ByteArray):Option Pth:=@Classical.epsilon _ ⟨none⟩ (RB (zbZ T) y [[x]] [x])
end
noncomputable section
open Go.Sim
open Go.Proofs
variable {α:Type}
inductive RhK where
 | O (i:Nat)
 | I (i k:Nat)
 | C (i k:Nat) (m:Int) (V:Nat->Value) (n:Nat)
theorem jth {x y:ByteArray} {i k:Nat} (hk:k<=dep y) (he:suf y k=suf x i) (hm:∀ j,j<k->suf y j≠suf x i):zc4 x y i=k:=by
 unfold zc4;rw [List.find?_range_eq_some.2 ⟨zbR.2 he,List.mem_range.2 (by omega),fun j hj=>by rw [q8b (hm j hj)]; rfl⟩]
 rfl
end
noncomputable section
open Go.Sim
open Go.Proofs
open Go.Sort
open Go.Bfs
variable {α:Type}
def rnxF (T:List Pr) (x y:ByteArray) (j:Nat):Bool:=zab (decide (j=0)) false (cB ((x,zcB x y j)∈T))
def rnxP (T:List Pr) (x y:ByteArray):ByteArray × Int :=
 zab (zax x && zax y) (zab (decide (x=y)) (.empty,2) (zah (zab (zbz x y) (zep (rnxF T x y) (zbm x y)) none) (zah (rbO T x y) (.empty,9) fun q=>(qic q 1,0)) fun j=>(zcB x y j,0))) (.empty,2)
def rnD (T:List Pr) (x y:ByteArray) (v:SV) (_:List SO):Prop:=∃ s e,v=.tuple [.str s,.int .i64 e]/\s.den=(rnxP T x y).1/\e.den=(rnxP T x y).2
end
noncomputable section
open Go.Sim
open Go.Proofs
open Go.Bfs
variable {α:Type}
section
variable (V:Nat->Value) (N n k:Nat) (x y:ByteArray) (J:zaQ) (z:Nat->Nat->Nat) (re:Bool) (es:List MapEntry) (c:Nat) (W:Nat->Value) (m i:Nat)
def onM1 (X Y:ByteArray):SO:=.obj (.map [(.agg [.str (.sym X),.str (.sym Y)],.bool (.lit true),0)] 1)
end
end
noncomputable section
open Go.Sim
open Go.Proofs
open Go.Bfs
variable {α:Type}
section
variable (V:Nat->Value) (N n k:Nat) (x y:ByteArray) (J:zaQ) (z:Nat->Nat->Nat) (mn re:Bool) (es:List MapEntry) (c:Nat) (W:Nat->Value) (m i:Nat)
def q9c:Option ((SV × List (Option SO)) ⊕ Seen):=some (.inl (.bool (.lit true),[]))
def lpB (b1:Bool):List Prop:=[N * 3=N * 3 / 3 * 3,((⟨V,N * 3 / 3,n⟩:Pw).n:Int)<=40->(⟨V,N * 3 / 3,n⟩:Pw).okA/\(⟨V,N * 3 / 3,n⟩:Pw).n<=1000000,(!cB (shP ⟨V,N * 3 / 3,n⟩ 40))=b1]
def fwA (b:Bool):List Prop:=[((twS x y).n:Int)<=2->(twS x y).ok,(!cB (zhK (twS x y) 2))=b]
end
end
noncomputable section
open Go.Sim
open Go.Proofs
open Go.Bfs
variable {α:Type}
def NoS (l:List Pr):Prop:=∀ p∈l,p.1≠p.2
theorem juh (f:Nat->Nat) (X Y:ByteArray):zew f (some (.ent (onM1 X Y))) (.ent (.obj (.zaU kPr vBo (zeY X Y) 1))) :=
 ⟨_,rfl,fun β x h=>zaW.za2.2 ⟨fun e he=>by
  obtain rfl:=List.mem_singleton.1 he;exact ⟨fun _=>rfl,fun _=>rfl⟩,by
  have h:some (Obj.map #[⟨kyP (X,Y),.bool true,0⟩] 1)=some x:=h;cases h;rfl⟩⟩
section
variable {V:Nat->Value} {N n:Nat} (k:Nat) {x y:ByteArray}
def lpI (n:Nat) (a:LwS):Prop:=a.i<=n/\∃ l,a.fit l/\NoS l
def zju:SV->List SO->Prop:=fun v _=>v=.bool (.lit true)
variable {k}
end
end
end Go.Proofs.YtbhlngmhgplepaaDoor.Aes
namespace Go.Bfs
noncomputable section
def sLt (a b:Str):Prop:=a.data.toList<b.data.toList
theorem qms (a:Str):¬ sLt a a:=List.lt_irrefl _
theorem qa9 {a b c:Str} (h:sLt a b) (k:sLt b c):sLt a c:=List.lt_trans h k
def plt:Pth->Pth->Prop
 | a::p,b::q=>sLt a b\/(a=b/\plt p q)
 | _,_=>False
def ple (p q:Pth):Prop:=p=q\/plt p q
theorem qit {p q:Pth} (r s:Pth) (h:plt p q):plt (p++r) (q++s):=by
 induction p generalizing q with
 | nil=>cases q <;> exact h.elim
 | cons a p ih =>
   cases q with
   | nil=>exact h.elim
   | cons b q=>exact h.imp id fun ⟨h1,h2⟩=>⟨h1,ih h2⟩
theorem j6b (p:Pth) {b c:Str} (h:sLt b c):plt (p++[b]) (p++[c]):=by
 induction p with
 | nil=>exact .inl h
 | cons a p ih=>exact .inr ⟨rfl,ih⟩
theorem q55 (p:Pth):¬ plt p p:=by
 induction p with
 | nil=>exact fun h=>h
 | cons a p ih=>exact fun h=>h.elim (qms a) fun h=>ih h.2
theorem q4u {p q r:Pth} (h:plt p q) (k:plt q r):plt p r:=by
 induction p generalizing q r with
 | nil=>cases q <;> exact h.elim
 | cons a p ih =>
   cases q with
   | nil=>exact h.elim
   | cons b q =>
     cases r with
     | nil=>exact k.elim
     | cons c r =>
       rcases h with h | ⟨rfl,h⟩ <;> rcases k with k | ⟨rfl,k⟩
       . exact .inl (qa9 h k)
       . exact .inl h
       . exact .inl k
       . exact .inr ⟨rfl,ih h k⟩
theorem j7b {x:Str} {p q:Pth}:plt (x::p) (x::q)↔plt p q:=⟨fun h=>h.elim (fun h=>(qms x h).elim) fun h=>h.2,fun h=>.inr ⟨rfl,h⟩⟩
theorem q5u {p q r:Pth} (h:ple p q) (k:ple q r):ple p r:=by
 rcases h with rfl | h
 . exact k
 . rcases k with rfl | k
   . exact .inr h
   . exact .inr (q4u h k)
theorem jvh {p q:Pth} (b:Str) (h:ple p q):ple (p++[b]) (q++[b]):=h.imp (fun h=>by rw [h]) fun h=>qit _ _ h
theorem j8b {p q:Pth} (h:ple p q) (k:ple q p):p=q:=by
 rcases h with h | h
 . exact h
 . rcases k with k | k
   . exact k.symm
   . exact absurd (q4u h k) (q55 p)
theorem zfb {x:Str} {p q:Pth}:ple (x::p) (x::q)↔ple p q:=by
 unfold ple;rw [j7b];exact or_congr_left ⟨fun h=>(List.cons.inj h).2,fun h=>by rw [h]⟩
def endP (q:Pth):Str:=q.getLast?.getD ⟨#[]⟩
theorem q6h (q:Pth) (b:Str):endP (q++[b])=b:=by unfold endP; simp
theorem qum {q:Pth} (h:q≠[]) {y:Str}:endP q=y↔q.getLast? = some y:=by
 unfold endP;rw [List.getLast?_eq_some_getLast h];exact ⟨fun h=>congrArg some h,fun h=>Option.some.inj h⟩
section
variable (succ:Str->List Str)
def Wk:Pth->Prop
 | a::b::r=>b∈succ a/\Wk (b::r)
 | _=>True
def Wf (x:Str) (w:Pth):Prop:=w.head? = some x/\Wk succ w
variable {succ}
theorem jwh {w:Pth} {b:Str} (h:w≠[]):Wk succ (w++[b])↔Wk succ w/\b∈succ (endP w):=by
 induction w with
 | nil=>exact absurd rfl h
 | cons a w ih =>
   cases w with
   | nil=>exact ⟨fun h=>⟨trivial,h.1⟩,fun h=>⟨h.2,trivial⟩⟩
   | cons c w =>
     have ih:=ih (by simp)
     have e:endP (a::c::w)=endP (c::w):=by unfold endP; simp
     rw [e];exact ⟨fun h=>⟨⟨h.1,(ih.1 h.2).1⟩,(ih.1 h.2).2⟩,fun h=>⟨h.1.1,ih.2 ⟨h.1.2,h.2⟩⟩⟩
theorem qbl {x:Str} {w:Pth} {b:Str} (h:w≠[]):Wf succ x (w++[b])↔Wf succ x w/\b∈succ (endP w):=by
 have e:(w++[b]).head? = w.head? := by cases w with
  | nil=>exact absurd rfl h
  | cons a w=>rfl
 unfold Wf;rw [e,jwh h,and_assoc]
theorem Wf.ne {x:Str} {w:Pth} (h:Wf succ x w):w≠[]:=fun e=>by rw [e] at h; cases h.1
theorem qwi {p q:Pth}:∀ {r seen:List Str},q∈(ext p r seen).1->∃ b,b∈r/\q=p++[b]
 | [],_,h=>by cases h
 | b::r,seen,h=>by
   by_cases hb:b∈seen
   . rw [qde hb] at h;obtain ⟨c,h1,h2⟩:=qwi h;exact ⟨c,List.mem_cons_of_mem _ h1,h2⟩
   . rw [qjf hb] at h;rcases List.mem_cons.1 h with rfl | h
     . exact ⟨b,List.mem_cons_self,rfl⟩
     . obtain ⟨c,h1,h2⟩:=qwi h;exact ⟨c,List.mem_cons_of_mem _ h1,h2⟩
theorem zcR {p:Pth} {b:Str}:∀ {r seen:List Str},b∈r->b ∉ seen->p++[b]∈(ext p r seen).1
 | [],_,h,_=>by cases h
 | c::r,seen,h,hs=>by
   by_cases hc:c∈seen
   . rw [qde hc];rcases List.mem_cons.1 h with rfl | h
     . exact absurd hc hs
     . exact zcR h hs
   . rw [qjf hc];by_cases e:b=c
     . subst e; exact List.mem_cons_self
     . rcases List.mem_cons.1 h with h | h
       . exact absurd h e
       . refine List.mem_cons_of_mem _ (zcR h fun hm => ?_);rcases List.mem_append.1 hm with hm | hm
         . exact hs hm
         . exact e (List.mem_singleton.1 hm)
theorem qfp (p:Pth):∀ (r seen:List Str),(ext p r seen).2=seen++(ext p r seen).1.map endP
 | [],seen=>by simp [ext]
 | b::r,seen=>by
   by_cases hb:b∈seen
   . rw [qde hb]; exact qfp p r seen
   . rw [qjf hb,qfp p r (seen++[b]),List.map_cons,q6h]; simp
theorem qvm (p:Pth):∀ (r seen:List Str),r.Pairwise sLt->(ext p r seen).1.Pairwise plt
 | [],seen,_=>List.Pairwise.nil
 | b::r,seen,h=>by
   obtain ⟨h1,h2⟩:=List.pairwise_cons.1 h;by_cases hb:b∈seen
   . rw [qde hb]; exact qvm p r seen h2
   . rw [qjf hb];refine List.pairwise_cons.2 ⟨fun q hq => ?_,qvm p r _ h2⟩;obtain ⟨c,hc,rfl⟩:=qwi hq;exact j6b p (h1 c hc)
section
variable {S:Pth->List Str}
theorem q0f {q:Pth}:∀ {L:List Pth} {seen:List Str},q∈(step S L seen).1->∃ p b,p∈L/\b∈S p/\q=p++[b]
 | [],_,h=>by cases h
 | p::L,seen,h=>by
   rw [step] at h;rcases List.mem_append.1 h with h | h
   . obtain ⟨b,h1,h2⟩:=qwi h;exact ⟨p,b,List.mem_cons_self,h1,h2⟩
   . obtain ⟨p',b,h1,h2⟩:=q0f h;exact ⟨p',b,List.mem_cons_of_mem _ h1,h2⟩
theorem q4z (S:Pth->List Str):∀ (L:List Pth) (seen:List Str),(step S L seen).2=seen++(step S L seen).1.map endP
 | [],seen=>by simp [step]
 | p::L,seen=>by
   rw [step,q4z S L,qfp]; simp
theorem qhk (hS:∀ q,(S q).Pairwise sLt):∀ (L:List Pth) (seen:List Str),L.Pairwise plt->(step S L seen).1.Pairwise plt
 | [],seen,_=>List.Pairwise.nil
 | p::L,seen,h=>by
   obtain ⟨h1,h2⟩:=List.pairwise_cons.1 h;rw [step];refine List.pairwise_append.2 ⟨qvm p _ _ (hS p),qhk hS L _ h2,fun q hq q' hq' => ?_⟩;obtain ⟨b,_,rfl⟩:=qwi hq;obtain ⟨p',c,hp',_,rfl⟩:=q0f hq';exact qit _ _ (h1 p' hp')
theorem qns {q:Pth} {b:Str}:∀ {L:List Pth} {seen:List Str},L.Pairwise plt->q∈L->b∈S q->b ∉ seen->∃ q',q'∈(step S L seen).1/\endP q'=b/\ple q' (q++[b])
 | [],_,_,h,_,_=>by cases h
 | p::L,seen,hL,hq,hb,hs=>by
   obtain ⟨h1,h2⟩:=List.pairwise_cons.1 hL;rw [step];rcases List.mem_cons.1 hq with rfl | hq
   . exact ⟨q++[b],List.mem_append_left _ (zcR hb hs),q6h q b,.inl rfl⟩
   . by_cases hb2:b∈(ext p (S p) seen).2
     . rw [qfp] at hb2;rcases List.mem_append.1 hb2 with hb2 | hb2
       . exact absurd hb2 hs
       . obtain ⟨q',h3,h4⟩:=List.mem_map.1 hb2;obtain ⟨c,_,rfl⟩:=qwi h3;exact ⟨p++[c],List.mem_append_left _ h3,h4,.inr (qit _ _ (h1 q hq))⟩
     . obtain ⟨q',h3,h4,h5⟩:=qns h2 hq hb hb2;exact ⟨q',List.mem_append_right _ h3,h4,h5⟩
end
structure LvI (succ:Str->List Str) (x y:Str) (k:Nat) (L:List Pth) (old:List Str):Prop where
 wf:∀ q∈L,Wf succ x q/\q.length=k+1
 so:L.Pairwise plt
 all:∀ w,Wf succ x w->w.length<=k+1->endP w∈old++L.map endP
 best:∀ w,Wf succ x w->w.length=k+1->endP w ∉ old->∃ q∈L,endP q=endP w/\ple q w
 closed:∀ v∈old,∀ b∈succ v,b∈old++L.map endP
 noy:y ∉ old++L.map endP
theorem LvI.start {x y:Str} (h:x≠y):LvI succ x y 0 [[x]] []:=by
 have one:∀ w:Pth,Wf succ x w->w.length<=1->w=[x]:=fun w hw hl=>by
  match w,hw with
  | [a],hw=>rw [Option.some.inj hw.1]
  | a::b::r,_=>simp at hl
 refine ⟨fun q hq => ?_,List.pairwise_singleton _ _,fun w hw hl => ?_,fun w hw hl _ => ?_,fun v hv=>(by cases hv),?_⟩
 . rw [List.mem_singleton.1 hq]; exact ⟨⟨rfl,trivial⟩,rfl⟩
 . rw [one w hw hl]; simp
 . rw [one w hw (by omega)]; exact ⟨[x],by simp,rfl,.inl rfl⟩
 . simp [endP];exact fun e=>h e.symm
section
variable {S:Pth->List Str} {x y:Str} {k:Nat} {L:List Pth} {old:List Str}
theorem LvI.cover (hS:∀ q,S q=succ (endP q)) (h:LvI succ x y k L old) {w:Pth} {b:Str} (hw:Wf succ x w) (hl:w.length=k+1) (hb:b∈succ (endP w)) (hn:b ∉ old++L.map endP) :
  ∃ q',q'∈(step S L (old++L.map endP)).1/\endP q'=b/\ple q' (w++[b]):=by
 by_cases ho:endP w∈old
 . exact absurd (h.closed _ ho b hb) hn
 . obtain ⟨q,h1,h2,h3⟩:=h.best w hw hl ho;obtain ⟨q',h4,h5,h6⟩:=qns (S:=S) h.so h1 (by rw [hS,h2]; exact hb) hn
   exact ⟨q',h4,h5,q5u h6 (jvh b h3)⟩
theorem qjt {w:Pth} {k:Nat} (h:w.length=k+2):∃ w0 b,w=w0++[b]/\w0.length=k+1:=by
 rcases List.eq_nil_or_concat w with rfl | ⟨w0,b,rfl⟩
 . simp at h
 . exact ⟨w0,b,by simp,by simp at h; exact h⟩
theorem LvI.next (hS:∀ q,S q=succ (endP q)) (hs:∀ a,(succ a).Pairwise sLt) (h:LvI succ x y k L old) (hy:(step S L (old++L.map endP)).1.find? (qkf y)=none):LvI succ x y (k+1) (step S L (old++L.map endP)).1 (old++L.map endP):=by
 have zeR:∀ w,Wf succ x w->w.length=k+1+1->endP w ∉ old++L.map endP->∃ q∈(step S L (old++L.map endP)).1,endP q=endP w/\ple q w:=fun w hw hl hn=>by
  obtain ⟨w0,b,rfl,h0⟩:=qjt hl;have hne:w0≠[]:=fun e=>by rw [e] at h0; simp at h0
  obtain ⟨h1,h2⟩:=(qbl hne).1 hw;rw [q6h] at hn ⊢;exact h.cover hS h1 h0 h2 hn
 refine ⟨fun q hq => ?_,qhk (fun q=>by rw [hS]; exact hs _) L _ h.so,fun w hw hl => ?_,zeR,fun v hv b hb => ?_,fun hm => ?_⟩
 . obtain ⟨p,b,h1,h2,rfl⟩:=q0f hq;obtain ⟨h3,h4⟩:=h.wf p h1;rw [hS] at h2;exact ⟨(qbl h3.ne).2 ⟨h3,h2⟩,by rw [List.length_append,h4]; rfl⟩
 . by_cases c:w.length<=k+1
   . exact List.mem_append_left _ (h.all w hw c)
   . by_cases hn:endP w∈old++L.map endP
     . exact List.mem_append_left _ hn
     . obtain ⟨q,h1,h2,_⟩:=zeR w hw (by omega) hn
       exact List.mem_append_right _ (List.mem_map.2 ⟨q,h1,h2⟩)
 . by_cases hn:b∈old++L.map endP
   . exact List.mem_append_left _ hn
   . rcases List.mem_append.1 hv with hv | hv
     . exact absurd (h.closed v hv b hb) hn
     . obtain ⟨q,h1,rfl⟩:=List.mem_map.1 hv;obtain ⟨h2,h3⟩:=h.wf q h1;obtain ⟨q',h4,h5,_⟩:=h.cover hS h2 h3 hb hn;exact List.mem_append_right _ (List.mem_map.2 ⟨q',h4,h5⟩)
 . rcases List.mem_append.1 hm with hm | hm
   . exact h.noy hm
   . obtain ⟨q,h1,h2⟩:=List.mem_map.1 hm;have:=List.find?_eq_none.1 hy q h1;obtain ⟨p,b,_,_,rfl⟩:=q0f h1;exact this (zcM.2 ((qum (by simp)).1 h2))
def Best (succ:Str->List Str) (x y:Str) (q:Pth):Prop:=Wf succ x q/\q.getLast? = some y/\∀ w,Wf succ x w->w.getLast? = some y->q.length<w.length\/(q.length=w.length/\ple q w)
theorem qos {f:Pth->Bool}:∀ {L:List Pth},L.Pairwise plt->∀ {q q':Pth},L.find? f=some q->q'∈L->f q'=true->ple q q'
 | [],_,_,_,h,_,_=>by cases h
 | p::L,hp,q,q',h,hm,hf=>by
   obtain ⟨h1,h2⟩:=List.pairwise_cons.1 hp;rw [List.find?_cons] at h;cases hfp:f p with
   | true =>
     rw [hfp] at h;obtain rfl:p=q:=Option.some.inj h;rcases List.mem_cons.1 hm with rfl | hm
     . exact .inl rfl
     . exact .inr (h1 q' hm)
   | false =>
     rw [hfp] at h;rcases List.mem_cons.1 hm with rfl | hm
     . rw [hf] at hfp; cases hfp
     . exact qos h2 h hm hf
theorem j9b (hS:∀ q,S q=succ (endP q)) (hs:∀ a,(succ a).Pairwise sLt) {seen:List Str} {o:Option Pth} (hb:Bfs S y L seen o):∀ (k:Nat) (old:List Str),LvI succ x y k L old->seen=old++L.map endP ->
  (∀ q,o=some q->Best succ x y q)/\(o=none->∀ w,Wf succ x w->w.getLast? ≠ some y):=by
 induction hb with
 | @found L seen q hf =>
   intro k old h zbb;subst zbb;refine ⟨fun q' hq' => ?_,fun h=>by cases h⟩
   obtain rfl:q=q':=Option.some.inj hq';have hy:=zcM.1 (List.find?_some hf);obtain ⟨p,b,h1,h2,rfl⟩:=q0f (List.mem_of_find?_eq_some hf);obtain ⟨h3,h4⟩:=h.wf p h1;rw [hS] at h2;refine ⟨(qbl h3.ne).2 ⟨h3,h2⟩,hy,fun w hw hwy => ?_⟩;have zjI:=(qum hw.ne).2 hwy;have hlen:¬ w.length<=k+1:=fun hl=>h.noy (by rw [← zjI]; exact h.all w hw hl)
   rw [List.length_append,h4,List.length_singleton];by_cases c:w.length=k+2
   . refine .inr ⟨c.symm,?_⟩;obtain ⟨w0,b',rfl,h0⟩:=qjt c;have hne:w0≠[]:=fun e=>by rw [e] at h0; simp at h0
     obtain ⟨g1,g2⟩:=(qbl hne).1 hw;rw [q6h] at zjI;subst zjI;obtain ⟨q',g3,g4,g5⟩:=h.cover hS g1 h0 g2 h.noy;have hso:=qhk (S:=S) (fun q=>by rw [hS]; exact hs _) L (old++L.map endP) h.so
     have hq':q'≠[]:=by
      obtain ⟨p',c',_,_,e⟩:=q0f g3;rw [e]; simp
     exact q5u (qos hso hf g3 (zcM.2 ((qum hq').1 g4))) g5
   . exact .inl (by omega)
 | @over L seen he =>
   intro k old h zbb;subst zbb;refine ⟨fun q hq=>(by cases hq),fun _ w hw hwy => ?_⟩
   have hL:=h.next (S:=S) hS hs (by rw [he]; rfl)
   rw [he] at hL;have key:∀ (n:Nat) (w:Pth),w.length<=n->Wf succ x w->endP w∈old++L.map endP:=by
    intro n;induction n with
    | zero=>exact fun w hl hw=>absurd (List.length_eq_zero_iff.1 (by omega)) hw.ne
    | succ n ih =>
      intro w hl hw;by_cases c:w.length<=k+2
      . have:=hL.all w hw c;simpa using this
      . obtain ⟨w0,b,rfl,h0⟩:=qjt (w:=w) (k:=w.length - 2) (by omega)
        have hne:w0≠[]:=fun e=>by rw [e] at h0; simp at h0
        obtain ⟨g1,g2⟩:=(qbl hne).1 hw;rw [List.length_append,List.length_singleton] at hl;have:=hL.closed _ (ih w0 (by omega) g1) b g2
        rw [q6h];simpa using this
   exact h.noy (by rw [← (qum hw.ne).2 hwy]; exact key _ w (Nat.le_refl _) hw)
 | @next L seen o hn hne _ ih =>
   intro k old h zbb;subst zbb;refine ih (k+1) (old++L.map endP) (h.next hS hs hn) ?_
   rw [q4z]
end
end
end
noncomputable section
section
variable {succ:Str->List Str} {x y:Str}
theorem Best.eq {p q:Pth} (h:Best succ x y p) (k:Best succ x y q):p=q:=by
 rcases h.2.2 q k.1 k.2.1 with h1 | ⟨h1,h2⟩ <;> rcases k.2.2 p h.1 h.2.1 with k1 | ⟨k1,k2⟩
 . omega
 . omega
 . omega
 . exact j8b h2 k2
theorem Best.tail {a:Str} {r:Pth} (h:Best succ x y (x::a::r)):Best succ a y (a::r):=by
 have hx:a∈succ x:=h.1.2.1;have hl:(a::r).getLast? = some y:=by have:=h.2.1; rwa [List.getLast?_cons_cons] at this
 refine ⟨⟨rfl,h.1.2.2⟩,hl,fun w hw hwy => ?_⟩;match w,hw,hwy with
 | b::w,hw,hwy =>
   have hb:b=a:=Option.some.inj hw.1;subst hb;have hw2:Wf succ x (x::b::w):=⟨rfl,hx,hw.2⟩;have hwy2:(x::b::w).getLast? = some y:=by rw [List.getLast?_cons_cons]; exact hwy
   rcases h.2.2 _ hw2 hwy2 with h1 | ⟨h1,h2⟩
   . exact .inl (by simp at h1 ⊢; exact h1)
   . exact .inr ⟨by simp at h1 ⊢; exact h1,zfb.1 h2⟩
theorem Best.drop {q:Pth} (h:Best succ x y q):∀ {i:Nat} (hi:i<q.length),Best succ q[i] y (q.drop i):=by
 intro i;induction i with
 | zero =>
   intro hi;match q,h,hi with
   | a::r,h,_ =>
     have:a=x:=Option.some.inj h.1.1;subst this;exact h
 | succ i ih =>
   intro hi;have h1:=ih (by omega)
   rw [List.drop_eq_getElem_cons (by omega),List.drop_eq_getElem_cons hi] at h1
   rw [List.drop_eq_getElem_cons hi];exact h1.tail
theorem Best.step {q:Pth} (h:Best succ x y q) {i:Nat} (hi:i+1<q.length):q[i+1]∈succ q[i]:=by
 have h1:=h.drop (i:=i) (by omega)
 rw [List.drop_eq_getElem_cons (by omega),List.drop_eq_getElem_cons hi] at h1
 exact h1.1.2.1
theorem Best.inj {q:Pth} (h:Best succ x y q) {i k:Nat} (hi:i<q.length) (hk:k<i):q[i]≠q[k]:=fun e=>by
 have h1:=h.drop hi;have h2:=h.drop (i:=k) (by omega)
 rw [e] at h1;have:=congrArg List.length (h1.eq h2);simp at this;omega
theorem Best.head {q:Pth} (h:Best succ x y q) (hi:0<q.length):q[0]=x:=by
 match q,h,hi with
 | a::r,h,_=>exact Option.some.inj h.1.1
theorem Best.last {q:Pth} (h:Best succ x y q) (hi:q.length - 1<q.length):q[q.length - 1]=y:=by
 have:=h.2.1;rw [List.getLast?_eq_getElem?,List.getElem?_eq_getElem hi] at this;exact Option.some.inj this
theorem Best.ne {q:Pth} (h:Best succ x y q):q≠[]:=h.1.ne
theorem Wf.mono {zfM:Str->List Str} (hs:∀ a b,b∈succ a->b∈zfM a) {w:Pth} (h:Wf succ x w):Wf zfM x w:=by
 refine ⟨h.1,?_⟩;have key:∀ w:Pth,Wk succ w->Wk zfM w:=by
  intro w;induction w with
  | nil=>exact fun _=>trivial
  | cons a w ih =>
    cases w with
    | nil=>exact fun _=>trivial
    | cons b w=>exact fun h=>⟨hs _ _ h.1,ih h.2⟩
 exact key w h.2
end
end
noncomputable section
theorem q5z {N:List Str} {S:Pth->List Str} (hS:∀ q b,b∈S q->b∈N) {M:Nat} {L:List Pth} {seen:List Str} (hL:∀ p∈L,p.length+un N seen<=M):∀ q∈(step S L seen).1,q.length+un N (step S L seen).2<=M:=fun q hq=>by
 have h1:=qdp hS (L:=L) (seen:=seen);have h2:1<=(step S L seen).1.length:=List.length_pos_iff.2 (List.ne_nil_of_mem hq);obtain ⟨p,b,hp,_,rfl⟩:=q0f hq;have:=hL p hp;rw [List.length_append,List.length_singleton];omega
theorem Bfs.len {N:List Str} {S:Pth->List Str} (hS:∀ q b,b∈S q->b∈N) {M:Nat} {y:Str} {L:List Pth} {seen:List Str} {o:Option Pth} (h:Bfs S y L seen o) (hL:∀ p∈L,p.length+un N seen<=M) {q:Pth} (ho:o=some q):q.length<=M:=by
 induction h with
 | found hf =>
   cases ho;have:=q5z hS hL q (List.mem_of_find?_eq_some hf);omega
 | over=>cases ho
 | next _ _ _ ih=>exact ih (q5z hS hL) ho
end
end Go.Bfs
namespace Go.Proofs.YtbhlngmhgplepaaDoor.Aes
noncomputable section
open Go.Sim
open Go.Proofs
open Go.Sort
open Go.Bfs
variable {α:Type}
theorem zdF.nil:zdF [] 0:=⟨⟨List.nodup_nil,fun _ h=>by cases h⟩,fun _ h=>(by cases h),fun _ h=>(by cases h),List.nodup_nil⟩
theorem jxh {es:List MapEntry} {x y:ByteArray} {q:Pth} (h:zbI es x y=some q):q.length<=es.length+1:=by
 have h1:=q0z es x y;rw [h] at h1;refine h1.len (N:=(srL es).map (·.2)) (fun q b h=>qgt h) (fun p hp => ?_) rfl
 rw [List.mem_singleton.1 hp];have:=jyd ((srL es).map (·.2)) [x]
 rw [List.length_map,qc2] at this;show 1+un _ [x]<=_;omega
section
variable {V:Nat->Value} {N n k:Nat} {x y:ByteArray}
theorem q6u (x y:ByteArray):(∀ p∈fwA x y true,p)\/((∀ p∈fwA x y false,p)/\x.size<=60/\y.size<=60):=by
 have hok:((twS x y).n:Int)<=2->(twS x y).ok:=fun _=>q0c x y;by_cases h:zhK (twS x y) 2
 . exact .inr ⟨zaa hok (zaa (by rw [qrc h]; rfl) qaa),h.2 0 (by show (0:Nat)<2; omega),h.2 1 (by show (1:Nat)<2; omega)⟩
 . exact .inl (zaa hok (zaa (by rw [q8b h]; rfl) qaa))
end
end
end Go.Proofs.YtbhlngmhgplepaaDoor.Aes
namespace Go.Sim
noncomputable section
theorem q7j {P:Program} {O:Nat->Prop} {w0 w:World} {β:Val} {H:List SO} {base:Nat} {f:FuncId} {vs:List Value} (hH:HeapRel0 P O w0 β H w) {n:Nat} {k' v':MSh} {es:List MapEntry} {c:Nat} (hx:∃ l,β n=some l/\w.heap[l.blk]? = some (.map es.toArray c)) {r:SV} {news:List SO}
  (h:qtb P H β w base f vs ⟨r,[(n,.obj (.zaU k' v' es c))],news⟩):qtb P H β w base f vs ⟨r,[],news⟩:=by
 intro hf;obtain ⟨_,h2⟩:=h hf;obtain ⟨l,hl,hh⟩:=hx;have key:∀ {β':Val} {w':World},Eff P β w base [(n,.obj (.zaU k' v' es c))] news β' w'->Eff P β w base [] news β' w':=fun {β' w'} hE=>by
  obtain ⟨l',x',hl',_,hd',hh'⟩:zaz P β' w' n (.obj (.zaU k' v' es c)):=hE.turned n _ (by simp)
  have e1:l'=l:=by rw [hE.le _ _ hl] at hl'; exact (Option.some.inj hl').symm
  rw [(zaW.za2.1 hd').2,e1] at hh';refine ⟨hE.le,hE.os,hE.tape,hE.output,hE.drawn,hE.size,hE.dom,fun b hb _ _ => ?_,fun _ _ _ h=>(by cases h),fun _ _ h=>(by cases h),fun i e he => ?_,hE.apart⟩
  . by_cases c':l.blk=b
    . rw [← c',hh,hh']
    . exact hE.frame b hb (fun m e l2 hm hl2=>by
       have hm:=List.mem_singleton.1 hm;cases hm;rw [hl] at hl2; cases hl2;exact c') fun m m' hm=>by
       have hm:=List.mem_singleton.1 hm;cases hm
  . obtain ⟨h1,h2,l2,h3,h4⟩:=hE.made i e he;refine ⟨h1,h2,l2,h3,.inl ?_⟩;rcases h4 with h4 | ⟨m,l3,h5,_⟩
    . exact h4
    . have h5:=List.mem_singleton.1 h5;cases h5
 refine ⟨fun _ _ h=>(by cases h),?_⟩
 rcases h2 with ⟨hb,hc⟩ | ⟨v1,w1,β1,h3,h4,h5⟩
 . exact .inl ⟨hb,hc.mono fun e w' ⟨v1,β1,h3,h4,h5⟩=>⟨v1,β1,h3,h4,key h5⟩⟩
 . exact .inr ⟨v1,w1,β1,h3,h4,key h5⟩
theorem HeapRel0.zgO {P:Program} {O:Nat->Prop} {w0 w:World} {β:Val} {H:List SO} (hH:HeapRel0 P O w0 β H w) {n:Nat} {o:zaW} (hn:H[n]? = some (.obj o)) {y:Obj} (hy:∀ x,o.den β=some x->x=y):∃ l,β n=some l/\w.heap[l.blk]? = some y:=by
 obtain ⟨l,x,hl,_,hd,hh⟩:zaz P β w n (.obj o):=(hH.entries n _ hn).zfL rfl;exact ⟨l,hl,by rw [hh,hy x hd]⟩
end
end Go.Sim
namespace Go.Proofs.YtbhlngmhgplepaaDoor.Aes
noncomputable section
open Go.Sim
open Go.Proofs
open Go.Sort
open Go.Bfs
variable {α:Type}
def onP (o:zaW):Option (za8 × za8):=match o with
 | .map [(.agg [.str a,.str b],.bool (.lit true),0)] 1=>some (a,b)
 | _=>none
theorem jac {o:zaW} {p:za8 × za8} (h:onP o=some p):o=.map [(.agg [.str p.1,.str p.2],.bool (.lit true),0)] 1:=by
 unfold onP at h;split at h
 . cases h; rfl
 . cases h
theorem qt2 (a b:za8) (f:Nat->Nat):(zaW.map [(.agg [.str a,.str b],.bool (.lit true),0)] 1).Imp ((zaW.zaU kPr vBo (zeY a.den b.den) 1).ren f):=fun β x h=>zaW.za2.2 ⟨fun e he=>by
  obtain rfl:=List.mem_singleton.1 he;exact ⟨fun _=>rfl,fun _=>rfl⟩,by
  have h:some (Obj.map #[⟨kyP (a.den,b.den),.bool true,0⟩] 1)=some x:=h;cases h;rfl⟩
def qb9 (H:List SO) (p:SV) (f:List MapEntry->Nat->R α):R α:=zah (q7o p) (.stuck 7851) fun m=>zah (nth H m) (.stuck 7852) fun e=>zah (q9o e) (.stuck 7853) fun s =>
 zab (qkj s) (f [] 0) (zah (qkm s) (.stuck 7854) fun mm=>zah (nth H mm) (.stuck 7855) fun e=>match e with
  | .obj (.zaU k v es c)=>zab (qnm k) (zab (q8o v) (zab (qmg [m,mm]) (f es c) (.stuck 7856)) (.stuck 7856)) (.stuck 7856)
  | .obj o=>zah (onP o) (.stuck 7858) fun q=>zab (qmg [m,mm]) (f (zeY q.1.den q.2.den) 1) (.stuck 7856)
  | _=>.stuck 7857)
def zkO (β:Val) (H:List SO) (w:World) (mm:Nat) (es:List MapEntry) (c:Nat):Prop:=(∃ o,H[mm]? = some (.obj o)/\∀ f,o.Imp ((zaW.zaU kPr vBo es c).ren f))/\∃ l,β mm=some l/\w.heap[l.blk]? = some (.map es.toArray c)
theorem q65 {P:Program} {O:Nat->Prop} {w0 w:World} {β:Val} {H:List SO} (hH:HeapRel0 P O w0 β H w) {p:SV} {f:List MapEntry->Nat->R α} {φ:α->Prop}
  (h0:∀ m e,p=.ptr ⟨m,.lit 0⟩->H[m]? = some e->(e=.row (.lst [.zau])\/∃ w el,e=.own (.lst [.zau]) w el)->(f [] 0).Sat φ)
  (h1:∀ m mm e es c,p=.ptr ⟨m,.lit 0⟩->H[m]? = some e->(e=.row (.lst [.map mm])\/∃ w el,e=.own (.lst [.map mm]) w el)->zkO β H w mm es c->[m,mm].Nodup->(f es c).Sat φ):(qb9 H p f).Sat φ:=by
 refine qfa fun m hm=>qfa fun e he=>qfa fun s hs => ?_
 have hs:=qli hs;rw [qda] at he;refine R.Sat.zab (fun hnl => ?_) fun _=>qfa fun mm hmm=>qfa fun e2 he2 => ?_
 . rw [qqf hnl] at hs;exact h0 m e (qbe hm) he hs
 . rw [qhf hmm] at hs;rw [qda] at he2;split
   . rename_i k v es c;refine qgb fun hk=>qgb fun hv=>qgb fun hd => ?_
     rw [qvg hk,qki hv] at he2;exact h1 m mm e es c (qbe hm) he hs ⟨⟨_,he2,fun _ _ _ h=>h⟩,hH.zgO he2 fun x hx=>(zaW.za2.1 hx).2⟩ (qtd hd)
   . rename_i o _;refine qfa fun q hq=>qgb fun hd => ?_
     rw [jac hq] at he2;exact h1 m mm e _ _ (qbe hm) he hs ⟨⟨_,he2,qt2 q.1 q.2⟩,hH.zgO he2 fun x hx=>(zaW.za2.1 (qt2 q.1 q.2 (fun n=>n) β x hx)).2⟩ (qtd hd)
   . trivial
def j9d:za3:=fun args H base=>q4o args fun p xv yv=>zah (zb0 xv) (.stuck 7850) fun x=>zah (zb0 yv) (.stuck 7850) fun y=>qb9 H p fun es c=>paR es c x.den y.den base
theorem zi9:qeb Tryd.prog 10 j9d:=by
 intro glob O w0 β H w base args vs hH hG ha;refine q1h fun p xv yv hv=>qfa fun x hx=>qfa fun y hy => ?_
 rw [hv,q8a hx,q8a hy] at ha;have ha:=qoa (.refl p) (qoa (q7b (t:=.sym x.den) rfl) (qoa (q7b (t:=.sym y.den) rfl) qdc)) _ _ ha;generalize x.den=x at ha ⊢;generalize y.den=y at ha ⊢;refine q65 hH (fun m e hp he hs => ?_) fun m mm e es c hp he hs he2 hd => ?_
 . rw [hp] at ha
   let I:Ifc:=⟨[m],[.row (.lst [.zau])],[.ptr ⟨0,.lit 0⟩,.str (.sym x),.str (.sym y)]⟩
   have hF:I.zbQ H:=Ifc.zbV (by simp [I]) rfl ⟨⟨⟨_,he,qpe hs rfl⟩,rfl⟩,trivial⟩
   refine ⟨fun hr=>⟨fun hxy => ?_,fun hxy=>fun hg=>⟨fun hb => ?_,fun hb => ?_⟩⟩,fun hr => ?_⟩
   . exact qcb q8c 4000 hH I (by intro g j hg; cases hg) ha hF [2] (by simp [I]) (by simp) (q0a (q68 x y) (zaa (q0c x y) (zaa (q7c hr) (zaa hxy qaa))) fun H2 hH2=>⟨qbp (by simp [I]),qcp,trivial,⟨.inl ⟨_,_,_,_,(List.cons.inj hH2).1,rfl,Cells.zaR rfl,rfl⟩,trivial⟩⟩)
   . rw [qzf rfl] at hb; cases hb
   . exact qcb q8c 4000 hH I (by intro g j hg; cases hg) ha hF [] (by simp) (by simp) (q0a (qp2 x y) (zaa (q0c x y) (zaa (q7c hr) (zaa hxy qaa))) fun H2 _=>⟨.refl _,rfl,trivial,trivial⟩)
   . exact qcb q8c 4000 hH I (by intro g j hg; cases hg) ha hF [] (by simp) (by simp) (q0a (q58 x y) (zaa (q0c x y) (zaa (q7c hr) qaa)) fun H2 _=>⟨.refl _,rfl,trivial,trivial⟩)
 . rw [hp] at ha;obtain ⟨⟨o,ho,hoi⟩,hx⟩:=he2
   let I:Ifc:=⟨[m,mm],[.row (.lst [.map 1]),.obj (.zaU kPr vBo es c)],[.ptr ⟨0,.lit 0⟩,.str (.sym x),.str (.sym y)]⟩
   have hF:I.zbQ H:=Ifc.zbV hd rfl ⟨⟨⟨_,he,qpe hs rfl⟩,rfl⟩,⟨⟨_,ho,_,rfl,hoi _⟩,rfl⟩,trivial⟩;have hS:∀ (keep:List Nat) {H2:List SO},H2[1]? = some (amE es c)->zcC I.big (I.seen keep) (I.out base keep) H2 (qpb I.ents 0) [(mm,.obj (.zaU kPr vBo es c))]:=fun keep H2 h0=>⟨⟨rfl,.inr ⟨_,_,h0,rfl,fun _ _ h=>h,rfl⟩⟩,trivial⟩;refine ⟨fun hr=>⟨fun hxy => ?_,fun hxy=>fun hg=>⟨fun hb => ?_,fun hb => ?_⟩⟩,fun hr => ?_⟩
   . refine q7j (k':=kPr) (v':=vBo) hH hx ?_
     exact qcb q8c 4000 hH I (by intro g j hg; cases hg) ha hF [3] (by simp [I]) (by simp) (q0a (q48 es c x y) (zaa (q0c x y) (zaa (q7c hr) (zaa hxy qaa))) fun H2 hH2=>⟨qbp (by simp [I]),qcp,hS _ (List.cons.inj hH2).1,⟨.inl ⟨_,_,_,_,(List.cons.inj (List.cons.inj hH2).2).1,rfl,Cells.zaR rfl,rfl⟩,trivial⟩⟩)
   . refine q7j (k':=kPr) (v':=vBo) hH hx ?_
     exact qcb q8c 4000 hH I (by intro g j hg; cases hg) ha hF [3] (by simp [I]) (by simp) (q0a (qn2 es c x y) (zaa (q0c x y) (zaa (q7c hr) (zaa hxy (zaa hg (zaa hb qaa))))) fun H2 hH2=>⟨qq2 (by simp [I]),qr2,hS _ (List.cons.inj hH2).1,⟨.inl ⟨_,_,_,_,(List.cons.inj (List.cons.inj hH2).2).1,fun _=>rfl,Cells.zaR rfl,rfl⟩,trivial⟩⟩)
   . refine q7j (k':=kPr) (v':=vBo) hH hx ?_
     exact qcb q8c 4000 hH I (by intro g j hg; cases hg) ha hF [] (by simp) (by simp) (q0a (qo2 es c x y) (zaa (q0c x y) (zaa (q7c hr) (zaa hxy (zaa hg (zaa hb qaa))))) fun H2 hH2=>⟨.refl _,rfl,hS _ (List.cons.inj hH2).1,trivial⟩)
   . refine q7j (k':=kPr) (v':=vBo) hH hx ?_
     exact qcb q8c 4000 hH I (by intro g j hg; cases hg) ha hF [] (by simp) (by simp) (q0a (q38 es c x y) (zaa (q0c x y) (zaa (q7c hr) qaa)) fun H2 hH2=>⟨.refl _,rfl,hS _ (List.cons.inj hH2).1,trivial⟩)
end
noncomputable section
open Go.Sim
open Go.Proofs
variable {α:Type}
def zdi (a:Int) (x y:ByteArray) (j:Nat):Value:=if j=0 then .int .i64 a else if j=1 then .string x else .string y
theorem jyh (a:Int) (x y:ByteArray):zfJ (zdi a x y) 1/\aFr (zdi a x y) 0=x/\aTo (zdi a x y) 0=y:=by
 refine ⟨fun i hi => ?_,rfl,rfl⟩;obtain rfl:i=0:=by omega
 exact ⟨⟨a,rfl⟩,rfl,rfl⟩
theorem jbc (a:SI) (x y:za8):(Cells.lst [.int .i64 a,.str x,.str y]).Imp (.raw (zdi a.den x.den y.den) (1 * 3)):=fun γ vs hv=>by
 have hv:SV.zal γ [.int .i64 a,.str x,.str y]=some vs:=hv;have hv:some [Value.int .i64 a.den,.string x.den,.string y.den]=some vs:=hv;cases hv;refine ⟨rfl,fun i v h => ?_⟩;match i,h with
 | 0,h=>cases h; rfl
 | 1,h=>cases h; rfl
 | 2,h=>cases h; rfl
 | i+3,h=>cases h
def q6z (H:List SO) (v:SV) (f:Pw->Nat->R α):R α:=v.asSlice (.stuck 7890) fun a l _=>zab (is0 a.off) (zah (nth H a.nm) (.stuck 7891) fun e=>match e with
 | .row (.raw V m)=>.need (m=m / 3 * 3) (f ⟨V,m / 3,l.den⟩ a.nm)
 | .own (.lst [iv,xv,yv]) _ _=>zah (zhE iv) (.stuck 7892) fun i=>zah (zb0 xv) (.stuck 7892) fun x=>zah (zb0 yv) (.stuck 7892) fun y=>f ⟨zdi i.den x.den y.den,1,l.den⟩ a.nm
 | _=>.stuck 7892) (.stuck 7893)
theorem q75 {H:List SO} {v:SV} {f:Pw->Nat->R α} {φ:α->Prop} (h:∀ t nm,(∀ g,∃ e',H[nm]? = some e'/\Taken g (rwA t.V t.N) e')->(∀ β x,v.den β=some x->∃ k,(slP nm t.n k).den β=some x)->(f t nm).Sat φ):(q6z H v f).Sat φ:=by
 unfold q6z;rcases q7h v with ⟨a,l,c,rfl⟩ | hv
 . refine qgb fun h0=>qfa fun e he => ?_
   have hsl:∀ β x,(SV.slice a l c).den β=some x->∃ k,(slP a.nm l.den k).den β=some x:=fun β x hx=>by
    obtain ⟨m,_,hd,_,_⟩:=qju hx;obtain ⟨nm,off⟩:=a;obtain rfl:=qyy h0;exact ⟨m,hd⟩
   rw [qda] at he;split
   . rename_i V m;intro hm;refine h ⟨V,m / 3,l.den⟩ a.nm (fun g=>⟨_,he,q0j (c0:=.raw V m) (.inl rfl) ?_⟩) hsl;show (Cells.raw V m).zfo (.raw V (m / 3 * 3));rw [← hm];exact Cells.Imp.front (.refl _)
   . rename_i iv xv yv w el;refine qfa fun i hi=>qfa fun x hx=>qfa fun y hy => ?_
     refine h ⟨zdi i.den x.den y.den,1,l.den⟩ a.nm (fun g=>⟨_,he,q0j (c0:=.lst [iv,xv,yv]) (.inr ⟨w,el,rfl⟩) ?_⟩) hsl;rw [qeo hi,q8a hx,q8a hy];exact Cells.Imp.front (jbc i x y)
   . trivial
 . rw [hv]; trivial
def jae:za3:=fun args H _=>quf args fun v mv=>zah (zhE mv) (.stuck 7894) fun m=>q9r v (.ok (bR ((0:Int)<=m.den))) fun _ _=>q6z H v fun t _=>.need ((t.n:Int)<=m.den->t.okA/\t.n<=1000000) (.ok (bR (shP t m.den)))
theorem zil:qeb Tryd.prog 6 jae:=by
 intro glob O w0 β H w base args vs hH hG ha;refine qed fun v mv hv=>qfa fun m hm => ?_
 rw [hv,qeo hm] at ha;have ha:=qoa (.refl v) (qoa (q6a (b:=.sym m.den) rfl) qdc) _ _ ha;generalize m.den=m at ha ⊢;refine qdm (fun hn => ?_) fun _ _ _ _=>q75 fun t nm ht hi hok => ?_
 . rw [hn] at ha;by_cases c:(0:Int) > m
   . exact q8k qui hH ha (fun _=>rfl) (fun _=>rfl) (jkg m) (zaa (decide_eq_true c) qaa) (q8b fun h=>by omega).symm
   . exact q8k qui hH ha (fun _=>rfl) (fun _=>rfl) (jjg m) (zaa (decide_eq_false c) qaa) (qrc (by omega)).symm
 . obtain ⟨x,ys,hx,hys,rfl⟩:=zae.1 ha;obtain ⟨k,hx'⟩:=hi _ _ hx;have hr:Runs zc2 6 [slP 0 t.n k,.int .i64 (.sym m)] [rwA t.V t.N] fun v _=>q7k (cB (shP t m)) v:=by
    by_cases c:(t.n:Int)<=m
    . exact jng k (hok c).1 c (hok c).2
    . exact q5d (c:=zc2) qui (q0a (jig t.V t.N t.n k m) (zaa (decide_eq_true (by omega)) qaa) fun H2 _=>⟨_,rfl,(q8b fun h=>c h.1).symm⟩)
   refine qqc (c:=zc2) hH ⟨[nm],[rwA t.V t.N],[slP 0 t.n k,.int .i64 (.sym m)]⟩ (by intro g j hg; cases hg) (zae.2 ⟨_,_,hx',hys,rfl⟩) (Ifc.zbV (by simp) rfl ⟨⟨(let ⟨e,h1,h2⟩:=ht _; ⟨e,h1,h2.q⟩),(show (rwA t.V t.N).zdg _ from trivial).q⟩,trivial⟩) [] (by simp) (by simp) (qec hr fun v H h=>qbg rfl h)
end
noncomputable section
open Go.Sim
open Go.Proofs
open Go.Bfs
variable {α:Type}
def rlHT:List (FuncId × za3):=[(8,exS),(6,jae),(7,fewS),(17,zjm),(34,zgJ),
 (10,j9d),(12,neSm),(18,q05)]
theorem j1k:∀ y∈rlHT,qeb Tryd.prog y.1 y.2:=zcu exOK (zcu zil (zcu zki (zcu mtOK (zcu qhw (zcu zi9 (zcu neOK (all1 j7d)))))))
def zbW:Cfg:=qhc (qkc rlHT)
theorem qbh:zaC zbW:=qpc j1k
section
variable (V:Nat->Value) (N n k:Nat) (x y:ByteArray) (w:Int) (X Y:ByteArray)
def moV:SV:=.agg [.int .i64 (.sym w),.str (.sym X),.str (.sym Y)]
def hlT (st:Option (Nat × Nat)):Tree:=qka (zbW.at st) 20000 4 [slP 0 n k,.str (.sym x),.str (.sym y),moV w X Y] [rwA V N]
end
section
variable (V:Nat->Value) (N n k:Nat) (x y:ByteArray) (w:Int) (X Y:ByteArray) (J:zaQ) (z:Nat->Nat->Nat) (mn:Bool) (es:List MapEntry) (c:Nat) (i:Nat)
def moE:SO:=.own (.lst [.int .i64 (.sym w),.str (.sym X),.str (.sym Y)]) true 36
def hlF:List SP:=q0b (qub (hlT V N n k x y w X Y (some (1,3))) [false,false,false]).frames [[(0,slP 0 n k),(1,.str (.sym x)),(2,.str (.sym y)),(7,.ptr ⟨1,.lit 0⟩),(9,.ptr ⟨2,.lit 0⟩),(10,.bool (.lit false)),(11,.int .i64 (.sym i))]]
def mpH:List HP:=(.ent (.own (.lst [zab mn .zau (.map 3)]) true 30))::zab mn [] [.ent (.obj (.zaU kPr vBo es c))]
def hlC:Cut:=⟨hlF V N n k x y w X Y i,(.ent (rwA V N))::(.ent (moE w X Y))::mpH mn es c⟩
def hlS (st:Option (Nat × Nat)):Tree:=za9 (zbW.at st) 20000 ((hlC V N n k x y w X Y mn es c i).fill J)
end
section
variable (V:Nat->Value) (N n k:Nat) (x y:ByteArray) (w:Int) (X Y:ByteArray) (J:zaQ) (z:Nat->Nat->Nat) (mn o:Bool) (es:List MapEntry) (c:Nat) (q:Pth) (d:Bool) (i j:Nat)
def hlSB:SS:=qub (hlS V N n k x y w X Y J0Q false [] 0 0 (some (1,4))) [false,true,false,true,false,false,false]
def rtV:SV:=.slice ⟨3,.lit 0⟩ (.sym q.length) (zab o (.sym 1) (.rest 3 0))
def rtE:SO:=.own (.fn (zc8 (qic q)) q.length) o 9
def hbT (l:List (Nat × SV)):List (Nat × SV):=(1,.str (.sym x))::(2,.str (.sym y))::(7,.ptr ⟨1,.lit 0⟩)::(9,.ptr ⟨2,.lit 0⟩)::(10,.bool (.sym d))::(12,rtV o q)::(13,.int .i64 (.lit 0))::(14,.int .i64 (.sym i))::l
def hbH:List HP:=(.ent .gone)::(.ent (moE w X Y))::(.ent (.own (.lst [zab mn .zau (.map 4)]) true 30))::(.ent (rtE o q))::zab mn [] [.ent (.obj (.zaU kPr vBo es c))]
def hbC:Cut:=⟨q0b (hlSB V N n k x y w X Y).frames [hbT x y o q d i []],hbH w X Y mn o es c q⟩
def hbS (st:Option (Nat × Nat)):Tree:=za9 (zbW.at st) 20000 ((hbC V N n k x y w X Y mn o es c q d i).fill J)
end
section
variable (V:Nat->Value) (N n k:Nat) (x y:ByteArray) (w:Int) (X Y:ByteArray) (J:zaQ) (z:Nat->Nat->Nat) (mn o:Bool) (es:List MapEntry) (c:Nat) (q:Pth) (d:Bool) (i j:Nat)
def hlSC:SS:=qub (hbS V N n k x y w X Y J0Q false false [] 0 [] false 0 (some (1,9))) [true]
def hcC:Cut:=⟨q0b (hlSC V N n k x y w X Y).frames [hbT x y o q d i [(15,.int .i64 (.sym j))]],hbH w X Y mn o es c q⟩
def hcS (st:Option (Nat × Nat)):Tree:=za9 (zbW.at st) 20000 ((hcC V N n k x y w X Y mn o es c q d i j).fill J)
end
section
variable (V:Nat->Value) (N n k:Nat) (x y:ByteArray) (w:Int) (X Y:ByteArray) (J:zaQ) (z:Nat->Nat->Nat) (mn o:Bool) (es:List MapEntry) (c:Nat) (q:Pth) (d:Bool) (i j:Nat)
def hlSD:SS:=qub (hcS V N n k x y w X Y J0Q false false [] 0 [] false 0 0 (some (1,9))) [false]
def hdC:Cut:=⟨q0b (hlSD V N n k x y w X Y).frames [hbT x y o q d i [(16,.int .i64 (.sym j))]],hbH w X Y mn o es c q⟩
def hdS (st:Option (Nat × Nat)):Tree:=za9 (zbW.at st) 20000 ((hdC V N n k x y w X Y mn o es c q d i j).fill J)
end
section
variable (V:Nat->Value) (N n k:Nat) (x y:ByteArray) (w:Int) (X Y:ByteArray) (J:zaQ) (z:Nat->Nat->Nat) (mn o:Bool) (es:List MapEntry) (c:Nat) (q:Pth) (d:Bool) (i j:Nat)
def hlSE:SS:=qub (hbS V N n k x y w X Y J0Q false false [] 0 [] false 0 (some (1,3))) [false]
def hnT (l:List (Nat × SV)):List (Nat × SV):=(1,.str (.sym x))::(2,.str (.sym y))::(7,.ptr ⟨1,.lit 0⟩)::(9,.ptr ⟨2,.lit 0⟩)::(10,.bool (.sym d))::(12,rtV o q)::(13,.int .i64 (.lit 0))::l
def hnC:Cut:=⟨q0b (hlSE V N n k x y w X Y).frames [hnT x y o q d [(17,.int .i64 (.sym i))]],hbH w X Y mn o es c q⟩
def hnS (st:Option (Nat × Nat)):Tree:=za9 (zbW.at st) 20000 ((hnC V N n k x y w X Y mn o es c q d i).fill J)
end
section
variable (V:Nat->Value) (N n k:Nat) (x y:ByteArray) (w:Int) (X Y:ByteArray) (J:zaQ) (z:Nat->Nat->Nat) (mn:Bool) (rk:Nat) (es:List MapEntry) (c:Nat) (q:Pth) (hn kz kw:Bool) (i:Nat)
def hlSF:SS:=qub (hnS V N n k x y w X Y J0Q false false [] 0 [] false 0 (some (1,3))) [true,false,false,false]
def rkA:SV:=ntC rk .zad fun r=>ntC r .zad fun r=>.slice ⟨zab mn 5 6,.lit 0⟩ (.sym q.length) (ntC r (.rest (zab mn 5 6) 0) fun _=>.sym 1)
def rkI:Int:=ntC rk 2 fun r=>ntC r 9 fun _=>0
def rkH:List HP:=ntC rk [] fun r=>ntC r [] fun r=>[.ent (.own (.fn (zc8 (qic q)) q.length) (ntC r false fun _=>true) 9)]
def hyV (nm:Nat) (x y:ByteArray) (kz:Bool):SV:=zab hn .zad (zab kz (h0V nm x y) (h1V nm x y))
def hyE (x y:ByteArray) (kz:Bool):SO:=zab hn .gone (zab kz (upE (zaP x) x) (h1E x y))
def hfC:Cut:=⟨q0b (hlSF V N n k x y w X Y).frames [[(1,.str (.sym x)),(2,.str (.sym y)),(7,.ptr ⟨1,.lit 0⟩),(9,.ptr ⟨2,.lit 0⟩),(12,rkA mn rk q),(13,.int .i64 (.lit (rkI rk))),(20,hyV hn 3 x y kz),(22,hyV hn 4 y x kw),(24,.int .i64 (.sym i))]],
 (.ent .gone)::(.ent (moE w X Y))::(.ent (.own (.lst [zab mn .zau (.map 5)]) true 30))::(.ent (hyE hn x y kz))::(.ent (hyE hn y x kw))::app (zab mn [] [.ent (.obj (.zaU kPr vBo es c))]) (rkH rk q)⟩
def hfS (st:Option (Nat × Nat)):Tree:=za9 (zbW.at st) 20000 ((hfC V N n k x y w X Y mn rk es c q hn kz kw i).fill J)
end
section
variable (x y:ByteArray) (w:Int) (X Y:ByteArray) (J:zaQ)
def hzT (st:Option (Nat × Nat)):Tree:=qka (zbW.at st) 20000 4 [.zad,.str (.sym x),.str (.sym y),moV w X Y] [.gone]
def hzC:Cut:=⟨q0b (qub (hzT x y w X Y (some (1,3))) [false,false,false]).frames [[(0,.zad),(1,.str (.sym x)),(2,.str (.sym y)),(7,.ptr ⟨1,.lit 0⟩),(9,.ptr ⟨2,.lit 0⟩),(10,.bool (.lit false)),(11,.int .i64 (.lit 0))]],[.ent .gone,.ent (moE w X Y),.ent (.own (.lst [.zau]) true 30)]⟩
def hzS (st:Option (Nat × Nat)):Tree:=za9 (zbW.at st) 20000 ((hzC x y w X Y).fill J)
end
end
end Go.Proofs.YtbhlngmhgplepaaDoor.Aes
