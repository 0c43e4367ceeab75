/-
  zda behind one another: the symbolic simulator and what it is told of the program.
-/
import Derived.Test.YtbhlngmhgplepaaDoorZqSrp7
import Derived.Test.YtbhlngmhgplepaaDoorPq10
set_option maxRecDepth 1000000
namespace Go.Proofs.YtbhlngmhgplepaaDoor.Aes
noncomputable section
open Go.Sim
open Go.Proofs
open Go.Sort
open Go.Bfs
variable {α:Type}
theorem q42 {A l B:List Pth} {f:Pth->Bool} {k:Nat} (hk:k<l.length) (h:(A++l.take k).find? f=none) (hf:f l[k]=true):(A++l++B).find? f=some l[k]:=by
 have e:A++l++B=(A++l.take k)++(l[k]::(l.drop (k+1)++B)):=by
  have h1:l=l.take k++l[k]::l.drop (k+1):=by rw [List.getElem_cons_drop,List.take_append_drop]
  calc A++l++B=A++(l.take k++l[k]::l.drop (k+1))++B:=by rw [← h1]
   _=_:=by simp only [List.append_assoc,List.cons_append]
 rw [e,List.find?_append,h,List.find?_cons,hf]; rfl
theorem q52 {A:List Pth} {q:Pth} {f:Pth->Bool} (h:A.find? f=none) (hf:f q=false):(A++[q]).find? f=none:=by
 rw [List.find?_append,h]; simp [hf]
theorem qdt {y:Str} {q:Pth} (h:q≠[]):qjd y q=decide (q.getLast h=y):=by
 unfold qjd;rw [List.getLast?_eq_some_getLast h];by_cases e:q.getLast h=y
 . simp [e]
 . simp [e]
section
variable {es:List MapEntry} {c:Nat} {x y:ByteArray}
set_option maxHeartbeats 0 in
theorem sr_d {a:BA} {k:Nat} {Vl:Nat->Value} {nl:Nat} {l:List Pth} (hz:es.length<=1000000) (J:zaW) (h:SrQ es x y (.d a k Vl nl l)):SrT es c x y (.d a k Vl nl l) J:=by
 obtain ⟨hI,hc,N0,S0,hs,he,hNx,hk,hrow,hnl,hsz,hq⟩:BInv es x y a/\∃ (h:a.p<a.L.length) (N0:List Pth) (S0:List Str),Go.Bfs.step (zbG (srL es)) (a.L.take a.p) a.zbd=(N0,S0)/\ext a.L[a.p] (zbG (srL es) a.L[a.p]) S0=(l,a.Sn)/\a.Nx=N0++l.take k/\k<=l.length /\
   zbs za8 a.m Vl l/\nl=l.length/\N0.length+l.length+unQ es a.Sn<=es.length+2/\∀ r∈l,r≠[]/\r.length+unQ es a.Sn<=es.length+2:=h
 subst hnl;have hM:=hI.szC;have hNl:a.Nx.length=N0.length+k:=by rw [hNx,List.length_append,List.length_take]; omega
 show qgb zcl 3 (SrC es c x y) _ _ ((dCQ es c x y a.es2 a.c2 (bst a.m a.es3 a.c3 a.f a.VL a.n a.p a.b a.VN a.nn) ⟨true,Vl,l.length⟩ k).fill J);by_cases hc2:k<l.length
 . have hP:za8 a.m (dVq k Vl) l[k]:=by rw [zlc]; exact hrow _ hc2
   obtain ⟨hne,hlq⟩:=hq _ (List.getElem_mem hc2);have hG:∀ {r:List Prop},(∀ p∈r,p)->∀ p∈dG a.m k Vl l.length r,p:=fun hr=>zaa (decide_eq_true (by omega)) (zaa ⟨by omega,by omega⟩ (zaa (by omega) (hP.strs.zc3 hne (by omega) hr)))
   have hS:qqf a.m (dVq k Vl)=l[k].getLast hne:=hP.strs.zcY hne;by_cases hy:l[k].getLast hne=y
   . refine qta none 20000 (fun z=>jnc es c x y a.es2 a.c2 J a.m a.es3 a.c3 a.f a.VL a.n a.p a.b a.VN a.nn k Vl l.length z) (hG (zaa (decide_eq_true (hS.trans hy)) qaa)) fun H hH => ?_
     obtain ⟨h0,h1⟩:=List.cons.inj (show [H[1]?,H[2]?]=[some (.obj (.za6 kPr vBo es c)),some (.mem a.m)] from hH)
     refine ⟨h0,.inr ⟨_,l[k],a.m,rfl,hI.fin _ (.found ?_),(List.cons.inj h1).1,hP,by omega⟩⟩
     have hL:a.L=a.L.take a.p++a.L[a.p]::a.L.drop (a.p+1):=by rw [List.getElem_cons_drop,List.take_append_drop]
     have hst:∃ B,(Go.Bfs.step (zbG (srL es)) a.L a.zbd).1=N0++l++B:=by
      rw [hL,Go.Bfs.zdv,hs];refine ⟨(Go.Bfs.step (zbG (srL es)) (a.L.drop (a.p+1)) (ext a.L[a.p] (zbG (srL es) a.L[a.p]) S0).2).1,?_⟩;show N0++((ext a.L[a.p] (zbG (srL es) a.L[a.p]) S0).1++_)=_;rw [he];simp
     obtain ⟨B,hB⟩:=hst;rw [hB];refine q42 hc2 ?_ ?_
     . rw [← hNx]; exact hI.zeg
     . rw [qdt hne]; exact decide_eq_true hy
   . have hno:qjd y l[k]=false:=by rw [qdt hne]; exact decide_eq_false hy
     have hcond:decide (qqf a.m (dVq k Vl)=y)=false:=decide_eq_false (by rw [hS]; exact hy)
     have hT:l.take (k+1)=l.take k++[l[k]]:=qjg hc2;have hN':a.Nx++[l[k]]=N0++l.take (k+1):=by rw [hNx,hT]; simp
     have hmu:∀ A:Nat,A=a.Nx.length+1->(3 * unQ es a.Sn+2 * (A - (k+1)+l.length)+(a.L.length - a.p)) * SrK es+(l.length - (k+1))<(3 * unQ es a.Sn+2 * (a.Nx.length - k+l.length)+(a.L.length - a.p)) * SrK es+(l.length - k):=fun A hA=>by
      have e:A - (k+1)=a.Nx.length - k:=by omega
      rw [e]; omega
     have hI':∀ (V:Nat->Value) (n:Nat),zfK a.m true V n (a.Nx++[l[k]])->BInv es x y { a with b:=true,VN:=V,nn:=n,Nx:=a.Nx++[l[k]] }:=fun V n hn =>
      ⟨hI.tab,hI.bd,hI.lv,hI.lvn,hI.ne,hn,hI.seen,hI.fin,q52 hI.zeg hno,hI.szC,hI.szL,fun q hq'=>by
       rcases List.mem_append.1 hq' with h | h
       . exact hI.szN q h
       . obtain rfl:=List.mem_singleton.1 h;exact ⟨hne,hlq⟩⟩
     rcases hI.nx with ⟨hb,hnn,hnne,zkJ⟩ | ⟨hb,hnil⟩
     . rw [hb];refine qsc (some (1,12)) 20000 (names:=n12) (Sr.d { a with b:=true,VN:=dWq a.VN a.nn k Vl,nn:=(a.nn+1) * 1,Nx:=a.Nx++[l[k]] } (k+1) Vl l.length l) ⟨⟨hI' _ _ (.inl ⟨rfl,?_,by simp,?_⟩),hc,N0,S0,hs,he,hN',hc2,hrow,rfl,hsz,hq⟩,hmu _ (by simp)⟩ (fun z=>jfi es c x y a.es2 a.c2 J a.m a.es3 a.c3 a.f a.VL a.n a.p a.VN a.nn k Vl l.length z) (jse es c x y _ _ _ _ _ _ _ _ _ _ _ _ _ _ _) (fun q hq p u hp hu => ?_) (fun e he=>by cases he)
        (hG (zaa hcond (zaa hP.strs.one (zaa (Nat.le_refl 1) (zaa (by omega) (zaa ⟨⟨by omega,by omega⟩,fun i hi => ?_⟩ (zaa (qte (by omega)) qaa)))))))
       . rw [hnn,List.length_append]; simp
       . refine zkJ.snoc ?_ fun i hi=>jwm (by omega)
         rw [← hnn,jxm]; exact hP
       . obtain rfl:=List.mem_singleton.1 hq;refine q6a (q02 es c x y _ _ _ _ _ _ _ _ _ _ _ _ _ _) hp hu ?_
         show SV.Imp _ (SV.slice ⟨12,.lit 0⟩ (.sym ((a.nn+1) * 1)) (.rest 12 0));rw [Nat.mul_one];exact .refl _
       . obtain rfl:i=0:=by omega
         exact hP.strs.one
     . rw [hb];refine qsc (some (1,12)) 20000 (names:=n12) (Sr.d { a with b:=true,VN:=atV [dVq k Vl],nn:=1,Nx:=a.Nx++[l[k]] } (k+1) Vl l.length l) ⟨⟨hI' _ _ (.inl ⟨rfl,?_,by simp,?_⟩),hc,N0,S0,hs,he,hN',hc2,hrow,rfl,hsz,hq⟩,hmu _ (by simp)⟩ (fun z=>jei es c x y a.es2 a.c2 J a.m a.es3 a.c3 a.f a.VL a.n a.p a.VN a.nn k Vl l.length z) (jse es c x y _ _ _ _ _ _ _ _ _ _ _ _ _ _ _) (fun q hq p u hp hu => ?_) (fun e he E0 hE0 => ?_)
        (hG (zaa hcond (zaa hP.strs.one (zaa (qte (by omega)) qaa))))
       . rw [hnil]; rfl
       . rw [hnil];refine zbs.snoc (V:=fun _=>undef) zbs.nil ?_ fun i hi=>by cases hi
         exact hP
       . obtain rfl:=List.mem_singleton.1 hq;refine q6a (q02 es c x y _ _ _ _ _ _ _ _ _ _ _ _ _ _) hp hu ?_
         exact fun γ v hv=>hv
       . obtain rfl:=List.mem_singleton.1 he;have h1:=zla es c x y a.es2 a.c2 a.m a.es3 a.c3 a.f a.VL a.n a.p (atV [dVq k Vl]) 1 (k+1) Vl l.length;have hE0:(dX es c x y a.es2 a.c2 a.m a.es3 a.c3 a.f a.VL a.n a.p true (atV [dVq k Vl]) 1 (k+1) Vl l.length).heap[9]? = some E0:=hE0;rw [h1] at hE0;cases hE0;refine ⟨_,rfl,fun γ vs hv => ?_⟩;have hv:some [dVq k Vl]=some vs:=hv;cases hv;refine ⟨rfl,fun i w hw => ?_⟩;match i,hw with
         | 0,hw=>exact (Option.some.inj hw).symm
 . have hke:k=l.length:=by omega
   subst hke;have hd:decide ((l.length:Int)<(l.length:Int))=false:=decide_eq_false (by omega)
   rw [List.take_length] at hNx;refine qya (some (1,8)) 20000 (names:=n11) (Sr.b { a with p:=a.p+1 }) ⟨⟨⟨hI.tab,hI.bd,hI.lv,hI.lvn,hI.ne,hI.nx,hI.seen,hI.fin,hI.zeg,hI.szC,hI.szL,hI.szN⟩,hc,?_,?_⟩,?_⟩ (fun z=>zlb es c x y a.es2 a.c2 J a.m a.es3 a.c3 a.f a.VL a.n a.p a.b a.VN a.nn l.length Vl l.length z) (qq6 es c x y _ _ _ _ _ _ _ _ _ _ _ _) (zaa hd (zaa (qte (by omega)) qaa))
   . show Go.Bfs.step (zbG (srL es)) (a.L.take (a.p+1)) a.zbd=(a.Nx,a.Sn);rw [qjg hc,qfk,hs];show (N0++(ext a.L[a.p] (zbG (srL es) a.L[a.p]) S0).1,(ext a.L[a.p] (zbG (srL es) a.L[a.p]) S0).2)=_;rw [he,hNx]
   . show a.Nx.length+unQ es a.Sn<=_;omega
   . show (3 * unQ es a.Sn+2 * a.Nx.length+(a.L.length - (a.p+1))) * SrK es+(2 * es.length+9)<(3 * unQ es a.Sn+2 * (a.Nx.length - l.length+l.length)+(a.L.length - a.p)) * SrK es+(l.length - l.length);exact quj (by omega) (by unfold SrK; omega)
theorem joi (hm:zd4 es c) (hz:es.length<=1000000) (hne:zfo es=false):Runs zcl 35 [.ptr ⟨0,.lit 0⟩,.str (.sym x),.str (.sym y)] [.row (.lst [.map 1]),.obj (.za6 kPr vBo es c),.mem m0Q] (SrD es c x y):=by
 refine q7c jci (SrC es c x y) (SrQ es x y) (zfJ es) (fun g nm hg=>by cases hg) ?_ fun a ha J => ?_
 . refine qgc (some (2,2)) 20000 (names:=tg9) (Sr.t [] 0 m0Q 0) ⟨Nat.zero_le _,TabAt.empty,Mem.zcL⟩ (fun z=>jdi es c x y m0Q z) (q4m es c x y m0Q [] 0 m0Q 0 _ _ _ _) (fun q hq p u hp hu => ?_) (fun e he E0 hE0 => ?_) (zaa ⟨hm,hz⟩ (zaa hne qaa))
   . obtain rfl:=List.mem_singleton.1 hq;exact q6a (jnm es c x y m0Q [] 0 m0Q 0) hp hu (qab rfl)
   . obtain rfl:=List.mem_singleton.1 he;have hE0:(tgC es c x y m0Q [] 0 m0Q 0).heap[3]? = some E0:=hE0;rw [jom es c x y m0Q [] 0 m0Q 0] at hE0;cases hE0;exact ⟨_,rfl,fun β x h=>za7.zbr.2 ⟨fun e he=>(by cases he),by cases h; rfl⟩⟩
 . cases a with
   | t es2 c2 m2 i=>exact sr_t hz J ha
   | b a=>exact sr_b hz J ha
   | c a q=>exact sr_c hz J ha
   | d a k Vl nl l=>exact sr_d hz J ha
end
end
end Go.Proofs.YtbhlngmhgplepaaDoor.Aes
namespace Go.Sim
noncomputable section
open Go
theorem qyo {c:Cfg} {f:FuncId} {args:List SV} {H:List SO} {D D':SV->List SO->Prop} (hr:Runs c f args (H++[SO.mem zcW]) D) (hno:∀ (n:Nat) (m':Mem),H[n]? ≠ some (SO.mem m'))
  (h:∀ (O:Nat->Prop) (w0 w:World) (β:Val) (v:SV) (H2:List SO) (x:Value),D v H2->v.den β=some x->zae c.P O w0 β H2 w->∃ β' v' H3,D' v' H3/\β.le β'/\v'.den β'=some x/\zae c.P O w0 β' H3 w):Runs c f args H D':=by
 refine ⟨hr.1,fun O w0 w β vs hH hG ha=>(hr.2 O w0 w β vs (hH.zga zbu.none hno) hG ha).mono fun e w' zbI => ?_⟩;obtain ⟨v,H2,x,β',he,hD,hle,hv,hH2⟩:=zbI;obtain ⟨β'',v',H3,hD',hle',hv',hH3⟩:=h O w0 w' β' v H2 x hD hv hH2;exact ⟨v',H3,x,β'',he,hD',fun n l hn=>hle' _ _ (hle _ _ hn),hv',hH3⟩
end
end Go.Sim
namespace Go.Proofs.YtbhlngmhgplepaaDoor.Aes
noncomputable section
open Go.Sim
open Go.Proofs
open Go.Sort
open Go.Bfs
variable {α:Type}
def zcy (es:List MapEntry) (x y:ByteArray):Option Pth:=@Classical.epsilon _ ⟨none⟩ (SrB es x y)
theorem qhl {es:List MapEntry} {x y:ByteArray} {o:Option Pth} (h:SrB es x y o):zcy es x y=o:=(Classical.epsilon_spec (p:=SrB es x y) ⟨o,h⟩).det h
def seQ (es:List MapEntry) (x y:ByteArray):Pth:=(zcy es x y).getD []
def zha (q:Pth):SO:=.own (.fn (zdg (q2c q)) q.length) false 9
def zeP (nm:Nat) (q:Pth):SV:=.slice ⟨nm,.lit 0⟩ (.sym q.length) (.rest nm 0)
def seD (es:List MapEntry) (c:Nat) (x y:ByteArray) (v:SV) (H:List SO):Prop:=H[1]? = some (.obj (.za6 kPr vBo es c))/\((v=.zac/\zcy es x y=none)\/∃ nm q V,2<=nm/\v=zeP nm q/\zcy es x y=some q/\H[nm]? = some (.own (.raw V q.length) false 9)/\∀ i (h:i<q.length),V i=.string q[i])
theorem qk9 {l:List ByteArray} {i:Nat} (h:i<l.length):q2c l i=l[i]:=by unfold q2c; rw [List.getElem?_eq_getElem h]; rfl
theorem ql9 {P:Program} {O:Nat->Prop} {w0 w:World} {β:Val} {H2:List SO} {m:Mem} {j:Nat} {u x:Value} {q:Pth} (hj:H2[j]? = some (.mem m)) (hp:za8 m u q) (hx:(SV.val u).den β=some x) (hH:zae P O w0 β H2 w) :
  ∃ β' V,β.le β'/\(zeP H2.length q).den β'=some x/\zae P O w0 β' (H2.set j (.mem (m.drop (zaS u).block))++[.own (.raw V q.length) false 9]) w/\∀ i (h:i<q.length),V i=.string q[i]:=by
 obtain ⟨b,cap,rfl,h2,h3,h4⟩:=hp;obtain ⟨h5,h6⟩:=hH.borrow hj (fun k m' hk=>hH.zbE k j m' m hk hj) h4;refine ⟨_,_,h6,?_,h5,fun i hi => ?_⟩
 . cases hx;refine zaf.2 ⟨⟨b,0,none⟩,cap,?_,?_,h2,rfl⟩
   . show Option.map _ ((β.upd H2.length ⟨b,0,cap⟩) H2.length)=_;rw [Val.upd_same]; rfl
   . show Option.map _ ((β.upd H2.length ⟨b,0,cap⟩) H2.length)=_;rw [Val.upd_same]; rfl
 . show zc2 m ⟨b,0,none⟩ i=_;exact qrp h3 hi
section
variable {es:List MapEntry} {c:Nat} {x y:ByteArray}
theorem q62 (hm:zd4 es c) (hz:es.length<=1000000) (hne:zfo es=false):Runs zcl 35 [.ptr ⟨0,.lit 0⟩,.str (.sym x),.str (.sym y)] [.row (.lst [.map 1]),.obj (.za6 kPr vBo es c)] (seD es c x y):=by
 refine qyo (joi hm hz hne) (fun n m' h => ?_) fun O w0 w β v H2 u hD hv hH => ?_
 . match n,h with
   | 0,h=>cases h
   | 1,h=>cases h
 . obtain ⟨h1,⟨rfl,h2⟩ | ⟨u',q,m,rfl,h2,h3,h4,h5⟩⟩:=hD
   . exact ⟨β,_,H2,⟨h1,.inl ⟨rfl,qhl h2⟩⟩,fun n l h=>h,hv,hH⟩
   . obtain ⟨β',V,h6,h7,h8,h9⟩:=ql9 h3 h4 hv hH;have hlen:2<H2.length:=(List.getElem?_eq_some_iff.1 h3).1;refine ⟨β',_,_,⟨?_,.inr ⟨H2.length,q,V,by omega,rfl,qhl h2,?_,h9⟩⟩,h6,h7,h8⟩
     . rw [List.getElem?_append_left (by simp; omega),List.getElem?_set_ne (by omega)]; exact h1
     . rw [List.getElem?_append_right (by simp)]; simp
end
def qr6:Cfg:=qyb (q2b zjq)
theorem q72:zaw qr6:=qdc qf9
section
variable (es:List MapEntry) (c:Nat) (x y:ByteArray)
def szT:Tree:=qla qr6 4000 35 [.ptr ⟨0,.lit 0⟩,.str (.sym x),.str (.sym y)] [.row (.lst [.zaD])]
def seT:Tree:=qla qr6 4000 35 [.ptr ⟨0,.lit 0⟩,.str (.sym x),.str (.sym y)] [.row (.lst [.map 1]),.obj (.za6 kPr vBo es c)]
theorem jym:zaP [] (szT x y) []=([],some (.zac,[])):=by kernel_rfl
theorem jzm:zaP [1] (seT es c x y) [true]=([agG es c,zfo es=true],some (.zac,[some (.obj (.za6 kPr vBo es c))])):=by kernel_rfl
end
theorem q6m {es:List MapEntry} {x y:ByteArray} (h:zfo es=true):zcy es x y=none:=by
 refine qhl (.over ?_);have:srL es=[]:=List.length_eq_zero_iff.1 (by rw [qtj]; unfold zfo at h; cases es <;> first | rfl | cases h)
 rw [this];show ([]++[]:List Pth)=[];rfl
theorem q8t {V:Nat->Value} {q:Pth} (h:∀ i (h:i<q.length),V i=.string q[i]):(Cells.raw V q.length).Imp (.fn (zdg (q2c q)) q.length):=fun γ vs hv=>by
 obtain ⟨h1,h2⟩:vs.length=q.length/\∀ (i:Nat) (x:Value),vs[i]? = some x->x=V i:=hv;refine ⟨h1,fun i x hx => ?_⟩;have hi:i<q.length:=by rw [← h1]; exact (List.getElem?_eq_some_iff.1 hx).1
 rw [h2 i x hx,h i hi];show some (Value.string (q2c q i))=_;rw [qk9 hi]
def seR (base:Nat) (es:List MapEntry) (c:Nat) (x y:ByteArray):R zaz :=
 .need (agG es c) (.fork (zcy es x y).isSome (.ok ⟨zeP base (seQ es x y),[],[zha (seQ es x y)]⟩) (.ok ⟨.zac,[],[]⟩))
def seSm:zaR:=fun args H base=>qrh args fun p xv yv=>zah (zbH xv) (.stuck 7850) fun x=>zah (zbH yv) (.stuck 7850) fun y=>zah (q8s p) (.stuck 7851) fun m=>zah (nth H m) (.stuck 7852) fun e=>zah (qat e) (.stuck 7853) fun s =>
 zab (qdl s) (.ok ⟨.zac,[],[]⟩) (zah (qmp s) (.stuck 7854) fun mm=>zah (nth H mm) (.stuck 7855) fun e=>match e with
  | .obj (.za6 k v es c)=>zab (qnp k) (zab (q9s v) (zab (q6i [m,mm]) (seR base es c x.den y.den) (.stuck 7856)) (.stuck 7856)) (.stuck 7856)
  | _=>.stuck 7857)
theorem seOK:q2a Tryd.prog 35 seSm:=by
 intro glob O w0 β H w base args vs hH hG ha;refine qxd fun p xv yv hv=>qca fun x hx=>qca fun y hy=>qca fun m hm=>qca fun e he=>qca fun s hs => ?_
 rw [hv,qpi hm,qua hx,qua hy] at ha;have ha:=qja (.refl _) (qja (qhb (t:=.sym x.den) rfl) (qja (qhb (t:=.sym y.den) rfl) qsb)) _ _ ha;generalize x.den=x at ha ⊢;generalize y.den=y at ha ⊢;have hs:=q2m hs;rw [qea] at he;refine R.Sat.zab (fun hnl => ?_) fun _=>qca fun mm hmm=>qca fun e2 he2 => ?_
 . rw [quh hnl] at hs
   let I:Ifc:=⟨[m],[.row (.lst [.zaD])],[.ptr ⟨0,.lit 0⟩,.str (.sym x),.str (.sym y)]⟩
   exact qmb q72 4000 hH I (by intro g j hg; cases hg) ha (Ifc.zbD (by simp [I]) rfl ⟨⟨⟨_,he,qig hs rfl⟩,rfl⟩,trivial⟩) [] (by simp) (by simp) (q5a (jym x y) qaa fun H2 _=>⟨.refl _,rfl,trivial,trivial⟩)
 . split
   . rename_i k v es c;refine qcb fun hk=>qcb fun hv=>qcb fun hd => ?_
     have hd:=qxf hd;rw [qyg hmm] at hs;rw [qea] at he2;rw [qni hk,q1m hv] at he2;intro hg
     let I:Ifc:=⟨[m,mm],[.row (.lst [.map 1]),.obj (.za6 kPr vBo es c)],[.ptr ⟨0,.lit 0⟩,.str (.sym x),.str (.sym y)]⟩
     have hF:I.zbS H:=Ifc.zbD hd rfl ⟨⟨⟨_,he,qig hs rfl⟩,rfl⟩,⟨⟨_,he2,_,rfl,fun _ _ h=>h⟩,rfl⟩,trivial⟩;cases hn:zfo es with
     | true =>
       refine ⟨fun hs => ?_,fun _ => ?_⟩
       . rw [q6m hn] at hs; cases hs
       . refine qle (k':=kPr) (v':=vBo) hH he2 ?_
         exact qmb q72 4000 hH I (by intro g j hg; cases hg) ha hF [] (by simp) (by simp) (q5a (jzm es c x y) (zaa hg (zaa hn qaa)) fun H2 hH2=>⟨.refl _,rfl,⟨⟨rfl,.inr ⟨_,_,(List.cons.inj hH2).1,rfl,fun _ _ h=>h,rfl⟩⟩,trivial⟩,trivial⟩)
     | false =>
       refine ⟨fun hs => ?_,fun hs => ?_⟩
       . refine qle (k':=kPr) (v':=vBo) hH he2 ?_
         refine q9h (c:=zcl) hH I (by intro g j hg; cases hg) ha hF (qjb (q62 (es:=es) (c:=c) (x:=x) (y:=y) hg.1 hg.2 hn) fun v H2 hD => ?_)
         obtain ⟨h1,⟨rfl,h2⟩ | ⟨nm,q,V,h0,rfl,h2,h3,h4⟩⟩:=hD
         . rw [h2] at hs; cases hs
         . have hq:seQ es x y=q:=by unfold seQ; rw [h2]; rfl
           rw [hq];have hnm:I.names.length<=nm:=h0;refine ⟨[nm],fun j hj=>by rw [List.mem_singleton.1 hj]; exact hnm,by simp,?_,?_,⟨⟨rfl,.inr ⟨_,_,h1,rfl,fun _ _ h=>h,rfl⟩⟩,trivial⟩,⟨.inl ⟨_,_,_,_,h3,trivial,q8t h4,rfl⟩,trivial⟩⟩
           . show SV.Imp (.slice ⟨I.out base [nm] nm,.lit 0⟩ (.sym q.length) (.rest (I.out base [nm] nm) 0)) _;rw [zge hnm];exact .refl _
           . show (I.seen [nm] nm && I.seen [nm] nm)=true;rw [qxm]; rfl
       . refine qle (k':=kPr) (v':=vBo) hH he2 ?_
         refine q9h (c:=zcl) hH I (by intro g j hg; cases hg) ha hF (qjb (q62 (es:=es) (c:=c) (x:=x) (y:=y) hg.1 hg.2 hn) fun v H2 hD => ?_)
         obtain ⟨h1,⟨rfl,h2⟩ | ⟨nm,q,V,h0,rfl,h2,h3,h4⟩⟩:=hD
         . exact ⟨[],by simp,by simp,.refl _,rfl,⟨⟨rfl,.inr ⟨_,_,h1,rfl,fun _ _ h=>h,rfl⟩⟩,trivial⟩,trivial⟩
         . rw [h2] at hs; cases hs
   . trivial
end
noncomputable section
open Go.Sim
open Go.Proofs
variable {α:Type}
def zaQ (x:ByteArray):Bool:=decide (fiI x>=0)
def zdm (x:ByteArray):ByteArray:=zab (zaQ x) (x.extract (fiI x+1).toNat x.size) zfB
def cutA (x:ByteArray):ByteArray:=zab (zaQ x) (x.extract 0 (fiI x).toNat) x
def zim (s:ByteArray):Tree:=qla zcb 2000 72 [.str (.sym s),.str (.lit zdI)] []
section
variable (s:ByteArray)
theorem jpi:zaP [] (zim s) [true,true]=([decide (zdI=s)=true,0<=s.size,1<=s.size],some (.tuple [.str (.sym (s.extract 0 0)),.str (.sym (s.extract 1 s.size)),.bool (.lit true)],[])):=by kernel_rfl
theorem j0m:zaP [] (zim s) [false,false]=([decide (zdI=s)=false,decide (fiI s>=0)=false],some (.tuple [.str (.sym s),.str (.lit zfB),.bool (.lit false)],[])):=by kernel_rfl
theorem jqi:zaP [] (zim s) [false,true]=([decide (zdI=s)=false,decide (fiI s>=0)=true,0<=fiI s/\fiI s<=(s.size:Int),qra (fiI s+1),0<=fiI s+1/\fiI s+1<=(s.size:Int)],some (.tuple [.str (.sym (s.extract 0 (fiI s).toNat)),.str (.sym (s.extract (fiI s+1).toNat s.size)),.bool (.lit true)],[])):=by kernel_rfl
end
theorem j1m:fiI zdI=0:=by kernel_rfl
theorem qm9 (s:ByteArray):fiI s = -1\/0<=fiI s/\fiI s<(s.size:Int):=by
 rcases qqj s 46 with ⟨h,_⟩ | ⟨m,h,hm,_⟩
 . exact .inl h
 . exact .inr ⟨by show 0<=firstIdx s 46; omega,by show firstIdx s 46<_; omega⟩
def jue (s:ByteArray) (v:SV):Prop:=∃ a b:zbg,∃ c:SB,v=.tuple [.str a,.str b,.bool c]/\a.den=cutA s/\b.den=zdm s/\c.den=zaQ s
def zhD (s:ByteArray):zaz:=⟨.tuple [.str (.sym (cutA s)),.str (.sym (zdm s)),.bool (.sym (zaQ s))],[],[]⟩
theorem jpc {base:Nat} {I:Ifc} {s:ByteArray} {v:SV} {H:List SO} (ho:q4b I.ents 0=[]) (h:jue s v):I.zdf base [] (zhD s) v H:=by
 obtain ⟨a,b,c,rfl,h1,h2,h3⟩:=h;refine ⟨fun β x hx => ?_,rfl,?_,trivial⟩
 . rw [show (zhD s).v=.tuple [.str (.sym a.den),.str (.sym b.den),.bool (.sym c.den)] by rw [h1,h2,h3]; rfl]
   exact hx
 . rw [ho]; trivial
def qj0 (v:SV):Bool:=zah (zbH v) false fun s=>zbg.rec (motive:=fun _=>Bool) (fun s=>decide (s=zdI)) (fun _=>false) (fun _=>false) s
theorem qx1 {v:SV} (h:qj0 v=true):v=.str (.lit zdI):=by
 unfold qj0 at h;cases hv:zbH v with
 | none=>rw [hv] at h; cases h
 | some s =>
   rw [hv] at h;rw [qua hv];cases s with
   | lit b=>rw [of_decide_eq_true (show decide (b=zdI)=true from h)]
   | sym b=>cases h
   | bytes b=>cases h
def cutS:zaR:=fun args _ _=>qke args fun v w=>zah (zbH v) (.stuck 7820) fun s=>zab (qj0 w) (.need (s.den.size<=9223372036854775807) (.ok (zhD s.den))) (.stuck 7821)
theorem zld:q2a Tryd.prog 72 cutS:=by
 intro glob O w0 β H w base args vs hH hG ha;refine qvc fun v w' hv=>qca fun s hs=>qcb fun hd=>fun hz => ?_
 rw [hv,qua hs,qx1 hd] at ha;have ha:=qja (qhb (t:=.sym s.den) rfl) (qja (.refl _) qsb) _ _ ha;show qob Tryd.prog H β w base _ vs (zhD s.den);generalize s.den=s at ha hz ⊢;have hb:∀ {ds ps v},zaP [] (zim s) ds=(ps,some (v,[]))->(∀ p∈ps,p)->jue s v->qob Tryd.prog H β w base 72 vs (zhD s):=fun hr hp hc=>qmb q7h 2000 hH ⟨[],[],[.str (.sym s),.str (.lit zdI)]⟩ (by intro g j hg; cases hg) ha (Ifc.zbD (by simp) rfl trivial) [] (by simp) (by simp) (q5a hr hp fun H2 _=>jpc rfl hc)
 by_cases hd:zdI=s
 . have e0:fiI s=0:=by rw [← hd]; exact j1m
   have hF:zaQ s=true:=decide_eq_true (by rw [e0]; exact Int.le_refl 0)
   have h1:1<=s.size:=by rw [← hd]; exact Nat.le_refl 1
   refine hb (jpi s) (zaa (decide_eq_true hd) (zaa (Nat.zero_le _) (zaa h1 qaa))) ⟨_,_,_,rfl,?_,?_,hF.symm⟩
   . show _=zab (zaQ s) _ _;rw [hF]; show _=s.extract 0 (fiI s).toNat;rw [e0]; rfl
   . show _=zab (zaQ s) _ _;rw [hF]; show _=s.extract (fiI s+1).toNat s.size;rw [e0]; rfl
 . have hdF:decide (zdI=s)=false:=decide_eq_false hd;rcases qm9 s with h | ⟨h1,h2⟩
   . have hF:zaQ s=false:=decide_eq_false (by omega)
     refine hb (j0m s) (zaa hdF (zaa hF qaa)) ⟨_,_,_,rfl,?_,?_,hF.symm⟩
     . show _=zab (zaQ s) _ _;rw [hF]; rfl
     . show _=zab (zaQ s) _ _;rw [hF]; rfl
   . have hF:zaQ s=true:=decide_eq_true (by omega)
     refine hb (jqi s) (zaa hdF (zaa hF (zaa ⟨h1,by omega⟩ (zaa ⟨by omega,by omega⟩ (zaa ⟨by omega,by omega⟩ qaa))))) ⟨_,_,_,rfl,?_,?_,hF.symm⟩
     . show _=zab (zaQ s) _ _;rw [hF]; rfl
     . show _=zab (zaQ s) _ _;rw [hF]; rfl
def zhc (x:ByteArray):Bool:=zab (zaQ x) (zaH (zdm x)) false
section
variable (s:ByteArray) (i:Nat)
def rpT (st:Option (Nat × Nat)):Tree:=qla (zb4.at st) 4000 70 [.str (.sym s)] []
def rpC:Cut:=⟨q0b (qvb (rpT s (some (1,3))) []).frames [[(0,.str (.sym s)),(4,.int .i64 (.sym i))]],[]⟩
variable (J:zaW) (z:Nat->Nat->Nat)
theorem jri:zaq [] (rpC s 0) [] (rpT s (some (1,3))) [] z=([],some (.inr (qva [(0,4,.int .i64 (.lit 0))] [] (qia [] 0 (rpC s 0))))):=by kernel_rfl
theorem jsi:zaq [] (rpC s i) [] (zaY (zb4.at (some (1,3))) 4000 ((rpC s i).fill J)) [true,false] z=([decide ((i:Int)<(s.size:Int))=true,(0:Int)<=(i:Int)/\(i:Int)<(s.size:Int),(zaI s i == 46)=false,qra ((i:Int)+1)],some (.inr (qia [] 0 (rpC s (i+1))))):=by kernel_rfl
def sfx:ByteArray:=s.extract ((i:Int)+1).toNat s.size
theorem j2m:zaq [] (rpC s i) [] (zaY (zb4.at none) 4000 ((rpC s i).fill J)) [true,true] z=([decide ((i:Int)<(s.size:Int))=true,(0:Int)<=(i:Int)/\(i:Int)<(s.size:Int),(zaI s i == 46)=true,qra ((i:Int)+1),(0:Int)<=(i:Int)+1/\(i:Int)+1<=(s.size:Int),qra ((i:Int)+1),(0:Int)<=(i:Int)+1/\(i:Int)+1<=(s.size:Int),(sfx s i).size<=9223372036854775807],some (.inl (.tuple [.str (.sym (sfx s i)),.bool (.sym (zaH (sfx s i)))],[]))):=by kernel_rfl
theorem j3m:zaq [] (rpC s i) [] (zaY (zb4.at none) 4000 ((rpC s i).fill J)) [false] z=([decide ((i:Int)<(s.size:Int))=false],some (.inl (.tuple [.str (.lit zfB),.bool (.lit false)],[]))):=by kernel_rfl
theorem qk0 (j:Nat):zab (qna 0 [] (rpC s i) (rpC s j)) (zaG qma (rpC s j).heap) false=true:=by kernel_rfl
theorem j4m:(((rpC s i).frames[0]?).bind fun p=>p.tmps[4]?)=some (some (.int .i64 (.sym i))):=by kernel_rfl
end
def jve (s:ByteArray) (v:SV):Prop:=∃ b:zbg,∃ c:SB,v=.tuple [.str b,.bool c]/\b.den=zdm s/\c.den=zhc s
def zh3 (s:ByteArray):zaz:=⟨.tuple [.str (.sym (zdm s)),.bool (.sym (zhc s))],[],[]⟩
theorem jqc {base:Nat} {I:Ifc} {s:ByteArray} {v:SV} {H:List SO} (ho:q4b I.ents 0=[]) (h:jve s v):I.zdf base [] (zh3 s) v H:=by
 obtain ⟨b,c,rfl,h2,h3⟩:=h;refine ⟨fun β x hx => ?_,rfl,?_,trivial⟩
 . rw [show (zh3 s).v=.tuple [.str (.sym b.den),.bool (.sym c.den)] by rw [h2,h3]; rfl]
   exact hx
 . rw [ho]; trivial
theorem qn9 {s:ByteArray} {m:Nat} (hm:m<s.size) (hd:zaI s m=46) (hf:∀ j,j<m->zaI s j≠46):fiI s=(m:Int):=by
 rcases qqj s 46 with ⟨_,h⟩ | ⟨q,h,h1,h2,h3⟩
 . exact absurd hd (h m hm)
 . have h2:zaI s q=46:=h2;have:q=m:=by
    rcases Nat.lt_trichotomy q m with c | c | c
    . exact absurd h2 (hf q c)
    . exact c
    . exact absurd hd (h3 m c)
   rw [← this]; exact h
theorem jrc {s:ByteArray} (hf:∀ j,j<s.size->zaI s j≠46):fiI s = -1:=by
 rcases qqj s 46 with ⟨h,_⟩ | ⟨q,h,h1,h2,h3⟩
 . exact h
 . exact absurd h2 (hf q h1)
theorem jti (s:ByteArray) (hbig:s.size<=9223372036854775807):Runs zb4 70 [.str (.sym s)] [] fun v _=>jve s v:=by
 refine qek q0c (rpC s) (fun i=>zaI s i≠46) s.size (fun g nm hg=>by cases hg) (fun Q hQ => ?_) (fun i hi hp J Q hQ => ?_) (fun i hi hp hb J Q => ?_) (fun hp J Q => ?_)
 . refine qgc (some (1,3)) 4000 0 hQ (jri s) (qk0 s 0 0) (fun q hq p u hp hu => ?_) (fun e he=>by cases he) qaa
   obtain rfl:q=(0,4,.int .i64 (.lit 0)):=by simpa using hq
   exact q6a (j4m s 0) hp hu (qab rfl)
 . exact qya (some (1,3)) 4000 (i+1) hQ (jsi s i J) (qk0 s i (i+1)) (zaa (decide_eq_true (by omega)) (zaa ⟨by omega,by omega⟩ (zaa (zhL hp) (zaa ⟨by omega,by omega⟩ qaa))))
 . have hd:zaI s i=46:=Classical.byContradiction hp;have he:fiI s=(i:Int):=qn9 hi hd hb;have hF:zaQ s=true:=decide_eq_true (by rw [he]; omega)
   have hB:sfx s i=zdm s:=by
    show _=zab (zaQ s) _ _;rw [hF]; show _=s.extract (fiI s+1).toNat s.size;rw [he]; rfl
   have hz:(sfx s i).size<=9223372036854775807:=by unfold sfx; rw [q5d]; omega
   have h64:qra ((i:Int)+1):=⟨by omega,by omega⟩
   refine qta none 4000 (j2m s i J) (zaa (decide_eq_true (by omega)) (zaa ⟨by omega,by omega⟩ (zaa (eqT hd) (zaa h64 (zaa ⟨by omega,by omega⟩ (zaa h64 (zaa ⟨by omega,by omega⟩ (zaa hz qaa)))))))) fun H _=>⟨_,_,rfl,hB,?_⟩
   show zaH (sfx s i)=zab (zaQ s) (zaH (zdm s)) false;rw [hF,hB]; rfl
 . exact qta none 4000 (j3m s s.size J) (zaa (decide_eq_false (by omega)) qaa) fun H _=>by
    have hF:zaQ s=false:=decide_eq_false (by rw [jrc hp]; omega)
    refine ⟨_,_,rfl,?_,?_⟩
    . show _=zab (zaQ s) _ _;rw [hF]; rfl
    . show _=zab (zaQ s) _ _;rw [hF]; rfl
def rpS:zaR:=fun args _ _=>q2f args fun v=>zah (zbH v) (.stuck 7822) fun s=>.need (s.den.size<=9223372036854775807) (.ok (zh3 s.den))
theorem rpOK:q2a Tryd.prog 70 rpS:=by
 intro glob O w0 β H w base args vs hH hG ha;refine qed fun v hv=>qca fun s hs=>fun hb => ?_
 rw [hv,qua hs] at ha;have ha:=qja (qhb (t:=.sym s.den) rfl) qsb _ _ ha;show qob Tryd.prog H β w base _ vs (zh3 s.den);generalize s.den=s at ha hb ⊢
 let I:Ifc:=⟨[],[],[.str (.sym s)]⟩
 exact qzb (c:=zb4) hH I (by intro g j hg; cases hg) ha (qfd rfl).q [] (by simp) (by simp) (qjb (jti s hb) fun v H h=>jqc rfl h)
end
noncomputable section
open Go.Sim
open Go.Proofs
variable {α:Type}
def suf (s:ByteArray) (i:Nat):ByteArray:=Nat.rec s (fun _ r=>zdm r) i
def zfH (f:Nat):ByteArray->Nat:=Nat.rec (fun _=>0) (fun _ ih r=>zab (zaQ r) (Nat.succ (ih (zdm r))) 0) f
def dep (s:ByteArray):Nat:=zfH 16 s
def rlA:List (FuncId × zaR):=(70,rpS)::(72,cutS)::rlL2
theorem jwe:∀ y∈rlA,q2a Tryd.prog y.1 y.2:=zb2 rpOK (zb2 zld jlm)
def zhH:Cfg:=qyb (q2b rlA)
theorem zhG:zaw zhH:=qdc jwe
def acT (st:Option (Nat × Nat)) (s:ByteArray):Tree:=qla (zhH.at st) 20000 40 [.str (.sym s)] []
def liT (st:Option (Nat × Nat)) (s:ByteArray):Tree:=qla (zhH.at st) 20000 56 [.str (.sym s)] []
def acC (j:Nat):ByteArray->List Prop:=Nat.rec (fun r=>[r.size<=9223372036854775807,zaQ r=false,zaQ r=false,zaQ r=false,zaQ r=false]) (fun _ ih r=>(r.size<=9223372036854775807)::(zaQ r=true)::ih (zdm r)) j
def liC (j:Nat):ByteArray->List Prop:=Nat.rec (fun r=>[r.size<=9223372036854775807,zhc r=false]) (fun _ ih r=>(r.size<=9223372036854775807)::(zhc r=true)::ih (zdm r)) j
def acL (s:ByteArray) (j:Nat):List SV:=zar (fun i=>SV.str (.sym (suf s i))) (qsa (Nat.succ j) 0)
def acE (s:ByteArray) (j:Nat):Option SO:=some (.own (.lst (acL s j)) false 9)
def acV (nm j:Nat):SV:=.slice ⟨nm,.lit 0⟩ (.lit (Nat.succ j)) (.rest nm 0)
theorem ac_0 (s:ByteArray):zaP [0] (acT none s) [false,false,false,false,false]=(((!zaH s)=false)::acC 0 s,some (.slice ⟨0,.lit 0⟩ (.lit 1) (.lit 1),[some (.own (.lst [.str (.sym s)]) true 9)])):=by kernel_rfl
theorem li_0 (s:ByteArray):zaP [0] (liT none s) [false]=(liC 0 s,some (.slice ⟨0,.lit 0⟩ (.lit 1) (.lit 1),[some (.own (.lst [.str (.sym s)]) true 9)])):=by kernel_rfl
theorem ac_n (s:ByteArray):zar (fun j=>zaP [4+2 * j] (acT none s) (false::app (zaX true j) [false,false,false,false])) (qsa 15 1)=zar (fun j=>(((!zaH s)=false)::acC j s,some (acV (4+2 * j) j,[acE s j]))) (qsa 15 1):=by kernel_rfl
theorem li_n (s:ByteArray):zar (fun j=>zaP [2 * j] (liT none s) (app (zaX true j) [false])) (qsa 15 1)=zar (fun j=>(liC j s,some (acV (2 * j) j,[acE s j]))) (qsa 15 1):=by kernel_rfl
theorem ql0 {γ:Val} {f:Nat->SV}:∀ {n k:Nat} {vs:List Value},SV.zak γ (zar f (qsa n k))=some vs->vs.length=n/\∀ i x,vs[i]? = some x->(f (k+i)).den γ=some x
 | 0,k,vs,h=>by cases h; exact ⟨rfl,fun i x hx=>by simp at hx⟩
 | n+1,k,vs,h=>by
   obtain ⟨v,us,hv,hu,rfl⟩:=zad.1 (show SV.zak γ (f k::zar f (qsa n (k+1)))=some vs from h)
   obtain ⟨h1,h2⟩:=ql0 hu;refine ⟨by simp [h1],fun i x hx => ?_⟩
   cases i with
   | zero =>
     simp at hx; subst hx;exact hv
   | succ i =>
     have:=h2 i x (by simpa using hx)
     rwa [show k+1+i=k+(i+1) by omega] at this
theorem qm0 (f:Nat->SV) (n:Nat):(Cells.lst (zar f (qsa n 0))).Imp (.fn f n):=fun γ vs hv=>by
 obtain ⟨h1,h2⟩:=ql0 (show SV.zak γ (zar f (qsa n 0))=some vs from hv)
 exact ⟨h1,fun i x hx=>by have:=h2 i x hx; rwa [Nat.zero_add] at this⟩
theorem qrv {r:ByteArray} (h:zbl r) (hc:zaQ r=true):zbl (zdm r)/\(zdm r).size+2<=r.size:=by
 have hB:zdm r=r.extract (fiI r+1).toNat r.size:=by
  show zab (zaQ r) _ _=_;rw [hc]; rfl
 have hge:fiI r>=0:=of_decide_eq_true hc;rcases qqj r 46 with ⟨h1,_⟩ | ⟨m,h1,hm,hd,_⟩
 . have h1:fiI r = -1:=h1;omega
 have h1:fiI r=(m:Int):=h1;rw [h1,show ((m:Int)+1).toNat=m+1 by omega] at hB
 have hz:(zdm r).size=r.size - (m+1):=by rw [hB,q5d,Nat.min_self]
 have hb:∀ i,i<(zdm r).size->zaI (zdm r) i=zaI r (m+1+i):=fun i hi=>by rw [hB]; exact qel (by rw [Nat.min_self]; omega)
 obtain ⟨_,h32,ha⟩:=h;rcases ha m hm with hk | ⟨_,hm0,hml,_⟩
 . exact absurd hd (qfl hk)
 refine ⟨⟨by omega,by omega,fun i hi => ?_⟩,by omega⟩
 rcases ha (m+1+i) (by omega) with hk | ⟨hk,_,hkl,hkp⟩
 . exact .inl (by rw [hb i hi]; exact hk)
 . have hi0:i≠0:=fun e=>by
    subst e;exact hkp (by rw [show m+1+0 - 1=m by omega]; exact hd)
   refine .inr ⟨by rw [hb i hi]; exact hk,hi0,by omega,?_⟩
   rw [hb (i - 1) (by omega),show m+1+(i - 1)=m+1+i - 1 by omega]
   exact hkp
theorem qsv {r:ByteArray} (h:zbl r):zhc r=zaQ r:=by
 show zab (zaQ r) (zaH (zdm r)) false=_;cases hc:zaQ r with
 | false=>rfl
 | true=>exact qgg (qrv h hc).1
theorem qkg:∀ (f:Nat) (r:ByteArray),zbl r->r.size<=2 * f->zfH f r+1<=f/\(∀ p∈acC (zfH f r) r,p)/\∀ p∈liC (zfH f r) r,p
 | 0,r,h,hz=>by have:=h.1; omega
 | f+1,r,h,hz=>by
   have h32:=h.2.1;have hs:r.size<=9223372036854775807:=by omega
   cases hc:zaQ r with
   | false =>
     have e:zfH (f+1) r=0:=by
      show zab (zaQ r) _ _=_;rw [hc]; rfl
     rw [e];exact ⟨by omega,zaa hs (zaa hc (zaa hc (zaa hc (zaa hc qaa)))),zaa hs (zaa ((qsv h).trans hc) qaa)⟩
   | true =>
     have e:zfH (f+1) r=zfH f (zdm r)+1:=by
      show zab (zaQ r) _ _=_;rw [hc]; rfl
     obtain ⟨h1,h2⟩:=qrv h hc;obtain ⟨h3,h4,h5⟩:=qkg f (zdm r) h1 (by omega)
     rw [e];exact ⟨by omega,zaa hs (zaa hc h4),zaa hs (zaa ((qsv h).trans hc) h5)⟩
theorem jui {r:ByteArray} (hc:zaQ r=true):1<=dep r:=by
 show 1<=zab (zaQ r) _ _;rw [hc]; exact Nat.succ_le_succ (Nat.zero_le _)
theorem q4q {r:ByteArray} (hc:zaQ r=false):dep r=0:=by
 show zab (zaQ r) _ _=_;rw [hc]; rfl
def upV (nm:Nat) (b:Bool) (s:ByteArray):SV:=.slice ⟨nm,.lit 0⟩ (.sym (Nat.succ (dep s))) (zab b (.rest nm 0) (.lit 1))
def upE (b:Bool) (s:ByteArray):SO:=.own (.fn (zdg (suf s)) (Nat.succ (dep s))) (zab b false true) 9
def upR (base:Nat) (s:ByteArray):R zaz:=.need (zbl s) (.fork (zaQ s) (.ok ⟨upV base true s,[],[upE true s]⟩) (.ok ⟨upV base false s,[],[upE false s]⟩))
def upS:zaR:=fun args _ base=>q2f args fun v=>zah (zbH v) (.stuck 7823) fun s=>upR base s.den
theorem jsc {β:Type} {f g:Nat->β} {k b:Nat} (h:zar f (qsa k b)=zar g (qsa k b)) {l:Nat} (h1:b<=l) (h2:l<b+k):f l=g l:=by
 rw [q1a,q1a,qz8] at h;have h3:∀ f:Nat->β,(List.map f (List.range' b k))[l - b]? = some (f l):=fun f=>by
  rw [List.getElem?_map,List.getElem?_range' (by omega)]
  simp only [Option.map_some];rw [show b+1 * (l - b)=l from by omega]
 have h4:=h3 f;rw [h,h3 g] at h4;exact (Option.some.inj h4).symm
theorem jtc (q:Nat):zbM q [q]=true:=by
 show zab (Nat.beq q q) true _=true;rw [Nat.beq_refl]; rfl
theorem jvi (args:List SV) (base q:Nat):(⟨[],[],args⟩:Ifc).out base [q] q=base:=by
 show base+zab (Nat.beq q q) 0 _=base;rw [Nat.beq_refl]; rfl
theorem q82 (p:Nat->Bool) (f:Nat->ByteArray):∀ l:List Nat,SV.za5 p (zar (fun i=>SV.str (.sym (f i))) l)=true
 | []=>rfl
 | a::l=>show (true && SV.za5 p (zar (fun i=>SV.str (.sym (f i))) l))=true by rw [q82 p f l]; rfl
theorem qo9 (g:Nat->Nat) (f:Nat->ByteArray):∀ l:List Nat,SV.zbA g (zar (fun i=>SV.str (.sym (f i))) l)=zar (fun i=>SV.str (.sym (f i))) l
 | []=>rfl
 | a::l=>show SV.str (.sym (f a))::SV.zbA g (zar (fun i=>SV.str (.sym (f i))) l)=SV.str (.sym (f a))::zar (fun i=>SV.str (.sym (f i))) l by rw [qo9 g f l]
theorem qp9 {f:FuncId} (T:ByteArray->Tree) (hT:∀ s,T s=qla (zhH.at none) 20000 f [.str (.sym s)] []) (nmF:Nat->Nat) (ds:Nat->List Bool) (C:Nat->ByteArray->List Prop) (hC:∀ s,zbl s->∀ p∈C (dep s) s,p)
  (h0:∀ s,zaP [0] (T s) (ds 0)=(C 0 s,some (.slice ⟨0,.lit 0⟩ (.lit 1) (.lit 1),[some (.own (.lst [.str (.sym s)]) true 9)])))
  (hn:∀ s,zar (fun j=>zaP [nmF j] (T s) (ds j)) (qsa 15 1)=zar (fun j=>(C j s,some (acV (nmF j) j,[acE s j]))) (qsa 15 1)):q2a Tryd.prog f upS:=by
 intro glob O w0 β H w base args vs hH hG ha;refine qed fun v hv=>qca fun s hs => ?_
 rw [hv,qua hs] at ha;have ha:=qja (qhb (t:=.sym s.den) rfl) qsb _ _ ha;generalize s.den=s at ha ⊢;intro hr;have hcc:=hC s hr;have hcA:zaw (zhH.at none):=zhG.at none;refine ⟨fun hc => ?_,fun hc => ?_⟩
 . have hd1:=jui hc;have hd2:=(qkg 16 s hr hr.2.1).1;have hd2:dep s+1<=16:=hd2;have hrun:zaP [nmF (dep s)] (T s) (ds (dep s))=(C (dep s) s,some (acV (nmF (dep s)) (dep s),[acE s (dep s)])):=jsc (hn s) hd1 (by omega)
   rw [hT] at hrun;refine q3d hcA rfl 20000 hH ⟨[],[],[.str (.sym s)]⟩ ha (qfd rfl) [nmF (dep s)] (by simp) (by simp) hrun hcc fun H2 hH2 => ?_
   have h:=(List.cons.inj (show [H2[nmF (dep s)]?]=[acE s (dep s)] from hH2)).1
   generalize nmF (dep s)=q at h ⊢;have ho:(⟨[],[],[.str (.sym s)]⟩:Ifc).out base [q] q=base:=jvi _ _ _;refine ⟨?_,?_,trivial,⟨⟨_,_,_,_,h,?_,?_,rfl⟩,trivial⟩⟩
   . show SV.Imp (.slice ⟨Ifc.out _ base [q] q,.lit 0⟩ (.lit (Nat.succ (dep s))) (.rest (Ifc.out _ base [q] q) 0)) _;rw [ho];exact fun _ _ h=>h
   . exact show (zbM q [q] && zbM q [q])=true by rw [jtc]; rfl
   . exact q82 _ (suf s) _
   . show Cells.Imp (.lst (SV.zbA _ (acL s (dep s)))) _;rw [show SV.zbA _ (acL s (dep s))=acL s (dep s) from qo9 _ (suf s) _]
     exact qm0 (zdg (suf s)) (Nat.succ (dep s))
 . have e0:=q4q hc;rw [e0] at hcc;have hrun:=h0 s;rw [hT] at hrun;refine q3d hcA rfl 20000 hH ⟨[],[],[.str (.sym s)]⟩ ha (qfd rfl) [0] (by simp) (by simp) hrun hcc fun H2 hH2 => ?_
   have h:=(List.cons.inj (show [H2[0]?]=[some (.own (.lst [.str (.sym s)]) true 9)] from hH2)).1
   refine ⟨?_,rfl,trivial,⟨⟨_,_,_,_,h,by rfl,?_,rfl⟩,trivial⟩⟩
   . show SV.Imp _ (.slice ⟨base,.lit 0⟩ (.sym (Nat.succ (dep s))) (.lit 1));rw [e0];exact fun _ _ h=>h
   . show Cells.Imp _ (.fn (zdg (suf s)) (Nat.succ (dep s)));rw [e0];exact qm0 (zdg (suf s)) 1
theorem acOK:q2a Tryd.prog 40 upS :=
 qp9 (acT none) (fun _=>rfl) (fun j=>4+2 * j) (fun j=>false::app (zaX true j) [false,false,false,false]) (fun j s=>((!zaH s)=false)::acC j s) (fun s hr=>zaa (q7t hr) (qkg 16 s hr hr.2.1).2.1) ac_0 ac_n
theorem liOK:q2a Tryd.prog 56 upS :=
 qp9 (liT none) (fun _=>rfl) (fun j=>2 * j) (fun j=>app (zaX true j) [false]) liC (fun s hr=>(qkg 16 s hr hr.2.1).2.2) li_0 li_n
end
noncomputable section
open Go.Sim
open Go.Proofs
variable {α:Type}
def rlH:List (FuncId × zaR):=(56,upS)::(40,upS)::(41,ixS)::(34,zg8)::(36,zgZ)::rlA
def zdi:Cfg:=qyb (q2b rlH)
def heT (st:Option (Nat × Nat)) (x y:ByteArray):Tree:=qla (zdi.at st) 20000 18 [.str (.sym x),.str (.sym y)] []
theorem zjs:∀ y∈rlH,q2a Tryd.prog y.1 y.2:=zb2 liOK (zb2 acOK (zb2 ixOK (zb2 q2w (zb2 q3w jwe))))
theorem zeB:zaw zdi:=qdc zjs
section
variable (x y:ByteArray) (bu bd:Bool) (i:Nat)
def heO:Cut:=⟨q0b (qvb (heT (some (1,3)) x y) [false,true,true]).frames [[(6,upV 0 bu x),(7,upV 1 bd y),(23,upV 0 bu x),(24,.int .i64 (.sym (Nat.succ (dep x):Nat))),(25,.int .i64 (.sym i))]],[.ent (upE bu x),.ent (upE bd y)]⟩
def heN:List Nat:=[0,1]
def heM:List Nat:=[0,1,2,3,4,5]
def zhA:List Nat:=[7,1,2,3,4,5]
variable (J:zaW)
def heS (st:Option (Nat × Nat)):Tree:=zaY (zdi.at st) 20000 ((heO x y bu bd i).fill J)
def dSs (bd:Bool) (y:ByteArray):Ss:=⟨suf y,Nat.succ (dep y),0,Nat.succ (dep y),bd,zab bd 0 1⟩
def hq:Int:=zgj (dSs bd y) (suf x (0+i * 1))
def heJ:zaW:=⟨fun _ _=>undef,fun _ _=>undef⟩
def heA0:SS:=qvb (heS x y bu bd i heJ (some (2,2))) [true,false]
def pV (nm:Nat) (z:Int):SV:=.slice ⟨nm,.lit 0⟩ (.sym z.toNat) (.sym z.toNat)
def heH (e0 e1:SO) (p d:SV):List HP:=[.ent e0,.ent e1,.ent (.own (.lst [p]) true 25),.ent (.own (.lst [d]) true 25),.ent (.deferred (some [])),qzs (nth (heA0 x y bu bd i).heap 5) [(11,.ptr ⟨2,.lit 0⟩)]]
variable (q m:Int) (V:Nat->Value) (n:Nat)
def heF:List SP:=q0b (heA0 x y bu bd i).frames [[(0,.func (.yield 5) [] []),(1,.ptr ⟨3,.lit 0⟩),(3,.int .i64 (.sym m))],[(11,.ptr ⟨2,.lit 0⟩)]]
def heA:Cut:=⟨heF x y bu bd i m,heH x y bu bd i (upE bu x) (upE bd y) (pV 0 ((i:Int)+1)) (pV 1 q)⟩
def heB:Cut:=⟨heF x y bu bd i m,heH x y bu bd i (.own (.raw V (n * 1)) false 9) (upE bd y) (.slice ⟨0,.lit 0⟩ (.sym n) (.rest 0 0)) (pV 1 q)⟩
def ltC (t:List Prop):List Prop:=(decide ((i:Int)<(Nat.succ (dep x):Nat))=true)::((0:Int)<=(i:Int)/\(i:Int)<(Nat.succ (dep x):Nat))::(0+i * 1<Nat.succ (dep x))::IsS (zdg (suf y))::(dSs bd y).ok::t
variable (z:Nat->Nat->Nat)
theorem jwi:zaq [] (heO x y bu bd (i+1)) heN (heS x y bu bd i J (some (1,3))) [true,true] z=(ltC x y bd i [decide (hq x y bd i<0)=true,qra ((i:Int)+1)],some (.inr (qia heN 2 (heO x y bu bd (i+1))))):=by cases bu <;> cases bd <;> kernel_rfl
theorem jxi:zaq [] (heA x y bu bd i (hq x y bd i) ((hq x y bd i).toNat - 1)) heM (heS x y bu bd i J (some (2,2))) [true,false] z=(ltC x y bd i [decide (hq x y bd i<0)=false,qra ((i:Int)+1),qra ((i:Int)+1),0<=(i:Int)+1/\(i:Int)+1<=(zab bu (Nat.succ (dep x)) 1:Nat),0<=(i:Int)+1/\(i:Int)+1<=(((i:Int)+1).toNat:Int),0<=hq x y bd i/\hq x y bd i<=(zab bd (Nat.succ (dep y)) 1:Nat),0<=hq x y bd i/\hq x y bd i<=((hq x y bd i).toNat:Int),qra (((hq x y bd i).toNat:Int) - 1)],some (.inr (qia heM 6 (heA x y bu bd i (hq x y bd i) ((hq x y bd i).toNat - 1))))):=by cases bu <;> cases bd <;> kernel_rfl
theorem jyi:zaq [] (heO x y bu bd i) heN (heS x y bu bd i J none) [false] z=([decide ((i:Int)<(Nat.succ (dep x):Nat))=false],some (.inl (.tuple [.zac,.int .i64 (.lit 9)],[]))):=by cases bu <;> cases bd <;> kernel_rfl
def heAS (st:Option (Nat × Nat)):Tree:=zaY (zdi.at st) 20000 ((heA x y bu bd i q m).fill J)
def heBS (st:Option (Nat × Nat)):Tree:=zaY (zdi.at st) 20000 ((heB x y bu bd i q m V n).fill J)
def geC (t:List Prop):List Prop:=(decide (m>=0)=true)::(0<=m/\m<(q.toNat:Int))::(0+m.toNat * 1<Nat.succ (dep y))::(1<=1)::t
def zeL (V:Nat->Value) (n:Nat) (s:ByteArray):Nat->Value:=zb5 (fun j=>V (0+j)) (n * 1) fun j=>atV [.string s] (0+j)
def zg2 (x:ByteArray):Nat->Value:=fun j=>zah (zdj (zdg (suf x) j)) undef fun x=>x
def n1:Nat:=((i:Int)+1).toNat
theorem zkW:zaq [] (heB x y bu bd i q (m - 1) (zeL (zg2 x) (n1 i) (suf y (0+m.toNat * 1))) (n1 i+1)) zhA (heAS x y bu bd i J q m (some (2,2))) [true,false] z=(geC y q m [decide (n1 i+1<=n1 i)=false,0+n1 i * 1<=Nat.succ (dep x)/\∀ j,j<n1 i * 1->∃ v,zdj (zdg (suf x) (0+j))=some v,(n1 i+1) * 16<140737488355328/\n1 i+1<140737488355328,qra (m - 1)],some (.inr (qia zhA 8 (heB x y bu bd i q (m - 1) (zeL (zg2 x) (n1 i) (suf y (0+m.toNat * 1))) (n1 i+1))))):=by cases bu <;> cases bd <;> kernel_rfl
theorem zkX:zaq [0] (heA x y bu bd i q m) heM (heAS x y bu bd i J q m none) [false] z=([decide (m>=0)=false],some (.inl (.tuple [pV 0 ((i:Int)+1),.int .i64 (.lit 0)],[some (upE bu x)]))):=by cases bu <;> cases bd <;> kernel_rfl
theorem zkU:zaq [] (heB x y bu bd i q (m - 1) (zeL V n (suf y (0+m.toNat * 1))) (n+1)) zhA (heBS x y bu bd i J q m V n (some (2,2))) [true] z=(geC y q m [0+n * 1<=n * 1,((n+1) * 16<140737488355328/\n+1<140737488355328)/\∀ j,j<1->(atV [Value.string (suf y (0+m.toNat * 1))] (0+j)).oneCell'=true,qra (m - 1)],some (.inr (qia zhA 8 (heB x y bu bd i q (m - 1) (zeL V n (suf y (0+m.toNat * 1))) (n+1))))):=by cases bu <;> cases bd <;> kernel_rfl
theorem zkV:zaq [0] (heB x y bu bd i q m V n) heM (heBS x y bu bd i J q m V n none) [false] z=([decide (m>=0)=false],some (.inl (.tuple [.slice ⟨0,.lit 0⟩ (.sym n) (.rest 0 0),.int .i64 (.lit 0)],[some (.own (.raw V (n * 1)) false 9)]))):=by cases bu <;> cases bd <;> kernel_rfl
def q9d:Ss:=⟨q2c [x,y],2,0,2,false,2⟩
theorem j5m:zaP [] (heT none x y) [true]=([(q9d x y).ok,(!cB (zdF (q9d x y)))=true],some (.tuple [.zac,.int .i64 (.lit 2)],[])):=by kernel_rfl
theorem jzi:zaq [] (heO x y bu bd 0) [1,2] (heT (some (1,3)) x y) [false,bu,bd] z=([(q9d x y).ok,(!cB (zdF (q9d x y)))=false,zbl x,zaQ x=bu,zbl y,zaQ y=bd],some (.inr (qva [(0,25,.int .i64 (.lit 0))] [] (qia [1,2] 3 (heO x y bu bd 0))))):=by cases bu <;> cases bd <;> kernel_rfl
theorem zkT:zab (qna 0 [1,2] (heO x y bu bd 0) (heO x y bu bd 0)) (zaG qma (heO x y bu bd 0).heap) false=true:=by cases bu <;> cases bd <;> kernel_rfl
theorem zkR:zab (qna 0 heN (heO x y bu bd (i+1)) (heO x y bu bd (i+1))) (zaG qma (heO x y bu bd (i+1)).heap) false=true:=by cases bu <;> cases bd <;> kernel_rfl
theorem zkS:zab (qna 0 heM (heA x y bu bd i q m) (heA x y bu bd i q m)) (zaG qma (heA x y bu bd i q m).heap) false=true:=by cases bu <;> cases bd <;> kernel_rfl
theorem jxe:zab (qna 0 zhA (heB x y bu bd i q m V n) (heB x y bu bd i q m V n)) (zaG qma (heB x y bu bd i q m V n).heap) false=true:=by cases bu <;> cases bd <;> kernel_rfl
theorem j6m:(((heO x y bu bd i).frames[0]?).bind fun p=>p.tmps[25]?)=some (some (.int .i64 (.sym i))):=by cases bu <;> cases bd <;> kernel_rfl
end
end
noncomputable section
open Go.Sim
open Go.Proofs
variable {α:Type}
def zdH (x y:ByteArray) (i:Nat):Prop:=∃ k,k<=dep y/\suf y k=suf x i
def zgR (x y:ByteArray):Option Nat:=(List.range (dep x+1)).find? fun i=>cB (zdH x y i)
def zdz (x y:ByteArray) (i:Nat):Nat:=((List.range (dep y+1)).find? fun k=>cB (suf y k=suf x i)).getD 0
def zbU (x y:ByteArray):Bool:=(zgR x y).isSome
def cI (x y:ByteArray):Nat:=(zgR x y).getD 0
def cK (x y:ByteArray):Nat:=zdz x y (cI x y)
def zfE (x y:ByteArray) (i k:Nat) (j:Nat):ByteArray:=if j<=i then suf x j else suf y (k - (j - i))
def zbT (x y:ByteArray):Nat->ByteArray:=zfE x y (cI x y) (cK x y)
def zbe (x y:ByteArray):Nat:=cI x y+1+cK x y
theorem qn0 {x y:ByteArray} (h:∀ i,i<=dep x->¬ zdH x y i):zbU x y=false:=by
 unfold zbU zgR;rw [List.find?_eq_none.2 fun i hi hc=>h i (by have:=List.mem_range.1 hi; omega) (zcc.1 hc)]
 rfl
theorem q5q {x y:ByteArray} {i:Nat} (hi:i<=dep x) (h:zdH x y i) (hm:∀ j,j<i->¬ zdH x y j):zbU x y=true/\cI x y=i:=by
 unfold zbU cI zgR;rw [List.find?_range_eq_some.2 ⟨zcc.2 h,List.mem_range.2 (by omega),fun j hj=>by rw [q0a (hm j hj)]; rfl⟩]
 exact ⟨rfl,rfl⟩
theorem qzi {x y:ByteArray} {i:Nat} (h:zdH x y i):zdz x y i<=dep y/\suf y (zdz x y i)=suf x i/\∀ j,j<zdz x y i->suf y j≠suf x i:=by
 unfold zdz;cases hf:(List.range (dep y+1)).find? fun k=>cB (suf y k=suf x i) with
 | none =>
   obtain ⟨k,hk,he⟩:=h;exact absurd (zcc.2 he) (List.find?_eq_none.1 hf k (List.mem_range.2 (by omega)))
 | some k =>
   obtain ⟨h1,h2,h3⟩:=List.find?_range_eq_some.1 hf;have h2:=List.mem_range.1 h2;refine ⟨by show k<=_; omega,zcc.1 h1,fun j hj he => ?_⟩
   have:=h3 j hj;rw [q8a he] at this;cases this
theorem j0i {x y:ByteArray} {bd:Bool} {i:Nat} (h:¬ zdH x y i):hq x y bd i = -1:=by
 refine qvo fun k hk he=>h ⟨k,by have hk:k<Nat.succ (dep y):=hk; omega,?_⟩
 have he:suf y (0+k)=suf x (0+i * 1):=he
 rwa [Nat.zero_add,Nat.zero_add,Nat.mul_one] at he
theorem j1i {x y:ByteArray} {bd:Bool} {i:Nat} (h:zdH x y i):hq x y bd i=(zdz x y i:Int):=by
 obtain ⟨h1,h2,h3⟩:=qzi h;refine qpv (by show _<Nat.succ (dep y); omega) ?_ fun j hj => ?_
 . show suf y (0+_)=suf x (0+i * 1);rw [Nat.zero_add,Nat.zero_add,Nat.mul_one]; exact h2
 . show suf y (0+j)≠suf x (0+i * 1);rw [Nat.zero_add,Nat.zero_add,Nat.mul_one]; exact h3 j hj
theorem q6q {V:Nat->Value} {n j:Nat} {s:ByteArray} (h:j<n):zeL V n s j=V j:=by
 unfold zeL zb5;rw [if_pos (by omega)]
 show V (0+j)=V j;rw [Nat.zero_add]
theorem q7q {V:Nat->Value} {n:Nat} {s:ByteArray}:zeL V n s n=.string s:=by
 unfold zeL zb5;rw [if_neg (by omega)]
 show atV [.string s] (0+(n - n * 1))=_;rw [show 0+(n - n * 1)=0 by omega]
 rfl
theorem qtp (i:Nat):n1 i=i+1:=by unfold n1; omega
theorem qet (x y:ByteArray):(q9d x y).ok:=⟨Nat.le_refl _,by show (2:Nat)<=_; omega⟩
theorem zds {x y:ByteArray}:zdF (q9d x y)↔zbl x/\zbl y:=by
 constructor
 . intro h;exact ⟨h 0 (by show (0:Nat)<2; omega),h 1 (by show (1:Nat)<2; omega)⟩
 . rintro ⟨h1,h2⟩ i hi;have hi:i<2:=hi;rcases (show i=0\/i=1 by omega) with rfl | rfl
   . exact h1
   . exact h2
def heD (x y:ByteArray) (bu:Bool) (v:SV) (H:List SO):Prop :=
 (zbU x y=false/\v=.tuple [.zac,.int .i64 (.lit 9)]) \/
 (zbU x y=true/\cK x y=0/\v=.tuple [pV 0 ((cI x y:Int)+1),.int .i64 (.lit 0)]/\H[0]? = some (upE bu x)) \/
 (zbU x y=true/\cK x y≠0/\∃ V,v=.tuple [.slice ⟨0,.lit 0⟩ (.sym (zbe x y)) (.rest 0 0),.int .i64 (.lit 0)]/\H[0]? = some (.own (.raw V (zbe x y * 1)) false 9)/\∀ j,j<zbe x y->V j=.string (zbT x y j))
inductive HeK where
 | O (i:Nat)
 | A (i:Nat) (q m:Int)
 | B (i:Nat) (q m:Int) (V:Nat->Value) (n:Nat)
def heK (x y:ByteArray) (bu bd:Bool):HeK->Cut
 | .O i=>heO x y bu bd i
 | .A i q m=>heA x y bu bd i q m
 | .B i q m V n=>heB x y bu bd i q m V n
def heQ (x y:ByteArray):HeK->Prop
 | .O i=>i<=dep x+1/\∀ j,j<i->¬ zdH x y j
 | .A i q m=>i<=dep x/\zdH x y i/\(∀ j,j<i->¬ zdH x y j)/\q=(zdz x y i:Int)/\m=q - 1
 | .B i q m V n=>i<=dep x/\zdH x y i/\(∀ j,j<i->¬ zdH x y j)/\q=(zdz x y i:Int)/\∃ t,1<=t/\t<=zdz x y i/\m=q - 1 - t/\n=i+1+t/\∀ j,j<n->V j=.string (zfE x y i (zdz x y i) j)
def heMu (x _y:ByteArray):HeK->Nat
 | .O i=>(dep x+1 - i) * 1000+500
 | .A _ _ _=>400
 | .B _ _ m _ _=>(m+1).toNat
theorem j2i {x y:ByteArray} (hx:zbl x) (hy:zbl y):Runs zdi 18 [.str (.sym x),.str (.sym y)] [] (heD x y (zaQ x)):=by
 have hdx:dep x+1<=16:=(qkg 16 x hx hx.2.1).1;have hdy:dep y+1<=16:=(qkg 16 y hy hy.2.1).1;have hcx:∀ i,i<=dep x->i+1<=zab (zaQ x) (Nat.succ (dep x)) 1:=fun i hi=>by
  cases hc:zaQ x with
  | true=>show i+1<=Nat.succ (dep x); omega
  | false=>have:=q4q hc; show i+1<=1; omega
 have hcy:∀ i,i<=dep y->i+1<=zab (zaQ y) (Nat.succ (dep y)) 1:=fun i hi=>by
  cases hc:zaQ y with
  | true=>show i+1<=Nat.succ (dep y); omega
  | false=>have:=q4q hc; show i+1<=1; omega
 have hok:(dSs (zaQ y) y).ok:=⟨by show 0+Nat.succ (dep y)<=Nat.succ (dep y); omega,by show Nat.succ (dep y)<=1099511627776; omega⟩
 have hB:(!cB (zdF (q9d x y)))=false:=by rw [q8a (zds.2 ⟨hx,hy⟩)]; rfl
 refine q7c zeB (heK x y (zaQ x) (zaQ y)) (heQ x y) (heMu x y) (fun g nm hg=>by cases hg) ?_ fun a ha J => ?_
 . refine qgc (some (1,3)) 20000 (HeK.O 0) ⟨Nat.zero_le _,fun j hj=>by omega⟩ (fun z=>jzi x y (zaQ x) (zaQ y) z) (zkT x y _ _) (fun q hq p u hp hu => ?_) (fun e he=>by cases he) (zaa (qet x y) (zaa hB (zaa hx (zaa rfl (zaa hy (zaa rfl qaa))))))
   obtain rfl:q=(0,25,.int .i64 (.lit 0)):=by simpa using hq
   exact q6a (j6m x y _ _ 0) hp hu (qab rfl)
 cases a with
 | O i =>
   obtain ⟨hi,hno⟩:=ha;show qgb zdi _ (heK x y (zaQ x) (zaQ y)) _ _ ((heO x y (zaQ x) (zaQ y) i).fill J);by_cases hin:i<=dep x
   . have hL:∀ t:List Prop,(∀ p∈t,p)->∀ p∈ltC x y (zaQ y) i t,p:=fun t ht=>zaa (decide_eq_true (by omega)) (zaa ⟨by omega,by omega⟩ (zaa (by omega) (zaa (jdc _) (zaa hok ht))))
     have h64:qra ((i:Int)+1):=⟨by omega,by omega⟩
     by_cases hm:zdH x y i
     . have hqv:=j1i (bd:=zaQ y) hm;have hk:=(qzi hm).1;have hk2:=hcy _ hk;have hi2:=hcx _ hin;refine qya (some (2,2)) 20000 (HeK.A i (hq x y (zaQ y) i) ((hq x y (zaQ y) i).toNat - 1)) ⟨⟨hin,hm,hno,hqv,by rw [hqv]; omega⟩,by show 400<(dep x+1 - i) * 1000+500; omega⟩ (fun z=>jxi x y _ _ i J z) (zkS x y _ _ i _ _) (hL _ ?_)
       exact zaa (decide_eq_false (by omega)) (zaa h64 (zaa h64 (zaa ⟨by omega,by omega⟩ (zaa ⟨by omega,by omega⟩ (zaa ⟨by omega,by omega⟩ (zaa ⟨by omega,by omega⟩ (zaa ⟨by omega,by omega⟩ qaa)))))))
     . have hqv:=j0i (bd:=zaQ y) hm;exact qya (some (1,3)) 20000 (HeK.O (i+1)) ⟨⟨by omega,fun j hj=>by
        by_cases c:j<i
        . exact hno j c
        . obtain rfl:j=i:=by omega
          exact hm⟩,by show (dep x+1 - (i+1)) * 1000+500<(dep x+1 - i) * 1000+500; omega⟩ (fun z=>jwi x y _ _ i J z) (zkR x y _ _ i) (hL _ (zaa (decide_eq_true (by omega)) (zaa h64 qaa)))
   . exact qta none 20000 (fun z=>jyi x y _ _ i J z) (zaa (decide_eq_false (by omega)) qaa) fun H _=>.inl ⟨qn0 fun j hj=>hno j (by omega),rfl⟩
 | A i q m =>
   obtain ⟨hin,hm,hno,hq,hmq⟩:=ha;obtain ⟨hc1,hc2⟩:=q5q hin hm hno;have hk:=(qzi hm).1;have hck:cK x y=zdz x y i:=by unfold cK; rw [hc2]
   show qgb zdi _ (heK x y (zaQ x) (zaQ y)) _ _ ((heA x y (zaQ x) (zaQ y) i q m).fill J);by_cases hz:zdz x y i=0
   . refine qta none 20000 (fun z=>zkX x y _ _ i J q m z) (zaa (decide_eq_false (by omega)) qaa) fun H hH=>.inr (.inl ⟨hc1,by rw [hck]; exact hz,by rw [hc2],?_⟩)
     exact (List.cons.inj (show [H[0]?]=[some (upE (zaQ x) x)] from hH)).1
   . refine qya (some (2,2)) 20000 (HeK.B i q (m - 1) (zeL (zg2 x) (n1 i) (suf y (0+m.toNat * 1))) (n1 i+1)) ⟨⟨hin,hm,hno,hq,1,Nat.le_refl _,by omega,by omega,by rw [qtp],fun j hj => ?_⟩,by show (m - 1+1).toNat<400; omega⟩ (fun z=>zkW x y _ _ i J q m z) (jxe x y _ _ i _ _ _ _) ?_
     . rw [qtp] at hj ⊢;unfold zfE;by_cases c:j<=i
       . rw [if_pos c,q6q (by omega)]; rfl
       . obtain rfl:j=i+1:=by omega
         rw [if_neg c,q7q,show 0+m.toNat * 1=zdz x y i - (i+1 - i) by omega]
     . rw [qtp];exact zaa (decide_eq_true (by omega)) (zaa ⟨by omega,by omega⟩ (zaa (by omega) (zaa (Nat.le_refl 1) (zaa (decide_eq_false (by omega)) (zaa ⟨by omega,fun j _=>⟨_,rfl⟩⟩ (zaa ⟨by omega,by omega⟩ (zaa ⟨by omega,by omega⟩ qaa)))))))
 | B i q m V n =>
   obtain ⟨hin,hm,hno,hq,t,ht1,ht2,hmt,hn,hV⟩:=ha;obtain ⟨hc1,hc2⟩:=q5q hin hm hno;have hk:=(qzi hm).1;have hck:cK x y=zdz x y i:=by unfold cK; rw [hc2]
   show qgb zdi _ (heK x y (zaQ x) (zaQ y)) _ _ ((heB x y (zaQ x) (zaQ y) i q m V n).fill J);by_cases hz:t=zdz x y i
   . refine qta none 20000 (fun z=>zkV x y _ _ i J q m V n z) (zaa (decide_eq_false (by omega)) qaa) fun H hH=>.inr (.inr ⟨hc1,by rw [hck]; omega,V,?_,?_,?_⟩)
     . rw [show zbe x y=n by unfold zbe; rw [hck,hc2,hn,hz]]
     . rw [show zbe x y=n by unfold zbe; rw [hck,hc2,hn,hz]]
       exact (List.cons.inj (show [H[0]?]=[some (.own (.raw V (n * 1)) false 9)] from hH)).1
     . intro j hj;rw [show zbe x y=n by unfold zbe; rw [hck,hc2,hn,hz]] at hj
       rw [hV j hj];unfold zbT;rw [hck,hc2]
   . refine qya (some (2,2)) 20000 (HeK.B i q (m - 1) (zeL V n (suf y (0+m.toNat * 1))) (n+1)) ⟨⟨hin,hm,hno,hq,t+1,by omega,by omega,by omega,by omega,fun j hj => ?_⟩,by show (m - 1+1).toNat<(m+1).toNat; omega⟩ (fun z=>zkU x y _ _ i J q m V n z) (jxe x y _ _ i _ _ _ _) ?_
     . by_cases c:j<n
       . rw [q6q c]; exact hV j c
       . obtain rfl:j=n:=by omega
         rw [q7q];unfold zfE;rw [if_neg (by omega),show 0+m.toNat * 1=zdz x y i - (j - i) by omega]
     . exact zaa (decide_eq_true (by omega)) (zaa ⟨by omega,by omega⟩ (zaa (by omega) (zaa (Nat.le_refl 1) (zaa (by omega) (zaa ⟨⟨by omega,by omega⟩,fun j hj=>by obtain rfl:j=0:=(by omega); rfl⟩ (zaa ⟨by omega,by omega⟩ qaa))))))
theorem q92 {V:Nat->Value} {S:Nat->ByteArray} {n:Nat} (h:∀ j,j<n->V j=.string (S j)):(Cells.raw V (n * 1)).Imp (.fn (zdg S) n):=fun γ vs hv=>by
 obtain ⟨h1,h2⟩:vs.length=n * 1/\∀ (i:Nat) (x:Value),vs[i]? = some x->x=V i:=hv;refine ⟨by omega,fun i x hx => ?_⟩
 have hi:i<vs.length:=(List.getElem?_eq_some_iff.1 hx).1;rw [h2 i x hx,h i (by omega)]
 rfl
def zb1 (v:SV) (n:Int):SV:=.tuple [v,.int .i64 (.lit n)]
def h0V (base:Nat) (x y:ByteArray):SV:=.slice ⟨base,.lit 0⟩ (.sym (cI x y+1)) (.sym (cI x y+1))
def h1V (base:Nat) (x y:ByteArray):SV:=.slice ⟨base,.lit 0⟩ (.sym (zbe x y)) (.rest base 0)
def h1E (x y:ByteArray):SO:=.own (.fn (zdg (zbT x y)) (zbe x y)) false 9
def hieR (base:Nat) (x y:ByteArray):R zaz :=
 .fork (zaH x && zaH y) (.fork (zbU x y) (.fork (decide (cK x y=0)) (.ok ⟨zb1 (h0V base x y) 0,[],[upE (zaQ x) x]⟩) (.ok ⟨zb1 (h1V base x y) 0,[],[h1E x y]⟩)) (.ok ⟨zb1 .zac 9,[],[]⟩)) (.ok ⟨zb1 .zac 2,[],[]⟩)
def jye:zaR:=fun args _ base=>qke args fun v w=>zah (zbH v) (.stuck 7824) fun x=>zah (zbH w) (.stuck 7824) fun y=>hieR base x.den y.den
theorem q8w {x y:ByteArray} (h:(zaH x && zaH y)=true):zbl x/\zbl y:=by
 rw [Bool.and_eq_true] at h;exact ⟨zcc.1 h.1,zcc.1 h.2⟩
theorem qo0 {x y:ByteArray} (h:(zaH x && zaH y)=false):¬ (zbl x/\zbl y):=fun ⟨h1,h2⟩=>by
 rw [qgg h1,qgg h2] at h;cases h
theorem zkO:q2a Tryd.prog 18 jye:=by
 intro glob O w0 β H w base args vs hH hG ha;refine qvc fun v w' hv=>qca fun x hx=>qca fun y hy => ?_
 rw [hv,qua hx,qua hy] at ha;have ha:=qja (qhb (t:=.sym x.den) rfl) (qja (qhb (t:=.sym y.den) rfl) qsb) _ _ ha;generalize x.den=x at ha ⊢;generalize y.den=y at ha ⊢
 let I:Ifc:=⟨[],[],[.str (.sym x),.str (.sym y)]⟩
 have hF:I.zbS H:=(qfd rfl).q;refine ⟨fun hv => ?_,fun hv => ?_⟩
 . obtain ⟨h1,h2⟩:=q8w hv;have hr:=j2i h1 h2;refine ⟨fun hc=>⟨fun hk => ?_,fun hk => ?_⟩,fun hc => ?_⟩
   . have hk:=of_decide_eq_true hk;refine qzb (c:=zdi) hH I (by intro g j hg; cases hg) ha hF [0] (by simp [I]) (by simp) (qjb hr fun v H h => ?_)
     rcases h with ⟨h,_⟩ | ⟨_,_,rfl,h⟩ | ⟨_,h,_⟩
     . rw [hc] at h; cases h
     . have hz:((cI x y:Int)+1).toNat=cI x y+1:=by omega
       refine ⟨?_,rfl,trivial,⟨.inl ⟨_,_,_,_,h,fun _=>rfl,Cells.Imp.refl _,rfl⟩,trivial⟩⟩;show SV.Imp (zb1 (.slice ⟨base,.lit 0⟩ (.sym ((cI x y:Int)+1).toNat) (.sym ((cI x y:Int)+1).toNat)) 0) _;rw [hz];exact .refl _
     . exact absurd hk h
   . have hk:=of_decide_eq_false hk;refine qzb (c:=zdi) hH I (by intro g j hg; cases hg) ha hF [0] (by simp [I]) (by simp) (qjb hr fun v H h => ?_)
     rcases h with ⟨h,_⟩ | ⟨_,h,_⟩ | ⟨_,_,V,rfl,h,hV⟩
     . rw [hc] at h; cases h
     . exact absurd h hk
     . exact ⟨.refl _,rfl,trivial,⟨.inl ⟨_,_,_,_,h,trivial,q92 hV,rfl⟩,trivial⟩⟩
   . refine qzb (c:=zdi) hH I (by intro g j hg; cases hg) ha hF [] (by simp [I]) (by simp) (qjb hr fun v H h => ?_)
     rcases h with ⟨_,rfl⟩ | ⟨h,_⟩ | ⟨h,_⟩
     . exact ⟨.refl _,rfl,trivial,trivial⟩
     . rw [hc] at h; cases h
     . rw [hc] at h; cases h
 . refine qmb (zeB.at none) 20000 hH I (by intro g j hg; cases hg) ha hF [] (by simp [I]) (by simp) (q5a (j5m x y) (zaa (qet x y) (zaa ?_ qaa)) fun H2 _=>⟨.refl _,rfl,trivial,trivial⟩)
   rw [q0a fun h=>qo0 hv (zds.1 h)]; rfl
end
noncomputable section
open Go.Sim
open Go.Proofs
open Go.Sort
open Go.Bfs
variable {α:Type}
def rlPa:List (FuncId × zaR):=[(35,seSm),(34,zg8)]
theorem j7m:∀ y∈rlPa,q2a Tryd.prog y.1 y.2:=zb2 seOK (all1 q2w)
def qs6:Cfg:=qyb (q2b rlPa)
theorem qdh:zaw qs6:=qdc j7m
section
variable (es:List MapEntry) (c:Nat) (x y:ByteArray)
def paT:Tree:=qla qs6 4000 10 [.ptr ⟨0,.lit 0⟩,.str (.sym x),.str (.sym y)] [.row (.lst [.map 1]),.obj (.za6 kPr vBo es c)]
def paZ:Tree:=qla qs6 4000 10 [.ptr ⟨0,.lit 0⟩,.str (.sym x),.str (.sym y)] [.row (.lst [.zaD])]
def rlQ (b:Bool):Prop:=(!cB (zdF (twS x y)))=b
def amE:SO:=.obj (.za6 kPr vBo es c)
def zfn (nm:Nat):SV:=.slice ⟨nm,.lit 0⟩ (.lit 1) (.lit 1)
def qt6:SO:=.own (.lst [.str (.sym x)]) true 9
theorem j8m:zaP [1] (paT es c x y) [true]=([(twS x y).ok,rlQ x y true],some (zb1 .zac 2,[some (amE es c)])):=by kernel_rfl
theorem j9m:zaP [1,3] (paT es c x y) [false,true]=([(twS x y).ok,rlQ x y false,decide (x=y)=true],some (zb1 (zfn 3) 0,[some (amE es c),some (qt6 x)])):=by kernel_rfl
theorem j3i:zaP [1,3] (paT es c x y) [false,false,true]=([(twS x y).ok,rlQ x y false,decide (x=y)=false,agG es c,(zcy es x y).isSome=true],some (zb1 (zeP 3 (seQ es x y)) 0,[some (amE es c),some (zha (seQ es x y))])):=by kernel_rfl
theorem j4i:zaP [1] (paT es c x y) [false,false,false]=([(twS x y).ok,rlQ x y false,decide (x=y)=false,agG es c,(zcy es x y).isSome=false],some (zb1 .zac 9,[some (amE es c)])):=by kernel_rfl
theorem jan:zaP [] (paZ x y) [true]=([(twS x y).ok,rlQ x y true],some (zb1 .zac 2,[])):=by kernel_rfl
theorem jbn:zaP [2] (paZ x y) [false,true]=([(twS x y).ok,rlQ x y false,decide (x=y)=true],some (zb1 (zfn 2) 0,[some (qt6 x)])):=by kernel_rfl
theorem j5i:zaP [] (paZ x y) [false,false]=([(twS x y).ok,rlQ x y false,decide (x=y)=false],some (zb1 .zac 9,[])):=by kernel_rfl
def paR (base:Nat):R zaz :=
 .fork (zaH x && zaH y) (.fork (decide (x=y)) (.ok ⟨zb1 (zfn base) 0,[],[qt6 x]⟩) (.need (agG es c) (.fork (zcy es x y).isSome (.ok ⟨zb1 (zeP base (seQ es x y)) 0,[],[zha (seQ es x y)]⟩) (.ok ⟨zb1 .zac 9,[],[]⟩)))) (.ok ⟨zb1 .zac 2,[],[]⟩)
end
theorem qrd {x y:ByteArray} {b:Bool} (h:(zaH x && zaH y)=b):rlQ x y (!b):=by
 unfold rlQ;congr 1;cases b with
 | true=>exact q8a (zb0.2 (q8w h))
 | false=>exact q0a fun hc=>qo0 h (zb0.1 hc)
def qu6 (H:List SO) (p:SV) (f:Nat->Option Nat->List MapEntry->Nat->R α):R α:=zah (q8s p) (.stuck 7851) fun m=>zah (nth H m) (.stuck 7852) fun e=>zah (qat e) (.stuck 7853) fun s =>
 zab (qdl s) (f m none [] 0) (zah (qmp s) (.stuck 7854) fun mm=>zah (nth H mm) (.stuck 7855) fun e=>match e with
  | .obj (.za6 k v es c)=>zab (qnp k) (zab (q9s v) (zab (q6i [m,mm]) (f m (some mm) es c) (.stuck 7856)) (.stuck 7856)) (.stuck 7856)
  | _=>.stuck 7857)
theorem qtv {H:List SO} {p:SV} {f:Nat->Option Nat->List MapEntry->Nat->R α} {φ:α->Prop}
  (h0:∀ m e,p=.ptr ⟨m,.lit 0⟩->H[m]? = some e->(e=.row (.lst [.zaD])\/∃ w el,e=.own (.lst [.zaD]) w el)->(f m none [] 0).Sat φ)
  (h1:∀ m mm e es c,p=.ptr ⟨m,.lit 0⟩->H[m]? = some e->(e=.row (.lst [.map mm])\/∃ w el,e=.own (.lst [.map mm]) w el)->H[mm]? = some (.obj (.za6 kPr vBo es c))->[m,mm].Nodup->(f m (some mm) es c).Sat φ):(qu6 H p f).Sat φ:=by
 refine qca fun m hm=>qca fun e he=>qca fun s hs => ?_
 have hs:=q2m hs;rw [qea] at he;refine R.Sat.zab (fun hnl => ?_) fun _=>qca fun mm hmm=>qca fun e2 he2 => ?_
 . rw [quh hnl] at hs;exact h0 m e (qpi hm) he hs
 . split
   . rename_i k v es c;refine qcb fun hk=>qcb fun hv=>qcb fun hd => ?_
     rw [qyg hmm] at hs;rw [qea,qni hk,q1m hv] at he2;exact h1 m mm e es c (qpi hm) he hs he2 (qxf hd)
   . trivial
def zjZ:zaR:=fun args H base=>qrh args fun p xv yv=>zah (zbH xv) (.stuck 7850) fun x=>zah (zbH yv) (.stuck 7850) fun y=>qu6 H p fun _ _ es c=>paR es c x.den y.den base
theorem q9t {I:Ifc} {base nm:Nat} (h:I.names.length<=nm):((zb1 (zfn nm) 0).ren (I.out base [nm])).Imp (zb1 (zfn base) 0):=by
 show SV.Imp (zb1 (.slice ⟨I.out base [nm] nm,.lit 0⟩ (.lit 1) (.lit 1)) 0) _;rw [zge h];exact .refl _
theorem qa3 {I:Ifc} {base nm:Nat} {q:Pth} (h:I.names.length<=nm):((zb1 (zeP nm q) 0).ren (I.out base [nm])).Imp (zb1 (zeP base q) 0):=by
 show SV.Imp (zb1 (.slice ⟨I.out base [nm] nm,.lit 0⟩ (.sym q.length) (.rest (I.out base [nm] nm) 0)) 0) _;rw [zge h];exact .refl _
theorem qau {I:Ifc} {nm:Nat}:(zb1 (zfn nm) 0).uses (I.seen [nm])=true:=by
 show ((I.seen [nm] nm && true) && true)=true;rw [qxm]; rfl
theorem qb3 {I:Ifc} {nm:Nat} {q:Pth}:(zb1 (zeP nm q) 0).uses (I.seen [nm])=true:=by
 show ((I.seen [nm] nm && I.seen [nm] nm) && true)=true;rw [qxm]; rfl
theorem paOK:q2a Tryd.prog 10 zjZ:=by
 intro glob O w0 β H w base args vs hH hG ha;refine qxd fun p xv yv hv=>qca fun x hx=>qca fun y hy => ?_
 rw [hv,qua hx,qua hy] at ha;have ha:=qja (.refl p) (qja (qhb (t:=.sym x.den) rfl) (qja (qhb (t:=.sym y.den) rfl) qsb)) _ _ ha;generalize x.den=x at ha ⊢;generalize y.den=y at ha ⊢;refine qtv (fun m e hp he hs => ?_) fun m mm e es c hp he hs he2 hd => ?_
 . rw [hp] at ha
   let I:Ifc:=⟨[m],[.row (.lst [.zaD])],[.ptr ⟨0,.lit 0⟩,.str (.sym x),.str (.sym y)]⟩
   have hF:I.zbS H:=Ifc.zbD (by simp [I]) rfl ⟨⟨⟨_,he,qig hs rfl⟩,rfl⟩,trivial⟩
   refine ⟨fun hr=>⟨fun hxy => ?_,fun hxy=>fun hg=>⟨fun hb => ?_,fun hb => ?_⟩⟩,fun hr => ?_⟩
   . exact qmb qdh 4000 hH I (by intro g j hg; cases hg) ha hF [2] (by simp [I]) (by simp) (q5a (jbn x y) (zaa (q3c x y) (zaa (qrd hr) (zaa hxy qaa))) fun H2 hH2=>⟨q9t (by simp [I]),qau,trivial,⟨.inl ⟨_,_,_,_,(List.cons.inj hH2).1,rfl,Cells.za9 rfl,rfl⟩,trivial⟩⟩)
   . rw [q6m rfl] at hb; cases hb
   . exact qmb qdh 4000 hH I (by intro g j hg; cases hg) ha hF [] (by simp) (by simp) (q5a (j5i x y) (zaa (q3c x y) (zaa (qrd hr) (zaa hxy qaa))) fun H2 _=>⟨.refl _,rfl,trivial,trivial⟩)
   . exact qmb qdh 4000 hH I (by intro g j hg; cases hg) ha hF [] (by simp) (by simp) (q5a (jan x y) (zaa (q3c x y) (zaa (qrd hr) qaa)) fun H2 _=>⟨.refl _,rfl,trivial,trivial⟩)
 . rw [hp] at ha
   let I:Ifc:=⟨[m,mm],[.row (.lst [.map 1]),.obj (.za6 kPr vBo es c)],[.ptr ⟨0,.lit 0⟩,.str (.sym x),.str (.sym y)]⟩
   have hF:I.zbS H:=Ifc.zbD hd rfl ⟨⟨⟨_,he,qig hs rfl⟩,rfl⟩,⟨⟨_,he2,_,rfl,fun _ _ h=>h⟩,rfl⟩,trivial⟩;have hS:∀ (keep:List Nat) {H2:List SO},H2[1]? = some (amE es c)->zdd I.big (I.seen keep) (I.out base keep) H2 (q4b I.ents 0) [(mm,.obj (.za6 kPr vBo es c))]:=fun keep H2 h0=>⟨⟨rfl,.inr ⟨_,_,h0,rfl,fun _ _ h=>h,rfl⟩⟩,trivial⟩;refine ⟨fun hr=>⟨fun hxy => ?_,fun hxy=>fun hg=>⟨fun hb => ?_,fun hb => ?_⟩⟩,fun hr => ?_⟩
   . refine qle (k':=kPr) (v':=vBo) hH he2 ?_
     exact qmb qdh 4000 hH I (by intro g j hg; cases hg) ha hF [3] (by simp [I]) (by simp) (q5a (j9m es c x y) (zaa (q3c x y) (zaa (qrd hr) (zaa hxy qaa))) fun H2 hH2=>⟨q9t (by simp [I]),qau,hS _ (List.cons.inj hH2).1,⟨.inl ⟨_,_,_,_,(List.cons.inj (List.cons.inj hH2).2).1,rfl,Cells.za9 rfl,rfl⟩,trivial⟩⟩)
   . refine qle (k':=kPr) (v':=vBo) hH he2 ?_
     exact qmb qdh 4000 hH I (by intro g j hg; cases hg) ha hF [3] (by simp [I]) (by simp) (q5a (j3i es c x y) (zaa (q3c x y) (zaa (qrd hr) (zaa hxy (zaa hg (zaa hb qaa))))) fun H2 hH2=>⟨qa3 (by simp [I]),qb3,hS _ (List.cons.inj hH2).1,⟨.inl ⟨_,_,_,_,(List.cons.inj (List.cons.inj hH2).2).1,fun _=>rfl,Cells.za9 rfl,rfl⟩,trivial⟩⟩)
   . refine qle (k':=kPr) (v':=vBo) hH he2 ?_
     exact qmb qdh 4000 hH I (by intro g j hg; cases hg) ha hF [] (by simp) (by simp) (q5a (j4i es c x y) (zaa (q3c x y) (zaa (qrd hr) (zaa hxy (zaa hg (zaa hb qaa))))) fun H2 hH2=>⟨.refl _,rfl,hS _ (List.cons.inj hH2).1,trivial⟩)
   . refine qle (k':=kPr) (v':=vBo) hH he2 ?_
     exact qmb qdh 4000 hH I (by intro g j hg; cases hg) ha hF [] (by simp) (by simp) (q5a (j8m es c x y) (zaa (q3c x y) (zaa (qrd hr) qaa)) fun H2 hH2=>⟨.refl _,rfl,hS _ (List.cons.inj hH2).1,trivial⟩)
end
noncomputable section
open Go.Sim
open Go.Proofs
open Go.Sort
open Go.Bfs
variable {α:Type}
def rlNx:List (FuncId × zaR):=[(10,zjZ),(34,zg8),(18,jye),(17,zkf)]
theorem jcn:∀ y∈rlNx,q2a Tryd.prog y.1 y.2:=zb2 paOK (zb2 q2w (zb2 zkO (all1 mtOK)))
def zd1:Cfg:=qyb (q2b rlNx)
theorem qil:zaw zd1:=qdc jcn
section
variable (mn kz:Bool) (es:List MapEntry) (c:Nat) (x y:ByteArray) (i:Int) (J:zaW)
def nqA:List SO:=zab mn [.row (.lst [.zaD])] [.row (.lst [.map 1]),.obj (.za6 kPr vBo es c)]
def nqR (st:Option (Nat × Nat)) (n:Nat):Tree:=qla (zd1.at st) n 12 [.ptr ⟨0,.lit 0⟩,.str (.sym x),.str (.sym y)] (nqA mn es c)
def zh5:SS:=qvb (nqR mn es c x y (some (2,2)) 2000) [false,false,true,true,kz]
def nqE (j:Nat):HP:=.ent ((nth (zh5 mn kz es c x y).heap j).getD .gone)
def nqF (j:Nat):List SV:=zah (nth (zh5 mn kz es c x y).frames j) [] fun f=>f.tmps
def nq8:List Nat:=[0,1,2,3,4,6,7]
def nqLP (j:Nat):HP:=qzs (nth (zh5 mn kz es c x y).heap j) (qmi (nqF mn kz es c x y 1) nq8)
def nqEs:List HP:=zab mn [nqE mn kz es c x y 0,nqE mn kz es c x y 1,nqE mn kz es c x y 2,nqE mn kz es c x y 3,nqE mn kz es c x y 4,nqE mn kz es c x y 5,nqE mn kz es c x y 6,nqE mn kz es c x y 7,nqE mn kz es c x y 8,nqLP mn kz es c x y 9]
 [nqE mn kz es c x y 0,nqE mn kz es c x y 1,nqE mn kz es c x y 2,nqE mn kz es c x y 3,nqE mn kz es c x y 4,nqE mn kz es c x y 5,nqE mn kz es c x y 6,nqE mn kz es c x y 7,nqE mn kz es c x y 8,nqE mn kz es c x y 9,nqLP mn kz es c x y 10]
def nqC:Cut:=⟨q0b (zh5 mn kz es c x y).frames [app (qmi (nqF mn kz es c x y 0) [0,1]) [(3,.int .i64 (.sym i))],qmi (nqF mn kz es c x y 1) nq8],nqEs mn kz es c x y⟩
def nqS (st:Option (Nat × Nat)) (n:Nat):Tree:=zaY (zd1.at st) n ((nqC mn kz es c x y i).fill J)
def nqN:List Nat:=zab mn [0,1,2,3,4,5,6,7,8,9] [0,1,2,3,4,5,6,7,8,9,10]
def nqM:Nat:=zab mn 10 11
def nqJ:List Nat:=zab mn [] [1]
def nqO:List (Option SO):=zab mn [] [some (amE es c)]
variable (z:Nat->Nat->Nat)
def hiM:Nat:=zab kz (cI x y+1) (zbe x y)
def hiR:Nat:=zab kz (Nat.succ (dep x)) (zbe x y)
def hiS:ByteArray:=zab kz (suf x (0+i.toNat * 1)) (zbT x y (0+i.toNat * 1))
def sE (s:ByteArray) (e:Int):SV:=.tuple [.str (.sym s),.int .i64 (.lit e)]
def noE (e:Int):SV:=.tuple [.str (.lit .empty),.int .i64 (.lit e)]
def nqG:List Prop:=[(twS x y).ok,rlQ x y false,decide (x=y)=false]
theorem j6i:zaq [] (nqC mn kz es c x y ((hiM kz x y:Int) - 1)) (nqN mn) (nqR mn es c x y (some (2,2)) 20000) [false,false,true,true,kz] z=(app (nqG x y) [(zaH x && zaH y)=true,zbU x y=true,decide (cK x y=0)=kz,qra ((hiM kz x y:Int) - 1)],some (.inr (qia (nqN mn) (nqM mn) (nqC mn kz es c x y ((hiM kz x y:Int) - 1))))):=by cases mn <;> cases kz <;> kernel_rfl
theorem zj6:zab (qna (zab mn 1 2) (nqN mn) (nqC mn kz es c x y i) (nqC mn kz es c x y i)) (zaG qma (nqC mn kz es c x y i).heap) false=true:=by cases mn <;> cases kz <;> kernel_rfl
def nqB (q:List Prop):List Prop:=(decide (i>=0)=true)::((0:Int)<=i/\i<(hiM kz x y:Int))::(0+i.toNat * 1<hiR kz x y)::q
theorem j7i:zaq [] (nqC false kz es c x y (i - 1)) (nqN false) (nqS false kz es c x y i J (some (2,2)) 20000) [true,false] z=(nqB kz x y i [mtB es x (hiS kz x y i)=false,qra (i - 1)],some (.inr (qia (nqN false) (nqM false) (nqC false kz es c x y (i - 1))))):=by cases kz <;> kernel_rfl
theorem juc:zaq [] (nqC true kz es c x y (i - 1)) (nqN true) (nqS true kz es c x y i J (some (2,2)) 20000) [true] z=(nqB kz x y i [qra (i - 1)],some (.inr (qia (nqN true) (nqM true) (nqC true kz es c x y (i - 1))))):=by cases kz <;> kernel_rfl
theorem jdn:zaq [1] (nqC false kz es c x y i) (nqN false) (nqS false kz es c x y i J none 20000) [true,true] z=(nqB kz x y i [mtB es x (hiS kz x y i)=true],some (.inl (sE (hiS kz x y i) 0,[some (amE es c)]))):=by cases kz <;> kernel_rfl
def q1S:ByteArray:=q2c (seQ es x y) (0+1 * 1)
def nqK (q:List Prop):List Prop:=((zaH x && zaH y)=true)::(decide (x=y)=false)::(agG es c)::q
def nqL:List Prop:=[(zcy es x y).isSome=true,decide (((seQ es x y).length:Int)<2)=false,1<(seQ es x y).length,1<(seQ es x y).length]
theorem j8i:zaq [1] (nqC false kz es c x y i) (nqN false) (nqS false kz es c x y i J none 20000) [false,true,false,true,false] z=((decide (i>=0)=false)::nqK es c x y (nqL es x y),some (.inl (sE (q1S es x y) 0,[some (amE es c)]))):=by cases kz <;> kernel_rfl
theorem zj5:zaq (nqJ mn) (nqC mn kz es c x y i) (nqN mn) (nqS mn kz es c x y i J none 20000) [false,true,false,false] z=((decide (i>=0)=false)::nqK (zab mn [] es) (zab mn 0 c) x y [(zcy (zab mn [] es) x y).isSome=false],some (.inl (noE 9,nqO mn es c))):=by cases mn <;> cases kz <;> kernel_rfl
theorem jvc:zaP [1] (nqR false es c x y none 20000) [false,false,true,false,true,false,true,false]=(app (nqG x y) (((zaH x && zaH y)=true)::(zbU x y=false)::nqK es c x y (nqL es x y)),some (sE (q1S es x y) 0,[some (amE es c)])):=by kernel_rfl
theorem jen:zaP (nqJ mn) (nqR mn es c x y none 20000) [false,false,true,false,true,false,false]=(app (nqG x y) (((zaH x && zaH y)=true)::(zbU x y=false)::nqK (zab mn [] es) (zab mn 0 c) x y [(zcy (zab mn [] es) x y).isSome=false]),some (noE 9,nqO mn es c)):=by cases mn <;> kernel_rfl
theorem jfn:zaP (nqJ mn) (nqR mn es c x y none 20000) [true,true,true,true]=((twS x y).ok::zaX (rlQ x y true) 4,some (noE 2,nqO mn es c)):=by cases mn <;> kernel_rfl
theorem j9i:zaP (nqJ mn) (nqR mn es c x y none 20000) [false,true]=([(twS x y).ok,rlQ x y false,decide (x=y)=true],some (noE 2,nqO mn es c)):=by cases mn <;> kernel_rfl
end
end
end Go.Proofs.YtbhlngmhgplepaaDoor.Aes
namespace Go.Bfs
noncomputable section
def zdq (f:Nat->Bool):Nat->Option Nat
 | 0=>none
 | n+1=>Go.Sim.zab (f n) (some n) (zdq f n)
theorem qzo {f:Nat->Bool} {i:Nat} (hf:f i=true):∀ {n:Nat},i<n->(∀ j,i<j->j<n->f j=false)->zdq f n=some i
 | 0,h,_=>absurd h (Nat.not_lt_zero _)
 | n+1,h,hn=>by
   unfold zdq;by_cases hi:i=n
   . subst hi; rw [hf]; rfl
   . rw [hn n (by omega) (by omega)]
     exact qzo hf (by omega) fun j h1 h2=>hn j h1 (by omega)
theorem q0o {f:Nat->Bool}:∀ {n:Nat},(∀ j,j<n->f j=false)->zdq f n=none
 | 0,_=>rfl
 | n+1,h=>by
   unfold zdq;rw [h n (by omega)]
   exact q0o fun j hj=>h j (by omega)
theorem qp0 {p:Pth} {q:Pth} (hp:p≠[]):∀ {r seen:List Str},q∈(ext p r seen).1->2<=q.length
 | [],_,h=>by cases h
 | b::r,seen,h=>by
   by_cases hb:b∈seen
   . rw [qme hb] at h; exact qp0 hp h
   . rw [qrf hb] at h;rcases List.mem_cons.1 h with rfl | h
     . have:=List.length_pos_iff.2 hp;rw [List.length_append]; simp; omega
     . exact qp0 hp h
theorem qbu {S:Pth->List Str} {q:Pth}:∀ {L:List Pth} {seen:List Str},(∀ p∈L,p≠[])->q∈(step S L seen).1->2<=q.length
 | [],_,_,h=>by cases h
 | p::r,seen,hL,h=>by
   rw [step] at h;rcases List.mem_append.1 h with h | h
   . exact qp0 (hL p List.mem_cons_self) h
   . exact qbu (fun p hp=>hL p (List.mem_cons_of_mem _ hp)) h
theorem Bfs.two {S:Pth->List Str} {y:Str} {L:List Pth} {seen:List Str} {o:Option Pth} (h:Bfs S y L seen o) (hL:∀ p∈L,p≠[]) {q:Pth} (ho:o=some q):2<=q.length:=by
 induction h with
 | found hf =>
   cases ho;exact qbu hL (List.mem_of_find?_eq_some hf)
 | over=>cases ho
 | next _ _ _ ih =>
   refine ih (fun p hp => ?_) ho;have:=qbu hL hp;intro e;rw [e] at this;simp at this
theorem qq0 {N:List Str} {p:Pth}:∀ {r seen:List Str},(∀ b∈r,b∈N)->un N (ext p r seen).2+(ext p r seen).1.length<=un N seen
 | [],_,_=>Nat.le_refl _
 | b::r,seen,h=>by
   by_cases hb:b∈seen
   . rw [qme hb]; exact qq0 fun b' h'=>h b' (List.mem_cons_of_mem _ h')
   . rw [qrf hb];have h1:=qp6 (h b List.mem_cons_self) hb;have h2:=qq0 (p:=p) (r:=r) (seen:=seen++[b]) fun b' h'=>h b' (List.mem_cons_of_mem _ h');simp only [List.length_cons];omega
theorem qup {N:List Str} {S:Pth->List Str} (hS:∀ q b,b∈S q->b∈N):∀ {L:List Pth} {seen:List Str},un N (step S L seen).2+(step S L seen).1.length<=un N seen
 | [],_=>Nat.le_refl _
 | p::r,seen=>by
   rw [step];have h1:=qq0 (N:=N) (p:=p) (r:=S p) (seen:=seen) (hS p);have h2:=qup hS (L:=r) (seen:=(ext p (S p) seen).2);simp only [List.length_append];omega
theorem Bfs.ex {N:List Str} {S:Pth->List Str} (hS:∀ q b,b∈S q->b∈N) (y:Str):∀ (k:Nat) (L:List Pth) (seen:List Str),un N seen<=k->∃ o,Bfs S y L seen o:=by
 intro k;induction k with
 | zero =>
   intro L seen hk;have:=qup hS (L:=L) (seen:=seen);exact ⟨none,.over (List.length_eq_zero_iff.1 (by omega))⟩
 | succ k ih =>
   intro L seen hk;have h1:=qup hS (L:=L) (seen:=seen);cases hf:(step S L seen).1.find? (qjd y) with
   | some q=>exact ⟨some q,.found hf⟩
   | none =>
     by_cases he:(step S L seen).1=[]
     . exact ⟨none,.over he⟩
     . have:=List.length_pos_iff.2 he;obtain ⟨o,ho⟩:=ih (step S L seen).1 (step S L seen).2 (by omega)
       exact ⟨o,.next hf he ho⟩
end
end Go.Bfs
namespace Go.Proofs.YtbhlngmhgplepaaDoor.Aes
noncomputable section
open Go.Sim
open Go.Proofs
open Go.Sort
open Go.Bfs
variable {α:Type}
def zcp (es:List MapEntry) (x y:ByteArray):ByteArray × Int :=
 zab (zaH x && zaH y) (zab (decide (x=y)) (.empty,2) (zah (zab (zbU x y) (zdq (fun j=>mtB es x (zbT x y j)) (zbe x y)) none) (zah (zcy es x y) (.empty,9) fun q=>(q2c q 1,0)) fun j=>(zbT x y j,0))) (.empty,2)
def nxI (mn:Bool) (es:List MapEntry):List MapEntry:=zab mn [] es
def nqD (mn:Bool) (es:List MapEntry) (c:Nat) (x y:ByteArray) (v:SV) (H:List SO):Prop :=
 (∃ s e,v=.tuple [.str s,.int .i64 e]/\s.den=(zcp (nxI mn es) x y).1/\e.den=(zcp (nxI mn es) x y).2)/\(mn=false->H[1]? = some (amE es c))
theorem jze {x y:ByteArray} (h:zbU x y=true):cI x y<=dep x:=by
 unfold zbU at h;unfold cI;cases ho:zgR x y with
 | none=>rw [ho] at h; cases h
 | some i =>
   have:=List.mem_of_find?_eq_some ho;have:=List.mem_range.1 this;show i<=_;omega
theorem zlm {x y:ByteArray} (h:zbU x y=true):cK x y<=dep y:=by
 unfold cK;unfold zbU at h;unfold cI;cases ho:zgR x y with
 | none=>rw [ho] at h; cases h
 | some i =>
   have h1:=List.find?_some ho;exact (qzi (zcc.1 h1)).1
theorem jaj {es:List MapEntry} {x y:ByteArray} {q:Pth} (h:SrB es x y (some q)):2<=q.length:=h.two (fun p hp=>by rw [List.mem_singleton.1 hp]; simp) rfl
section
variable {mn:Bool} {es:List MapEntry} {c:Nat} {x y:ByteArray}
theorem qcu (hr:(zaH x && zaH y)=true) (hxy:decide (x=y)=false) (hn:zab (zbU x y) (zdq (fun j=>mtB (nxI mn es) x (zbT x y j)) (zbe x y)) none=none):zcp (nxI mn es) x y=zah (zcy (nxI mn es) x y) (.empty,9) fun q=>(q2c q 1,0):=by
 unfold zcp;rw [hr,hxy,hn]; rfl
theorem qc3 (hr:(zaH x && zaH y)=true) (hxy:decide (x=y)=false) (hn:zab (zbU x y) (zdq (fun j=>mtB es x (zbT x y j)) (zbe x y)) none=none) (hb:(zcy es x y).isSome=true) (hl:2<=(seQ es x y).length) :
  zcp es x y=(q1S es x y,0)/\∀ p∈nqL es x y,p:=by
 constructor
 . have:=qcu (mn:=false) (es:=es) hr hxy hn;rw [show zcp es x y=zcp (nxI false es) x y from rfl,this]
   unfold q1S seQ;show zah (zcy es x y) _ _=_;cases hq:zcy es x y with
   | none=>rw [hq] at hb; cases hb
   | some q=>rfl
 . exact zaa hb (zaa (decide_eq_false (by omega)) (zaa (by omega) (zaa (by omega) qaa)))
theorem qr0 (es:List MapEntry) (x y:ByteArray):SrB es x y (zcy es x y):=by
 obtain ⟨o,ho⟩:=Bfs.ex (N:=(srL es).map (·.2)) (fun q b h=>qsp h) y _ [[x]] [x] (Nat.le_refl _)
 rw [qhl ho]; exact ho
theorem qq9 (hb:(zcy es x y).isSome=true):2<=(seQ es x y).length:=by
 obtain ⟨o,ho⟩:∃ o,SrB es x y o:=⟨_,qr0 es x y⟩;have e:=qhl ho;unfold seQ;rw [e] at hb ⊢;cases o with
 | none=>cases hb
 | some q=>exact jaj ho
theorem jgn {kz:Bool} (hk:decide (cK x y=0)=kz):hiM kz x y=zbe x y:=by
 cases kz with
 | false=>rfl
 | true =>
   have:cK x y=0:=of_decide_eq_true hk;show cI x y+1=cI x y+1+cK x y;omega
theorem jhn {kz:Bool} (hk:decide (cK x y=0)=kz) (hc:zbU x y=true):zbe x y<=hiR kz x y:=by
 cases kz with
 | false=>exact Nat.le_refl _
 | true =>
   have:cK x y=0:=of_decide_eq_true hk;have:=jze hc;show cI x y+1+cK x y<=dep x+1;omega
theorem jin {kz:Bool} (hk:decide (cK x y=0)=kz) {i:Int} (h1:i<(zbe x y:Int)):hiS kz x y i=zbT x y i.toNat:=by
 unfold hiS;rw [Nat.mul_one,Nat.zero_add];cases kz with
 | false=>rfl
 | true =>
   have h2:cK x y=0:=of_decide_eq_true hk;have h3:zbe x y=cI x y+1+cK x y:=rfl;show suf x i.toNat=_;unfold zbT zfE;rw [if_pos (by omega)]
theorem quv (s:ByteArray):dep s<=16:=by
 have:∀ n s,zfH n s<=n:=by
  intro n;induction n with
  | zero=>intro s; exact Nat.le_refl _
  | succ n ih =>
    intro s;show zab (zaQ s) (Nat.succ (zfH n (zdm s))) 0<=n+1;cases zaQ s with
    | false=>exact Nat.zero_le _
    | true=>exact Nat.succ_le_succ (ih _)
 exact this 16 s
theorem qft (hc:zbU x y=true):zbe x y<=40:=by
 have h1:=jze hc;have h2:=zlm hc;have h3:=quv x;have h4:=quv y;show cI x y+1+cK x y<=40;omega
theorem qs0 (h:∀ j,j<zbe x y->mtB es x (zbT x y j)=false):zab (zbU x y) (zdq (fun j=>mtB es x (zbT x y j)) (zbe x y)) none=none:=by
 cases zbU x y with
 | false=>rfl
 | true=>exact q0o h
theorem jbj:agG [] 0:=⟨⟨List.nodup_nil,fun _ h=>by cases h⟩,by show 0<=_; omega⟩
section
variable (hr:(zaH x && zaH y)=true) (hxy:decide (x=y)=false)
include hr hxy
theorem jjn (kz:Bool) (hg:agG (nxI mn es) (zab mn 0 c)) {i:Int} (hi:¬ i>=0) (hn:∀ j,j<zbe x y->mtB (nxI mn es) x (zbT x y j)=false) (J:zaW) {A:Type} {C:A->Cut} {Q:A->Prop} {k0:Nat}:qgb zd1 k0 C Q (nqD mn es c x y) ((nqC mn kz es c x y i).fill J):=by
 have hd:decide (i>=0)=false:=decide_eq_false hi;have hP:=qcu (mn:=mn) (es:=es) hr hxy (qs0 hn);cases hb:(zcy (nxI mn es) x y).isSome with
 | true =>
   cases mn with
   | true=>rw [show nxI true es=[] from rfl,q6m rfl] at hb; cases hb
   | false =>
     obtain ⟨h1,h2⟩:=qc3 (es:=es) hr hxy (qs0 hn) hb (qq9 hb);refine qta none 20000 (fun z=>j8i kz es c x y i J z) (zaa hd (zaa hr (zaa hxy (zaa hg h2)))) fun H hH=>⟨⟨_,_,rfl,?_,?_⟩,fun _=>(List.cons.inj hH).1⟩
     . show q1S es x y=(zcp es x y).1;rw [h1]
     . show (0:Int)=(zcp es x y).2;rw [h1]
 | false =>
   have hP':zcp (nxI mn es) x y=(.empty,9):=by
    rw [hP];cases hq:zcy (nxI mn es) x y with
    | none=>rfl
    | some q=>rw [hq] at hb; cases hb
   refine qta none 20000 (fun z=>zj5 mn kz es c x y i J z) (zaa hd (zaa hr (zaa hxy (zaa hg (zaa hb qaa))))) fun H hH=>⟨⟨_,_,rfl,?_,?_⟩,fun hm => ?_⟩
   . show ByteArray.empty=_;rw [hP']
   . show (9:Int)=_;rw [hP']
   . subst hm;exact (List.cons.inj hH).1
theorem jcj (hg:agG (nxI mn es) (zab mn 0 c)) (hc:zbU x y=true):Runs zd1 12 [.ptr ⟨0,.lit 0⟩,.str (.sym x),.str (.sym y)] (nqA mn es c) (nqD mn es c x y):=by
 obtain ⟨kz,hk⟩:∃ kz,decide (cK x y=0)=kz:=⟨_,rfl⟩;have hM:=jgn hk;have hRl:=jhn hk hc;have hsm:=qft hc;have hpos:1<=zbe x y:=by show 1<=cI x y+1+cK x y; omega
 have hlen:(nqA mn es c).length=zab mn 1 2:=by cases mn <;> rfl
 have hB:∀ {i:Int} {q:List Prop},0<=i->i<(zbe x y:Int)->(∀ p∈q,p)->∀ p∈nqB kz x y i q,p:=fun {i q} h0 h1 hq=>zaa (decide_eq_true h0) (zaa ⟨h0,by rw [hM]; exact h1⟩ (zaa (by omega) hq))
 refine q7c qil (nqC mn kz es c x y) (fun i => -1<=i/\i<(zbe x y:Int)/\∀ j:Nat,i<(j:Int)->j<zbe x y->mtB (nxI mn es) x (zbT x y j)=false) (fun i=>(i+1).toNat) (fun g nm hg=>by cases hg) ?_ fun i hi J => ?_
 . rw [hlen];refine qqm (some (2,2)) 20000 ((hiM kz x y:Int) - 1) ⟨by omega,by omega,fun j h1 h2=>by omega⟩ (fun z=>j6i mn kz es c x y z) (zj6 mn kz es c x y _) (qpa (zaa (q3c x y) (zaa (qrd hr) (zaa hxy qaa))) (zaa hr (zaa hc (zaa hk (zaa ⟨by omega,by omega⟩ qaa)))))
 . rw [hlen];obtain ⟨h1,h2,h3⟩:=hi;by_cases h0:i>=0
   . have hS:=jin hk h2;have hin:i.toNat<zbe x y:=by omega
     have hnext:mtB (nxI mn es) x (zbT x y i.toNat)=false->∀ j:Nat,i - 1<(j:Int)->j<zbe x y->mtB (nxI mn es) x (zbT x y j)=false:=fun hf j h4 h5=>by
      by_cases e:(j:Int)=i
      . rw [show j=i.toNat by omega]; exact hf
      . exact h3 j (by omega) h5
     cases mn with
     | true =>
       exact qya (some (2,2)) 20000 (i - 1) ⟨⟨by omega,by omega,hnext rfl⟩,by omega⟩ (fun z=>juc kz es c x y i J z) (zj6 true kz es c x y _) (hB h0 h2 (zaa ⟨by omega,by omega⟩ qaa))
     | false =>
       cases hf:mtB es x (zbT x y i.toNat) with
       | false =>
         exact qya (some (2,2)) 20000 (i - 1) ⟨⟨by omega,by omega,hnext hf⟩,by omega⟩ (fun z=>j7i kz es c x y i J z) (zj6 false kz es c x y _) (hB h0 h2 (zaa (by rw [hS]; exact hf) (zaa ⟨by omega,by omega⟩ qaa)))
       | true =>
         have hP:zcp es x y=(zbT x y i.toNat,0):=by
          unfold zcp;rw [hr,hxy,hc,show zab true (zdq (fun j=>mtB es x (zbT x y j)) (zbe x y)) none=some i.toNat from qzo hf hin fun j h4 h5=>h3 j (by omega) h5]
          rfl
         refine qta none 20000 (fun z=>jdn kz es c x y i J z) (hB h0 h2 (zaa (by rw [hS]; exact hf) qaa)) fun H hH=>⟨⟨_,_,rfl,?_,?_⟩,fun _=>(List.cons.inj hH).1⟩
         . show hiS kz x y i=(zcp es x y).1;rw [hP,hS]
         . show (0:Int)=(zcp es x y).2;rw [hP]
   . exact jjn hr hxy kz hg h0 (fun j hj=>h3 j (by omega) hj) J
end
end
end
noncomputable section
open Go.Sim
open Go.Proofs
open Go.Sort
open Go.Bfs
variable {α:Type}
section
variable {mn:Bool} {es:List MapEntry} {c:Nat} {x y:ByteArray}
theorem zj7 {H:List SO} (h:(nqJ mn).map (fun j=>H[j]?)=nqO mn es c):mn=false->H[1]? = some (amE es c):=fun hm=>by
 subst hm;exact (List.cons.inj h).1
theorem qr9 (hg:agG (nxI mn es) (zab mn 0 c)):Runs zd1 12 [.ptr ⟨0,.lit 0⟩,.str (.sym x),.str (.sym y)] (nqA mn es c) (nqD mn es c x y):=by
 cases hr:(zaH x && zaH y) with
 | false =>
   have hP:zcp (nxI mn es) x y=(.empty,2):=by unfold zcp; rw [hr]; rfl
   have hq:rlQ x y true:=qrd hr;exact qld qil (q5a (jfn mn es c x y) (zaa (q3c x y) (zaa hq (zaa hq (zaa hq (zaa hq qaa))))) fun H hH=>⟨⟨_,_,rfl,by rw [hP]; rfl,by rw [hP]; rfl⟩,zj7 hH⟩)
 | true =>
   have hq:rlQ x y false:=qrd hr;cases hxy:decide (x=y) with
   | true =>
     have hP:zcp (nxI mn es) x y=(.empty,2):=by unfold zcp; rw [hr,hxy]; rfl
     exact qld qil (q5a (j9i mn es c x y) (zaa (q3c x y) (zaa hq (zaa hxy qaa))) fun H hH=>⟨⟨_,_,rfl,by rw [hP]; rfl,by rw [hP]; rfl⟩,zj7 hH⟩)
   | false =>
     cases hc:zbU x y with
     | true=>exact jcj hr hxy hg hc
     | false =>
       have hn:zab (zbU x y) (zdq (fun j=>mtB (nxI mn es) x (zbT x y j)) (zbe x y)) none=none:=by rw [hc]; rfl
       have hP:=qcu (mn:=mn) (es:=es) hr hxy hn;have hG:∀ {q:List Prop},(∀ p∈q,p)->∀ p∈app (nqG x y) (((zaH x && zaH y)=true)::(zbU x y=false)::nqK (zab mn [] es) (zab mn 0 c) x y q),p:=fun hq'=>qpa (zaa (q3c x y) (zaa hq (zaa hxy qaa))) (zaa hr (zaa hc (zaa hr (zaa hxy (zaa hg hq')))));cases hb:(zcy (nxI mn es) x y).isSome with
       | true =>
         cases mn with
         | true=>rw [show nxI true es=[] from rfl,q6m rfl] at hb; cases hb
         | false =>
           obtain ⟨h1,h2⟩:=qc3 (es:=es) hr hxy hn hb (qq9 hb);refine qld qil (q5a (jvc es c x y) (hG h2) fun H hH=>⟨⟨_,_,rfl,?_,?_⟩,fun _=>(List.cons.inj hH).1⟩)
           . show q1S es x y=(zcp es x y).1;rw [h1]
           . show (0:Int)=(zcp es x y).2;rw [h1]
       | false =>
         have hP':zcp (nxI mn es) x y=(.empty,9):=by
          rw [hP];cases hq:zcy (nxI mn es) x y with
          | none=>rfl
          | some q=>rw [hq] at hb; cases hb
         exact qld qil (q5a (jen mn es c x y) (hG (zaa hb qaa)) fun H hH=>⟨⟨_,_,rfl,by rw [hP']; rfl,by rw [hP']; rfl⟩,zj7 hH⟩)
end
def nxV (es:List MapEntry) (x y:ByteArray):SV:=.tuple [.str (.sym (zcp es x y).1),.int .i64 (.sym (zcp es x y).2)]
def neSm:zaR:=fun args H _=>qrh args fun p xv yv=>zah (zbH xv) (.stuck 7850) fun x=>zah (zbH yv) (.stuck 7850) fun y=>qu6 H p fun _ _ es c=>.need (agG es c) (.ok ⟨nxV es x.den y.den,[],[]⟩)
theorem qs9 {es:List MapEntry} {x y:ByteArray} {s:zbg} {e:SI} (h1:s.den=(zcp es x y).1) (h2:e.den=(zcp es x y).2) (f:Nat->Nat):((SV.tuple [.str s,.int .i64 e]).ren f).Imp (nxV es x y):=fun γ v hv=>by
 have hv:some (Value.tuple #[.string s.den,.int .i64 e.den])=some v:=hv;rw [h1,h2] at hv;exact hv
theorem neOK:q2a Tryd.prog 12 neSm:=by
 intro glob O w0 β H w base args vs hH hG ha;refine qxd fun p xv yv hv=>qca fun x hx=>qca fun y hy => ?_
 rw [hv,qua hx,qua hy] at ha;have ha:=qja (.refl p) (qja (qhb (t:=.sym x.den) rfl) (qja (qhb (t:=.sym y.den) rfl) qsb)) _ _ ha;generalize x.den=x at ha ⊢;generalize y.den=y at ha ⊢;refine qtv (fun m e hp he hs=>fun hg => ?_) fun m mm e es c hp he hs he2 hd=>fun hg => ?_
 . rw [hp] at ha
   let I:Ifc:=⟨[m],[.row (.lst [.zaD])],[.ptr ⟨0,.lit 0⟩,.str (.sym x),.str (.sym y)]⟩
   have hF:I.zbS H:=Ifc.zbD (by simp [I]) rfl ⟨⟨⟨_,he,qig hs rfl⟩,rfl⟩,trivial⟩
   refine qzb (c:=zd1) hH I (by intro g j hg; cases hg) ha hF [] (by simp) (by simp) (qjb (qr9 (mn:=true) (es:=[]) (c:=0) hg) fun v H2 h => ?_)
   obtain ⟨⟨s,e,rfl,h1,h2⟩,_⟩:=h;exact ⟨qs9 h1 h2 _,rfl,trivial,trivial⟩
 . rw [hp] at ha
   let I:Ifc:=⟨[m,mm],[.row (.lst [.map 1]),.obj (.za6 kPr vBo es c)],[.ptr ⟨0,.lit 0⟩,.str (.sym x),.str (.sym y)]⟩
   have hF:I.zbS H:=Ifc.zbD hd rfl ⟨⟨⟨_,he,qig hs rfl⟩,rfl⟩,⟨⟨_,he2,_,rfl,fun _ _ h=>h⟩,rfl⟩,trivial⟩;refine qle (k':=kPr) (v':=vBo) hH he2 ?_
   refine qzb (c:=zd1) hH I (by intro g j hg; cases hg) ha hF [] (by simp) (by simp) (qjb (qr9 (mn:=false) (es:=es) (c:=c) hg) fun v H2 h => ?_)
   obtain ⟨⟨s,e,rfl,h1,h2⟩,h3⟩:=h;exact ⟨qs9 h1 h2 _,rfl,⟨⟨rfl,.inr ⟨_,_,h3 rfl,rfl,fun _ _ h=>h,rfl⟩⟩,trivial⟩,trivial⟩
end
noncomputable section
open Go.Sim
open Go.Proofs
variable {α:Type}
def zhU:List (FuncId × zaR):=[(36,zgZ),(37,inS')]
theorem jkn:∀ y∈zhU,q2a Tryd.prog y.1 y.2:=zb2 q3w (all1 inOK)
def zcF:Cfg:={ qyb (q2b zhU) with zdM:=some 1 }
theorem zfc:zaw zcF:=let h:=qdc jkn; ⟨h.prog,h.sums,h.zeI⟩
structure RSt where
 m:Mem
 g:Bool
 VS:Nat->Value
 ns:Nat
 f:Bool
 VL:Nat->Value
 n:Nat
 b:Bool
 VN:Nat->Value
 nn:Nat
section
variable (V:Nat->Value) (N n k:Nat) (x y:ByteArray) (J:zaW)
def rzT (st:Option (Nat × Nat)) (f:Nat):Tree:=qla (zcF.at st) f 11 [slP 0 n k,.str (.sym x),.str (.sym y)] [rwV V N,.mem m0Q]
def rzS0:SS:=qvb (rzT V N n k x y (some (1,7)) 2000) [false]
def rzS2:SS:=qvb (rzT V N n k x y (some (1,11)) 2000) [false,false]
variable (s:RSt) (i q:Nat) (u:ByteArray)
def rzSn:SV:=zab s.g (.slice ⟨2,.lit 0⟩ (.lit 1) (.lit 1)) (.slice ⟨2,.lit 0⟩ (.sym s.ns) (.rest 2 0))
def rzSE:HP:=zab s.g (.ent (.own (.lst [.str (.sym x)]) true 9)) (.ent (.own (.raw s.VS s.ns) false 9))
def rzLn:SN:=zab s.f (.lit 1) (.sym s.n)
def rzLS:SV:=.slice ⟨3,.lit 0⟩ (rzLn s) (zab s.f (.lit 1) (.rest 3 0))
def rzLE:HP:=zab s.f (.ent (.own (.fn (fun i=>.val (s.VL i)) 1) true 25)) (.ent (.own (.fn (fun i=>.val (s.VL i)) s.n) false 25))
def rzNS:SV:=zab s.b (.slice ⟨4,.lit 0⟩ (.sym s.nn) (.rest 4 0)) .zac
def rzNE:HP:=zab s.b (.ent (.own (.raw s.VN s.nn) false 25)) (.ent .gone)
def rzI (i:Nat):SV:=.int .i64 (.sym (i:Int))
def zi0 (b:Bool):List (Nat × SV):=[(0,slP 0 n k),(1,.str (.sym x)),(2,.str (.sym y)),(8,rzSn s),(9,rzLS s)]
def rzH (b:Bool):List HP:=[.ent (rwV V N),.ent (.mem s.m),rzSE x s,rzLE s,zab b (rzNE s) (.ent .gone)]
def rzA:Cut:=⟨q0b (rzS0 V N n k x y).frames [app (zi0 n k x y s false) [(10,rzI i)]],rzH V N x s false⟩
def zhR (st:Option (Nat × Nat)) (f:Nat):Tree:=zaY (zcF.at st) f ((rzA V N n k x y s i).fill J)
end
def rz0:RSt:=⟨m0Q,true,fun _=>undef,0,true,fun _=>undef,1,false,fun _=>undef,0⟩
section
variable (V:Nat->Value) (N n k:Nat) (x y:ByteArray) (J:zaW) (s:RSt) (i q:Nat) (u:ByteArray)
def rzS1:SS:=qvb (zhR V N n k x y J0Q rz0 0 (some (1,7)) 2000) [false]
def rzB:Cut:=⟨q0b (rzS1 V N n k x y).frames [app (zi0 n k x y s true) [(11,rzNS s),(12,rzI i)]],rzH V N x s true⟩
def ziZ (st:Option (Nat × Nat)) (f:Nat):Tree:=zaY (zcF.at st) f ((rzB V N n k x y s i).fill J)
def rzC:Cut:=⟨q0b (rzS2 V N n k x y).frames [app (zi0 n k x y s true) [(11,rzNS s),(12,rzI i),(13,.str (.sym u)),(14,rzI q)]],rzH V N x s true⟩
def zg4 (st:Option (Nat × Nat)) (f:Nat):Tree:=zaY (zcF.at st) f ((rzC V N n k x y s i q u).fill J)
end
section
variable (V:Nat->Value) (N n k:Nat) (x y:ByteArray) (J:zaW) (m:Mem) (g:Bool) (VS:Nat->Value) (ns:Nat) (f:Bool) (VL:Nat->Value) (nl:Nat) (b:Bool) (VN:Nat->Value) (nn:Nat) (i q:Nat) (u:ByteArray) (z:Nat->Nat->Nat)
def rzs:RSt:=⟨m,g,VS,ns,f,VL,nl,b,VN,nn⟩
def rz4:List Nat:=[0,1,2,3,4]
def rzM:Nat:=zab f 1 nl
def rzV:Value:=VL (0+i * 1)
def rzL (q:List Prop):List Prop:=((0:Int)<=(i:Int)/\(i:Int)<(rzM f nl:Int))::(0+i * 1<rzM f nl)::q
def rzG (q:List Prop):List Prop:=(decide ((i:Int)<(rzM f nl:Int))=true)::rzL f nl i (rzL f nl i (q7w m (rzV VL i) q))
theorem jwc:zaq [1] (rzA V N n k x y (rzs m g VS ns f VL nl b VN nn) i) rz4 (zhR V N n k x y J (rzs m g VS ns f VL nl b VN nn) i none 20000) [true,true] z =
  (rzG m f VL nl i ((decide (qqf m (rzV VL i)=y)=true)::rzL f nl i []),some (.inl (.tuple [.val (rzV VL i),.int .i64 (.lit 0)],[some (.mem m)]))):=by cases g <;> cases f <;> kernel_rfl
theorem jdj:zaq [] (rzA V N n k x y (rzs m g VS ns f VL nl b VN nn) (i+1)) rz4 (zhR V N n k x y J (rzs m g VS ns f VL nl b VN nn) i (some (1,7)) 20000) [true,false] z =
  (rzG m f VL nl i [decide (qqf m (rzV VL i)=y)=false,qra ((i:Int)+1)],some (.inr (qia rz4 5 (rzA V N n k x y (rzs m g VS ns f VL nl b VN nn) (i+1))))):=by cases g <;> cases f <;> kernel_rfl
theorem jln:zaq [] (rzB V N n k x y (rzs m g VS ns f VL nl false VN nn) 0) rz4 (zhR V N n k x y J (rzs m g VS ns f VL nl b VN nn) i (some (1,7)) 20000) [false] z =
  ([decide ((i:Int)<(rzM f nl:Int))=false],some (.inr (qva [(0,12,.int .i64 (.lit 0))] [] (qia rz4 5 (rzB V N n k x y (rzs m g VS ns f VL nl false VN nn) 0))))):=by cases g <;> cases f <;> kernel_rfl
theorem zjT:zaq [] (rzC V N n k x y (rzs m g VS ns f VL nl b VN nn) i 0 (qqf m (rzV VL i))) rz4 (ziZ V N n k x y J (rzs m g VS ns f VL nl b VN nn) i (some (1,11)) 20000) [true] z =
  (rzG m f VL nl i [],some (.inr (qva [(0,14,.int .i64 (.lit 0))] [] (qia rz4 5 (rzC V N n k x y (rzs m g VS ns f VL nl b VN nn) i 0 (qqf m (rzV VL i))))))):=by cases g <;> cases f <;> cases b <;> kernel_rfl
end
end
noncomputable section
open Go.Sim
open Go.Proofs
variable {α:Type}
section
variable (V:Nat->Value) (N n k:Nat) (x y:ByteArray) (J:zaW) (m:Mem) (g:Bool) (VS:Nat->Value) (ns:Nat) (f:Bool) (VL:Nat->Value) (nl:Nat) (b:Bool) (VN:Nat->Value) (nn:Nat) (i q:Nat) (u:ByteArray) (z:Nat->Nat->Nat)
def pzA:ByteArray:=zcQ (V (0+q * 2+0))
def pzB:ByteArray:=zcQ (V (0+q * 2+1))
def rzR (j:Nat) (r:List Prop):List Prop:=((0:Int)<=(q:Int)/\(q:Int)<(n:Int))::(0+q * 2+j<N * 2)::zcK .s (V (0+q * 2+j))::r
def rzW:Ss:=zab g ⟨q2c [x],1,0,1,false,1⟩ ⟨fun i=>zcQ (VS i),ns,0,ns,true,0⟩
def rzQ (r:List Prop):List Prop:=zab g ((rzW x g VS ns).ok::r) ((∀ i,i<ns->zcK .s (VS i))::(rzW x g VS ns).ok::r)
def rzE (r:List Prop):List Prop:=(decide ((q:Int)<(n:Int))=true)::rzR V N n q 0 r
theorem jej:zaq [] (rzA V N n k x y (rzs m g VS ns false VN nn false VN nn) 0) [0,1,2,4,3] (ziZ V N n k x y J (rzs m g VS ns f VL nl true VN nn) i (some (1,7)) 20000) [false,true] z =
  ([decide ((i:Int)<(rzM f nl:Int))=false,decide ((nn:Int) > 0)=true],some (.inr (qva [(0,10,.int .i64 (.lit 0))] [(3,.ent (.own (.raw VN nn) false 25))] (qia [0,1,2,4,3] 5 (rzA V N n k x y (rzs m g VS ns false VN nn false VN nn) 0))))):=by cases g <;> cases f <;> kernel_rfl
theorem jfj:zaq [1] (rzB V N n k x y (rzs m g VS ns f VL nl false VN nn) i) rz4 (ziZ V N n k x y J (rzs m g VS ns f VL nl false VN nn) i none 20000) [false] z =
  ([decide ((i:Int)<(rzM f nl:Int))=false],some (.inl (.tuple [.zac,.int .i64 (.lit 9)],[some (.mem m)]))):=by cases g <;> cases f <;> kernel_rfl
theorem jmn:zaq [] (rzB V N n k x y (rzs m g VS ns f VL nl b VN nn) (i+1)) rz4 (zg4 V N n k x y J (rzs m g VS ns f VL nl b VN nn) i q u (some (1,7)) 20000) [false] z =
  ([decide ((q:Int)<(n:Int))=false,qra ((i:Int)+1)],some (.inr (qia rz4 5 (rzB V N n k x y (rzs m g VS ns f VL nl b VN nn) (i+1))))):=by cases g <;> cases f <;> cases b <;> kernel_rfl
theorem jxc:zaq [] (rzC V N n k x y (rzs m g VS ns f VL nl b VN nn) i (q+1) u) rz4 (zg4 V N n k x y J (rzs m g VS ns f VL nl b VN nn) i q u (some (1,11)) 20000) (true::zaX false 9) z =
  (rzE V N n q (app (zaX (decide (pzA V q=u)=false) 9) [qra ((q:Int)+1)]),some (.inr (qia rz4 5 (rzC V N n k x y (rzs m g VS ns f VL nl b VN nn) i (q+1) u)))):=by cases g <;> cases f <;> cases b <;> kernel_rfl
theorem jgj:zaq [] (rzC V N n k x y (rzs m g VS ns f VL nl b VN nn) i (q+1) u) rz4 (zg4 V N n k x y J (rzs m g VS ns f VL nl b VN nn) i q u (some (1,11)) 20000) [true,true,false] z =
  (rzE V N n q ((decide (pzA V q=u)=true)::rzR V N n q 1 (rzQ x g VS ns [(!cB (inP (rzW x g VS ns) (pzB V q)))=false,qra ((q:Int)+1)])),some (.inr (qia rz4 5 (rzC V N n k x y (rzs m g VS ns f VL nl b VN nn) i (q+1) u)))):=by cases g <;> cases f <;> cases b <;> kernel_rfl
end
end
noncomputable section
open Go.Sim
open Go.Proofs
variable {α:Type}
section
variable (V:Nat->Value) (N n k:Nat) (x y:ByteArray) (J:zaW) (m:Mem) (g:Bool) (VS:Nat->Value) (ns:Nat) (f:Bool) (VL:Nat->Value) (nl:Nat) (b:Bool) (VN:Nat->Value) (nn:Nat) (i q:Nat) (u:ByteArray) (z:Nat->Nat->Nat)
def yL:Nat:=zaK (rzV VL i)
def yC:List Prop:=[zcH (rzV VL i),zcH (rzV VL i)/\(zeN (rzV VL i)=none->zaK (rzV VL i)=0)/\∀ j,j<yL VL i * 1->(m.cell ((zaS (rzV VL i)).add j)).isSome=true,decide (0+yL VL i<=0)=false,0<=0,(0+yL VL i) * 16<140737488355328/\0+yL VL i<140737488355328]
def yX:Nat->Value:=zb5 (fun i=>atV [] (0+i)) 0 (zc2 m (zaS (rzV VL i)))
def yY:Nat->Value:=zb5 (fun j=>yX m VL i (0+j)) ((0+yL VL i) * 1) fun j=>atV [.string (pzB V q)] (0+j)
def yM:Mem:=m.add (m.fresh (z 0 0)) ((0+yL VL i+1) * 1) (zec (0+yL VL i+1) (z 0 1)) 9 (yY V m VL i q)
def yV:Value:=.slice (some ⟨m.fresh (z 0 0),0,none⟩) (0+yL VL i+1) (zec (0+yL VL i+1) (z 0 1) - 0)
def ySh:List Prop:=zab g [] [1<=1,0+ns * 1<=ns,((ns+1) * 16<140737488355328/\ns+1<140737488355328)/\∀ i,i<1 * 1->(atV [.string (pzB V q)] (0+i)).oneCell'=true]
def yE:List Prop:=[1<=1,0+(0+yL VL i) * 1<=(0+yL VL i) * 1,((0+yL VL i+1) * 16<140737488355328/\0+yL VL i+1<140737488355328)/\∀ i,i<1 * 1->(atV [.string (pzB V q)] (0+i)).oneCell'=true]
def yz (p r:Bool):List Prop:=zab p [decide (z 0 0=0)=true,decide (z 1 0=0)=r] [decide (z 0 0=0)=false]
def yd (p r:Bool):List Bool:=zab p [true,r] [false]
def yR (p r:Bool):List Prop:=zab (zab p r false) (rzL f nl i (app (yC m VL i) (rzR V N n q 1 (yE V VL i q)))) (rzR V N n q 1 (rzL f nl i (app (yC m VL i) (yE V VL i q))))
def ziv (p r:Bool) (t:List Prop):List Prop:=rzE V N n q ((decide (pzA V q=u)=true)::rzR V N n q 1 (rzQ x g VS ns (((!cB (inP (rzW x g VS ns) (pzB V q)))=true)::rzR V N n q 1 (app (ySh V g ns q) (app (yz z p r) (app (yR V N n m f VL nl i q p r) t))))))
def zAt (j:Nat):Nat->Nat->Nat:=fun a b=>z (j+a) b
def yVS:Nat->Value:=zab g (atV [.string x,.string (pzB V q)]) (zb5 (fun i=>VS (0+i)) (ns * 1) fun j=>atV [.string (pzB V q)] (0+j))
def yns:Nat:=zab g 2 ((ns+1) * 1)
def yms:List (Nat × Nat × SV):=[(0,8,.slice ⟨6,.lit 0⟩ (zab g (.lit 2) (.sym (ns+1))) (.rest 6 0)),(0,11,.slice ⟨12,.lit 0⟩ (zab b (.sym (nn+1)) (.lit 1)) (.rest 12 0))]
def yes:List (Nat × HP):=zab g [(2,.ent (.own (.lst [.str (.sym x),.str (.sym (pzB V q))]) false 9))] []
def ySl:SV:=.slice ⟨10,.lit 0⟩ (.sym (0+yL VL i+1)) (.rest 10 0)
def yN:Nat->SV:=zeR (fun i=>.val (VN (0+i))) (nn * 1) fun j=>(nth [ySl VL i] (0+j)).getD qwa
def yZ:Sub:=[(10,m.fresh (z 0 0),zec (0+yL VL i+1) (z 0 1))]
def yVN:Nat->Value:=zab b (fun j=>zeb (yZ m VL i z) (yN VL VN nn i j)) (atV [yV m VL i z])
def ynn:Nat:=zab b ((nn+1) * 1) 1
def yNx:List Prop:=zab b [1<=1,0+nn * 1<=nn,((nn+1) * 24<140737488355328/\nn+1<140737488355328)/\∀ j,j<1 * 1->Go.Sim.zfm ((nth [ySl VL i] (0+j)).getD qwa),∀ j,j<(nn+1) * 1->okS (yZ m VL i (zAt z 5)) (yN VL VN nn i j)=true] []
def yTo:Cut:=rzC V N n k x y (rzs (yM V m VL i q (zAt z 5)) false (yVS V x g VS ns q) (yns g ns) f VL nl true (yVN m VL b VN nn i (zAt z 5)) (ynn b nn)) i (q+1) u
variable (p r:Bool)
end
end
noncomputable section
open Go.Sim
open Go.Proofs
variable {α:Type}
def zfS:List Nat:=[0,1,6,3,12]
def rz43:List Nat:=[0,1,2,4,3]
def zhS:List Nat:=[0,1,3,5,4]
section
variable (V:Nat->Value) (N n k:Nat) (x y:ByteArray) (J:zaW) (m:Mem) (g:Bool) (VS:Nat->Value) (ns:Nat) (f:Bool) (VL:Nat->Value) (nl:Nat) (b:Bool) (VN:Nat->Value) (nn:Nat) (i q:Nat) (u:ByteArray) (z:Nat->Nat->Nat)
def aZ:Cut:=rzA V N n k x y (rzs m g VS ns f VL nl b VN nn) i
def bZ:Cut:=rzB V N n k x y (rzs m g VS ns f VL nl b VN nn) i
def cZ:Cut:=rzC V N n k x y (rzs m g VS ns f VL nl b VN nn) i q u
def aM:Cut:=aZ V N n k x y m0Q true uV 0 true uV 0 false uV 0 0
def cMz:Cut:=cZ V N n k x y m0Q false uV 0 f uV 0 true uV 0 0 0 .empty
theorem a_n4:zab (qna 2 rz4 (aZ V N n k x y m g VS ns f VL nl b VN nn i) (aZ V N n k x y m g VS ns f VL nl b VN nn i)) (zaG qma (aZ V N n k x y m g VS ns f VL nl b VN nn i).heap) false=true:=by cases g <;> cases f <;> kernel_rfl
theorem zlz:zab (qna 2 rz43 (aZ V N n k x y m g VS ns f VL nl b VN nn i) (aZ V N n k x y m g VS ns f VL nl b VN nn i)) (zaG qma (aZ V N n k x y m g VS ns f VL nl b VN nn i).heap) false=true:=by cases g <;> cases f <;> kernel_rfl
theorem zlA:zab (qna 2 zhS (aM V N n k x y) (aZ V N n k x y m true VS ns true VL nl b VN nn i)) (zaG qma (aZ V N n k x y m true VS ns true VL nl b VN nn i).heap) false=true:=by kernel_rfl
theorem b_n4:zab (qna 2 rz4 (bZ V N n k x y m g VS ns f VL nl b VN nn i) (bZ V N n k x y m g VS ns f VL nl b VN nn i)) (zaG qma (bZ V N n k x y m g VS ns f VL nl b VN nn i).heap) false=true:=by cases g <;> cases f <;> cases b <;> kernel_rfl
theorem zll:zab (qna 2 rz4 (cZ V N n k x y m g VS ns f VL nl b VN nn i q u) (cZ V N n k x y m g VS ns f VL nl b VN nn i q u)) (zaG qma (cZ V N n k x y m g VS ns f VL nl b VN nn i q u).heap) false=true:=by cases g <;> cases f <;> cases b <;> kernel_rfl
theorem j0e:zab (qna 2 zfS (cMz V N n k x y f) (cZ V N n k x y m false VS ns f VL nl true VN nn i q u)) (zaG qma (cZ V N n k x y m false VS ns f VL nl true VN nn i q u).heap) false=true:=by cases f <;> kernel_rfl
theorem j1e:(((aZ V N n k x y m g VS ns f VL nl b VN nn i).frames[0]?).bind fun p=>p.tmps[10]?)=some (some (.int .i64 (.sym (i:Int)))):=by cases g <;> cases f <;> kernel_rfl
theorem j2e:(aZ V N n k x y m g VS ns f VL nl b VN nn i).heap[3]? = some (.ent (.own (.fn (fun i=>.val (VL i)) (zab f 1 nl)) f 25)):=by cases f <;> kernel_rfl
theorem jnn:(((bZ V N n k x y m g VS ns f VL nl b VN nn i).frames[0]?).bind fun p=>p.tmps[12]?)=some (some (.int .i64 (.sym (i:Int)))):=by cases g <;> cases f <;> cases b <;> kernel_rfl
theorem jon:(((cZ V N n k x y m g VS ns f VL nl b VN nn i q u).frames[0]?).bind fun p=>p.tmps[14]?)=some (some (.int .i64 (.sym (q:Int)))):=by cases g <;> cases f <;> cases b <;> kernel_rfl
theorem jhj:(((cZ V N n k x y m false VS ns f VL nl b VN nn i q u).frames[0]?).bind fun p=>p.tmps[8]?)=some (some (.slice ⟨2,.lit 0⟩ (.sym ns) (.rest 2 0))):=by cases f <;> cases b <;> kernel_rfl
theorem jyc:(((cZ V N n k x y m g VS ns f VL nl true VN nn i q u).frames[0]?).bind fun p=>p.tmps[11]?)=some (some (.slice ⟨4,.lit 0⟩ (.sym nn) (.rest 4 0))):=by cases g <;> cases f <;> kernel_rfl
theorem jpn:(cZ V N n k x y m false VS ns f VL nl b VN nn i q u).heap[2]? = some (.ent (.own (.raw VS ns) false 9)):=by kernel_rfl
def vlQ:Prop:=(twS x y).ok/\∀ i,i<2->((twS x y).at i).size<=9223372036854775807
def zV:Nat->Value:=atV [.slice (some ⟨m0Q.fresh (z 0 0),0,none⟩) 1 1]
theorem jqn:zaP [] (rzT V N n k x y none 20000) [true]=([vlQ x y,rlQ x y true],some (.tuple [.zac,.int .i64 (.lit 2)],[])):=by kernel_rfl
theorem jij:zaq [] (aM V N n k x y) zhS (rzT V N n k x y (some (1,7)) 20000) [false] z=([vlQ x y,rlQ x y false],some (.inr (qva [(0,10,.int .i64 (.lit 0))] [(3,.ent (.own (.raw (zV z) 1) true 25))] (qia zhS 6 (aZ V N n k x y (zgF x m0Q z) true uV 0 true (zV z) 1 false uV 0 0))))):=by kernel_rfl
end
end
end Go.Proofs.YtbhlngmhgplepaaDoor.Aes
namespace Go.Bfs
noncomputable section
def RB (S:Pth->List Str) (y:Str) (L:List Pth) (seen:List Str) (o:Option Pth):Prop:=(∃ q,L.find? (qjd y)=some q/\o=some q)\/(L.find? (qjd y)=none/\Bfs S y L seen o)
theorem RB.next {S:Pth->List Str} {y:Str} {L:List Pth} {seen:List Str} {o:Option Pth} (hne:(step S L seen).1≠[]) (h:RB S y (step S L seen).1 (step S L seen).2 o):Bfs S y L seen o:=by
 rcases h with ⟨q,h1,rfl⟩ | ⟨h1,h2⟩
 . exact .found h1
 . exact .next h1 hne h2
end
end Go.Bfs
namespace Go.Proofs.YtbhlngmhgplepaaDoor.Aes
noncomputable section
open Go.Sim
open Go.Proofs
open Go.Sort
open Go.Bfs
variable {α:Type}
section
variable (V:Nat->Value) (N n k:Nat) (x y:ByteArray) (J:zaW) (m:Mem) (g:Bool) (VS:Nat->Value) (ns:Nat) (f:Bool) (VL:Nat->Value) (nl:Nat) (b:Bool) (VN:Nat->Value) (nn:Nat) (i q:Nat) (u:ByteArray) (z:Nat->Nat->Nat) (p r:Bool)
theorem jzc:zaq [] (cMz V N n k x y f) zfS (zg4 V N n k x y J (rzs m true VS ns f VL nl false VN nn) i q u (some (1,11)) 20000) (app [true,true,true] (app (yd p r) [false])) z =
  (ziv V N n x m true VS ns f VL nl i q u z p r (app (yNx m VL false VN nn i z) [qra ((q:Int)+1)]),some (.inr (qva (yms true ns false nn) (yes V x true q) (qia zfS 13 (yTo V N n k x y m true VS ns f VL nl false VN nn i q u z))))):=by cases f <;> cases p <;> cases r <;> kernel_rfl
theorem j0c:zaq [] (cMz V N n k x y f) zfS (zg4 V N n k x y J (rzs m false VS ns f VL nl b VN nn) i q u (some (1,11)) 20000) (app [true,true,true] (app (yd p r) [false])) z =
  (ziv V N n x m false VS ns f VL nl i q u z p r (app (yNx m VL b VN nn i z) [qra ((q:Int)+1)]),some (.inr (qva (yms false ns b nn) (yes V x false q) (qia zfS 13 (yTo V N n k x y m false VS ns f VL nl b VN nn i q u z))))):=by cases f <;> cases b <;> cases p <;> cases r <;> kernel_rfl
end
end
noncomputable section
open Go.Sim
open Go.Proofs
open Go.Sort
open Go.Bfs
variable {α:Type}
def LvQ (x:ByteArray) (m:Mem) (v:Value) (q:Pth):Prop:=∃ b cap cap',v=.slice (some ⟨b,0,none⟩) q.length cap/\q.length<=cap/\zbK m b q/\m.own b=some (q.length,cap',9)/\(q≠[x]->cap=cap')/\(q=[x]->cap=1)
theorem LvQ.strs {x:ByteArray} {m:Mem} {v:Value} {q:Pth} (h:LvQ x m v q):zau m v q:=let ⟨b,cap,_,h1,h2,h3,_⟩:=h; ⟨b,cap,h1,h2,h3⟩
theorem LvQ.of {x:ByteArray} {m:Mem} {v:Value} {q:Pth} (h:za8 m v q) (hq:q≠[x]):LvQ x m v q:=let ⟨b,cap,h1,h2,h3,h4⟩:=h; ⟨b,cap,cap,h1,h2,h3,h4,fun _=>rfl,fun e=>absurd e hq⟩
theorem LvQ.add {x:ByteArray} {m:Mem} {v:Value} {q:Pth} (h:LvQ x m v q) {b' n cap:Nat} {el:TypeId} {V:Nat->Value} (hf:m.free b'):LvQ x (m.add b' n cap el V) v q:=by
 obtain ⟨b,c,c',h1,h2,h3,h4,h5⟩:=h;refine ⟨b,c,c',h1,h2,h3.add hf,?_,h5⟩;show (if b=b' then _ else m.own b)=_
 rw [if_neg]
 . exact h4
 . intro e;rw [← e] at hf;rw [hf.2] at h4; cases h4
def zfv (x:ByteArray) (g:Bool) (VS:Nat->Value) (ns:Nat) (Sn:List Str):Prop:=(g=true/\Sn=[x])\/(g=false/\ns=Sn.length/\∀ i (h:i<Sn.length),VS i=.string Sn[i])
structure RA where
 m:Mem
 g:Bool
 VS:Nat->Value
 ns:Nat
 f:Bool
 VL:Nat->Value
 nl:Nat
 b:Bool
 VN:Nat->Value
 nn:Nat
 L:List Pth
 zbd:List Str
 Nx:List Pth
 Sn:List Str
inductive Rr
 | a (s:RA) (i:Nat)
 | b (s:RA) (i:Nat)
 | c (s:RA) (i q:Nat)
def qsd (q:Pth):Str:=q.getLast?.getD ⟨#[]⟩
def atQ (L:List Pth) (i:Nat):Pth:=(L[i]?).getD []
theorem qjl {L:List Pth} {i:Nat} (h:i<L.length):atQ L i=L[i]:=by unfold atQ; rw [List.getElem?_eq_getElem h]; rfl
theorem qt9 {q:Pth} (h:q≠[]):qsd q=q.getLast h:=by unfold qsd; rw [List.getLast?_eq_some_getLast h]; rfl
section
variable (V:Nat->Value) (N n k:Nat) (x y:ByteArray)
def RrC:Rr->Cut
 | .a s i=>aZ V N n k x y s.m s.g s.VS s.ns s.f s.VL s.nl s.b s.VN s.nn i
 | .b s i=>bZ V N n k x y s.m s.g s.VS s.ns s.f s.VL s.nl s.b s.VN s.nn i
 | .c s i q=>cZ V N n k x y s.m s.g s.VS s.ns s.f s.VL s.nl s.b s.VN s.nn i q (qsd (atQ s.L i))
def uzR (Sn:List Str):Nat:=un ((prL V n).map (·.2)) Sn
def zeV:Pth->List Str:=zbG (prL V n)
def RrB (o:Option Pth):Prop:=RB (zeV V n) y [[x]] [x] o
structure RInv (s:RA):Prop where
 bd:s.m.bounded
 lv:zbs (LvQ x) s.m s.VL s.L
 lvn:rzM s.f s.nl=s.L.length
 ne:∀ q∈s.L,q≠[]
 nx:zfK s.m s.b s.VN s.nn s.Nx
 sn:zfv x s.g s.VS s.ns s.Sn
 gb:s.b=true->s.g=false
 szC:s.L.length<=n+2
 szL:∀ q∈s.L,q.length+uzR V n s.Sn<=n+2
 szN:∀ q∈s.Nx,2<=q.length/\q.length+uzR V n s.Sn<=n+2
 szS:s.Sn.length+uzR V n s.Sn<=n+2
 szX:s.Nx.length+uzR V n s.Sn<=n+2
def RrQ:Rr->Prop
 | .a s i=>RInv V n x s/\s.Nx=[]/\s.Sn=s.zbd/\i<=s.L.length/\s.L≠[]/\(s.L.take i).find? (qjd y)=none/\∀ o,RB (zeV V n) y s.L s.zbd o->RrB V n x y o
 | .b s i=>RInv V n x s/\i<=s.L.length/\Go.Bfs.step (zeV V n) (s.L.take i) s.zbd=(s.Nx,s.Sn)/\∀ o,Bfs (zeV V n) y s.L s.zbd o->RrB V n x y o
 | .c s i q=>RInv V n x s/\(∃ (h:i<s.L.length) (N0 l:List Pth) (S0:List Str),Go.Bfs.step (zeV V n) (s.L.take i) s.zbd=(N0,S0)/\ext s.L[i] (qfb ((prL V n).take q) (qsd s.L[i])) S0=(l,s.Sn)/\s.Nx=N0++l/\q<=n)/\∀ o,Bfs (zeV V n) y s.L s.zbd o->RrB V n x y o
def RrD (v:SV) (H:List SO):Prop:=(v=.tuple [.zac,.int .i64 (.lit 9)]/\RrB V n x y none)\/∃ w q m,v=.tuple [.val w,.int .i64 (.lit 0)]/\RrB V n x y (some q)/\H[1]? = some (.mem m)/\LvQ x m w q
def RrK:Nat:=(n+3) * (n+5)+10
def zhM:Rr->Nat
 | .a s i=>(3 * uzR V n s.Sn+2 * s.Nx.length) * RrK n+((s.L.length - i)+s.L.length * (n+3)+1)
 | .b s i=>(3 * uzR V n s.Sn+2 * s.Nx.length) * RrK n+(s.L.length - i) * (n+3)
 | .c s i q=>(3 * uzR V n s.Sn+2 * s.Nx.length) * RrK n+((s.L.length - (i+1)) * (n+3)+(n - q)+1)
end
theorem qu9 {n l i:Nat} (h:l<=n+2):(l - i)+l * (n+3)+1<RrK n:=by
 have h1:=Nat.mul_le_mul_right (n+3) h;have h2:(n+3) * (n+5)=(n+2) * (n+3)+3 * (n+3):=by rw [← Nat.add_mul,Nat.mul_comm]
 unfold RrK;omega
theorem jrn (V:Nat->Value) (n:Nat) (Sn:List Str):uzR V n Sn<=n:=by
 have:=qo6 ((prL V n).map (·.2)) Sn
 rw [List.length_map,qqb] at this;exact this
end
noncomputable section
open Go.Sim
open Go.Proofs
open Go.Sort
open Go.Bfs
variable {α:Type}
section
variable {V:Nat->Value} {N n k:Nat} {x y:ByteArray}
abbrev RrT (V:Nat->Value) (N n k:Nat) (x y:ByteArray) (a:Rr) (J:zaW):Prop:=qgb zcF 2 (RrC V N n k x y) (fun a'=>RrQ V n x y a'/\zhM V n a'<zhM V n a) (RrD V n x y) ((RrC V N n k x y a).fill J)
section
variable {s:RA} (hI:RInv V n x s)
include hI
theorem RInv.pth {i:Nat} (hc:i<s.L.length):LvQ x s.m (rzV s.VL i) s.L[i]/\s.L[i]≠[]/\s.L[i].length<=n+2:=by
 have:=hI.szL _ (List.getElem_mem hc);refine ⟨?_,hI.ne _ (List.getElem_mem hc),by omega⟩
 show LvQ x s.m (s.VL (0+i * 1)) _;rw [Nat.mul_one,Nat.zero_add];exact hI.lv _ hc
theorem RInv.rL {i:Nat} (hc:i<s.L.length) {q:List Prop} (hq:∀ p∈q,p):∀ p∈rzL s.f s.nl i q,p:=by
 have:=hI.lvn;exact zaa ⟨by omega,by omega⟩ (zaa (by omega) hq)
theorem RInv.rG (hz:n<=1000000) {i:Nat} (hc:i<s.L.length) {q:List Prop} (hq:∀ p∈q,p):∀ p∈rzG s.m s.f s.VL s.nl i q,p:=by
 obtain ⟨h1,h2,h3⟩:=hI.pth hc;have:=hI.lvn;exact zaa (decide_eq_true (by omega)) (hI.rL hc (hI.rL hc (h1.strs.zc3 h2 (by omega) hq)))
theorem RInv.last {i:Nat} (hc:i<s.L.length):qqf s.m (rzV s.VL i)=qsd (atQ s.L i):=by
 obtain ⟨h1,h2,h3⟩:=hI.pth hc;rw [h1.strs.zcY h2,qjl hc,qt9 h2]
end
theorem rr_a {s:RA} {i:Nat} (hz:n<=1000000) (J:zaW) (h:RrQ V n x y (.a s i)):RrT V N n k x y (.a s i) J:=by
 obtain ⟨hI,hNx,hSn,hi,hL,hno,hfin⟩:RInv V n x s/\s.Nx=[]/\s.Sn=s.zbd/\i<=s.L.length/\s.L≠[]/\(s.L.take i).find? (qjd y)=none/\∀ o,RB (zeV V n) y s.L s.zbd o->RrB V n x y o:=h;have hM:=hI.szC;show qgb zcF 2 (RrC V N n k x y) _ _ ((rzA V N n k x y (rzs s.m s.g s.VS s.ns s.f s.VL s.nl s.b s.VN s.nn) i).fill J);by_cases hc:i<s.L.length
 . obtain ⟨h1,h2,h3⟩:=hI.pth hc;have hS:=h1.strs.zcY h2;by_cases hy:s.L[i].getLast h2=y
   . refine qta none 20000 (fun z=>jwc V N n k x y J s.m s.g s.VS s.ns s.f s.VL s.nl s.b s.VN s.nn i z) (hI.rG hz hc (zaa (decide_eq_true (hS.trans hy)) (hI.rL hc qaa))) fun H hH=>.inr ⟨_,s.L[i],s.m,rfl,hfin _ (.inl ⟨_,?_,rfl⟩),(List.cons.inj hH).1,h1⟩;have:=q42 (A:=[]) (B:=[]) (f:=qjd y) hc (by simpa using hno) (by rw [qdt h2]; exact decide_eq_true hy)
     simpa using this
   . have hcond:decide (qqf s.m (rzV s.VL i)=y)=false:=decide_eq_false (by rw [hS]; exact hy)
     refine qya (some (1,7)) 20000 (names:=rz4) (Rr.a s (i+1)) ⟨⟨hI,hNx,hSn,hc,hL,?_,hfin⟩,?_⟩ (fun z=>jdj V N n k x y J s.m s.g s.VS s.ns s.f s.VL s.nl s.b s.VN s.nn i z) (a_n4 V N n k x y _ _ _ _ _ _ _ _ _ _ _) (hI.rG hz hc (zaa hcond (zaa (qte (by omega)) qaa)))
     . rw [qjg hc];exact q52 hno (by rw [qdt h2]; exact decide_eq_false hy)
     . show (3 * uzR V n s.Sn+2 * s.Nx.length) * RrK n+((s.L.length - (i+1))+s.L.length * (n+3)+1)<(3 * uzR V n s.Sn+2 * s.Nx.length) * RrK n+((s.L.length - i)+s.L.length * (n+3)+1);omega
 . have hie:i=s.L.length:=by omega
   rw [hie,List.take_length] at hno;have hd:decide ((i:Int)<(rzM s.f s.nl:Int))=false:=decide_eq_false (by rw [hI.lvn]; omega)
   refine qsc (some (1,7)) 20000 (names:=rz4) (Rr.b { s with b:=false } 0) ⟨⟨⟨hI.bd,hI.lv,hI.lvn,hI.ne,.inr ⟨rfl,hNx⟩,hI.sn,fun h=>(by cases h),hI.szC,hI.szL,hI.szN,hI.szS,hI.szX⟩,Nat.zero_le _,?_,fun o ho=>hfin o (.inr ⟨hno,ho⟩)⟩,?_⟩ (fun z=>jln V N n k x y J s.m s.g s.VS s.ns s.f s.VL s.nl s.b s.VN s.nn i z) (b_n4 V N n k x y _ _ _ _ _ _ _ _ _ _ _) (fun q hq p u hp hu => ?_) (fun e he=>by cases he) (zaa hd qaa)
   . show ([],s.zbd)=(s.Nx,s.Sn);rw [hNx,hSn]
   . show (3 * uzR V n s.Sn+2 * s.Nx.length) * RrK n+(s.L.length - 0) * (n+3)<(3 * uzR V n s.Sn+2 * s.Nx.length) * RrK n+((s.L.length - i)+s.L.length * (n+3)+1);rw [Nat.sub_zero]; omega
   . obtain rfl:=List.mem_singleton.1 hq;exact q6a (jnn V N n k x y _ _ _ _ _ _ _ _ _ _ 0) hp hu (qab rfl)
theorem rr_b {s:RA} {i:Nat} (hz:n<=1000000) (J:zaW) (h:RrQ V n x y (.b s i)):RrT V N n k x y (.b s i) J:=by
 obtain ⟨hI,hi,hs,hfin⟩:RInv V n x s/\i<=s.L.length/\Go.Bfs.step (zeV V n) (s.L.take i) s.zbd=(s.Nx,s.Sn)/\∀ o,Bfs (zeV V n) y s.L s.zbd o->RrB V n x y o:=h;have hM:=hI.szC;show qgb zcF 2 (RrC V N n k x y) _ _ ((rzB V N n k x y (rzs s.m s.g s.VS s.ns s.f s.VL s.nl s.b s.VN s.nn) i).fill J);by_cases hc:i<s.L.length
 . have hrun:=fun z=>zjT V N n k x y J s.m s.g s.VS s.ns s.f s.VL s.nl s.b s.VN s.nn i z;rw [hI.last hc] at hrun;refine qsc (some (1,11)) 20000 (names:=rz4) (Rr.c s i 0) ⟨⟨hI,⟨hc,s.Nx,[],s.Sn,hs,rfl,by simp,Nat.zero_le _⟩,hfin⟩,?_⟩ hrun (zll V N n k x y _ _ _ _ _ _ _ _ _ _ _ _ _) (fun q hq p u hp hu => ?_) (fun e he=>by cases he) (hI.rG hz hc qaa)
   . show (3 * uzR V n s.Sn+2 * s.Nx.length) * RrK n+((s.L.length - (i+1)) * (n+3)+(n - 0)+1)<(3 * uzR V n s.Sn+2 * s.Nx.length) * RrK n+(s.L.length - i) * (n+3);have e:s.L.length - i=(s.L.length - (i+1))+1:=by omega
     have e2:(s.L.length - i) * (n+3)=(s.L.length - (i+1)) * (n+3)+(n+3):=by rw [e,Nat.add_mul,Nat.one_mul]
     rw [e2];generalize (s.L.length - (i+1)) * (n+3)=A;omega
   . obtain rfl:=List.mem_singleton.1 hq;exact q6a (jon V N n k x y _ _ _ _ _ _ _ _ _ _ _ 0 _) hp hu (qab rfl)
 . have hie:i=s.L.length:=by omega
   rw [hie,List.take_length] at hs;have hd:decide ((i:Int)<(rzM s.f s.nl:Int))=false:=decide_eq_false (by rw [hI.lvn]; omega)
   rcases hI.nx with ⟨hb,hnn,hne,hrow⟩ | ⟨hb,hnil⟩
   . have hpos:0<s.Nx.length:=List.length_pos_iff.2 hne;have hxx:=hI.szX;rw [hb];refine qsc (some (1,7)) 20000 (names:=rz43) (Rr.a ⟨s.m,s.g,s.VS,s.ns,false,s.VN,s.nn,false,s.VN,s.nn,s.Nx,s.Sn,[],s.Sn⟩ 0) ⟨⟨⟨hI.bd,fun j hj=>LvQ.of (hrow j hj) fun e => ?_,hnn,fun q hq => ?_,.inr ⟨rfl,rfl⟩,hI.sn,fun h=>(by cases h),?_,fun q hq=>(hI.szN q hq).2,fun q hq=>(by cases hq),hI.szS,?_⟩,rfl,rfl,Nat.zero_le _,hne,rfl,fun o ho=>hfin o (RB.next (by rw [hs]; exact hne) (by rw [hs]; exact ho))⟩,?_⟩ (fun z=>jej V N n k x y J s.m s.g s.VS s.ns s.f s.VL s.nl s.VN s.nn i z) (zlz V N n k x y _ _ _ _ _ _ _ _ _ _ _) (fun q hq p u hp hu => ?_) (fun e he E0 hE0 => ?_) (zaa hd (zaa (decide_eq_true (by rw [hnn]; omega)) qaa))
     . have:=(hI.szN _ (List.getElem_mem hj)).1;rw [e] at this;simp at this
     . have:=(hI.szN q hq).1;intro e;rw [e] at this;simp at this
     . show s.Nx.length<=n+2;omega
     . show 0+uzR V n s.Sn<=n+2;omega
     . show (3 * uzR V n s.Sn+2 * 0) * RrK n+((s.Nx.length - 0)+s.Nx.length * (n+3)+1)<(3 * uzR V n s.Sn+2 * s.Nx.length) * RrK n+(s.L.length - i) * (n+3);exact quj (by omega) (qu9 (i:=0) (by omega))
     . obtain rfl:=List.mem_singleton.1 hq;exact q6a (j1e V N n k x y _ _ _ _ _ _ _ _ _ _ 0) hp hu (qab rfl)
     . obtain rfl:=List.mem_singleton.1 he;have hE0:(aZ V N n k x y s.m s.g s.VS s.ns false s.VN s.nn false s.VN s.nn 0).heap[3]? = some E0:=hE0;rw [j2e] at hE0;cases hE0;refine ⟨_,rfl,fun γ vs hv => ?_⟩;obtain ⟨h1,h2⟩:vs.length=s.nn/\∀ (i:Nat) (x:Value),vs[i]? = some x->x=s.VN i:=hv;exact ⟨h1,fun j w hw=>by rw [h2 j w hw]; rfl⟩
   . rw [hb];refine qta none 20000 (fun z=>jfj V N n k x y J s.m s.g s.VS s.ns s.f s.VL s.nl s.VN s.nn i z) (zaa hd qaa) fun H hH=>.inl ⟨rfl,hfin _ (.over (by rw [hs]; exact hnil))⟩
end
end
noncomputable section
open Go.Sim
open Go.Proofs
open Go.Sort
open Go.Bfs
variable {α:Type}
section
variable {V:Nat->Value} {N n k:Nat} {x y:ByteArray}
theorem qd3 (hV:PrV V n) {q:Nat} (hq:q<n):(prL V n)[q]'(by rw [qqb]; exact hq)=(pzA V q,pzB V q):=by
 unfold prL;rw [List.getElem_map,List.getElem_range];unfold zbL pzA pzB;rw [Nat.zero_add]; rfl
theorem q0i (hV:PrV V n) (hN:n<=N) {q j:Nat} (hq:q<n) (hj:j<2) {r:List Prop} (hr:∀ p∈r,p):∀ p∈rzR V N n q j r,p:=by
 refine zaa ⟨by omega,by omega⟩ (zaa (by omega) (zaa ?_ hr))
 obtain ⟨h1,h2⟩:=hV q hq;rcases (show j=0\/j=1 by omega) with rfl | rfl
 . rw [Nat.zero_add,Nat.add_zero,h1]; exact zfa _
 . rw [Nat.zero_add,h2]; exact zfa _
theorem qdu (hV:PrV V n) (hN:n<=N) {q:Nat} (hq:q<n) {r:List Prop} (hr:∀ p∈r,p):∀ p∈rzE V N n q r,p:=zaa (decide_eq_true (by omega)) (q0i hV hN hq (by omega) hr)
theorem zfv.at {g:Bool} {VS:Nat->Value} {ns:Nat} {Sn:List Str} (h:zfv x g VS ns Sn):(rzW x g VS ns).n=Sn.length/\∀ i (hi:i<Sn.length),(rzW x g VS ns).at i=Sn[i]:=by
 rcases h with ⟨rfl,rfl⟩ | ⟨rfl,h1,h2⟩
 . refine ⟨rfl,fun i hi => ?_⟩;obtain rfl:i=0:=by simp at hi; omega
   rfl
 . refine ⟨h1,fun i hi => ?_⟩;show zcQ (VS (0+i))=_;rw [Nat.zero_add,h2 i hi]; rfl
theorem zfv.inP {g:Bool} {VS:Nat->Value} {ns:Nat} {Sn:List Str} (h:zfv x g VS ns Sn) (s:Str):inP (rzW x g VS ns) s↔s∈Sn:=by
 obtain ⟨h1,h2⟩:=h.at;constructor
 . rintro ⟨i,hi,he⟩;rw [h1] at hi;rw [← he,h2 i hi]; exact List.getElem_mem hi
 . intro hs;obtain ⟨i,hi,he⟩:=List.mem_iff_getElem.1 hs;exact ⟨i,by rw [h1]; exact hi,by rw [h2 i hi]; exact he⟩
theorem zfv.rzQ {g:Bool} {VS:Nat->Value} {ns:Nat} {Sn:List Str} (h:zfv x g VS ns Sn) (hz:Sn.length<=1000000000) {r:List Prop} (hr:∀ p∈r,p):∀ p∈rzQ x g VS ns r,p:=by
 rcases h with ⟨rfl,rfl⟩ | ⟨rfl,h1,h2⟩
 . exact zaa ⟨Nat.le_refl _,by show 1<=_; omega⟩ hr
 . refine zaa (fun i hi => ?_) (zaa ⟨by show 0+ns<=ns; omega,by show ns<=_; omega⟩ hr)
   rw [h2 i (by omega)]; exact zfa _
theorem zfv.add {g:Bool} {VS:Nat->Value} {ns:Nat} {Sn:List Str} (h:zfv x g VS ns Sn) (q:Nat):zfv x false (yVS V x g VS ns q) (yns g ns) (Sn++[pzB V q]):=by
 rcases h with ⟨rfl,rfl⟩ | ⟨rfl,h1,h2⟩
 . refine .inr ⟨rfl,rfl,fun i hi => ?_⟩;have hi:i<2:=hi;rcases (show i=0\/i=1 by omega) with rfl | rfl <;> rfl
 . refine .inr ⟨rfl,?_,fun i hi => ?_⟩
   . show (ns+1) * 1=_;rw [List.length_append,h1]; simp
   . show zb5 (fun i=>VS (0+i)) (ns * 1) (fun j=>atV [.string (pzB V q)] (0+j)) i=_;unfold zb5;by_cases hc:i<Sn.length
     . rw [if_pos (by omega),List.getElem_append_left hc]
       show VS (0+i)=_;rw [Nat.zero_add]; exact h2 i hc
     . rw [if_neg (by omega)]
       have:i=Sn.length:=by simp at hi; omega
       subst this;rw [h1,Nat.mul_one,Nat.sub_self]; simp; rfl
end
end
noncomputable section
open Go.Sim
open Go.Proofs
open Go.Sort
open Go.Bfs
variable {α:Type}
section
variable {V:Nat->Value} {N n k:Nat} {x y:ByteArray} {m:Mem} {VL:Nat->Value} {i q:Nat} {l:Pth}
theorem zit (h:zau m (rzV VL i) l) {j:Nat} (hj:j<l.length):yX m VL i j=.string l[j]:=by
 obtain ⟨b,cap,e,_,h2⟩:=h;unfold yX zb5;rw [if_neg (by omega),Nat.sub_zero,e]
 exact qrp h2 hj
theorem jsn (h:zau m (rzV VL i) l) (z:Nat->Nat->Nat):za8 (yM V m VL i q z) (yV m VL i z) (l++[pzB V q]):=by
 have hl:yL VL i=l.length:=h.len;unfold yM yV;rw [Nat.mul_one];refine qe0 (by rw [hl]; simp) (qqp _ _) fun j hj => ?_
 unfold yY zb5;by_cases hc:j<l.length
 . rw [if_pos (by omega),List.getElem_append_left hc]
   show yX m VL i (0+j)=_;rw [Nat.zero_add]; exact zit h hc
 . rw [if_neg (by omega)]
   have:j=l.length:=by simp at hj; omega
   subst this;rw [hl,Nat.mul_one,Nat.zero_add,Nat.sub_self]; simp; rfl
theorem qv9 (h:zau m (rzV VL i) l) (hne:l≠[]) (hz:l.length<=1000000000) {r:List Prop} (hr:∀ p∈r,p):∀ p∈app (yC m VL i) r,p:=by
 have hl:yL VL i=l.length:=h.len;have hpos:=List.length_pos_iff.2 hne;refine qpa (zaa h.sl (zaa ⟨h.sl,?_,fun j hj => ?_⟩ (zaa (decide_eq_false (by omega)) (zaa (Nat.le_refl 0) (zaa ⟨by omega,by omega⟩ qaa))))) hr
 . obtain ⟨b,cap,e,_,_⟩:=h;rw [e];exact fun h=>by cases h
 . obtain ⟨b,cap,e,_,h2⟩:=h;rw [e];show (m.cell ((⟨b,0,none⟩:Addr).add j)).isSome=true;rw [qef,h2 j (by omega)]; rfl
theorem qw9 (h:zau m (rzV VL i) l) (hz:l.length<=1000000000):∀ p∈yE V VL i q,p:=by
 have hl:yL VL i=l.length:=h.len;refine zaa (Nat.le_refl 1) (zaa (by omega) (zaa ⟨⟨by omega,by omega⟩,fun j hj => ?_⟩ qaa))
 obtain rfl:j=0:=by omega
 rfl
theorem jtn {VN:Nat->Value} {nn:Nat} {z:Nat->Nat->Nat} {j:Nat} (h:j<nn):zeb (yZ m VL i z) (yN VL VN nn i j)=VN j:=by
 unfold yN zeR;rw [if_pos (by omega)]
 show VN (0+j)=_;rw [Nat.zero_add]
theorem jun {VN:Nat->Value} {nn:Nat} {z:Nat->Nat->Nat}:zeb (yZ m VL i z) (yN VL VN nn i nn)=yV m VL i z:=by
 unfold yN zeR;rw [if_neg (by omega),Nat.mul_one,Nat.sub_self]; rfl
theorem ziu {VN:Nat->Value} {nn:Nat} {z:Nat->Nat->Nat} {j:Nat} (h:j<(nn+1) * 1):okS (yZ m VL i z) (yN VL VN nn i j)=true:=by
 unfold yN zeR;by_cases hj:j<nn * 1
 . rw [if_pos hj]; rfl
 . rw [if_neg hj];have:j=nn:=by omega
   subst this;rw [Nat.mul_one,Nat.sub_self]; rfl
theorem j3e (z:Nat->Nat->Nat):∃ p r,∀ t∈yz z p r,t:=by
 by_cases h0:z 0 0=0
 . by_cases h1:z 1 0=0
   . exact ⟨true,true,zaa (decide_eq_true h0) (zaa (decide_eq_true h1) qaa)⟩
   . exact ⟨true,false,zaa (decide_eq_true h0) (zaa (decide_eq_false h1) qaa)⟩
 . exact ⟨false,false,zaa (decide_eq_false h0) qaa⟩
end
end
noncomputable section
open Go.Sim
open Go.Proofs
open Go.Sort
open Go.Bfs
variable {α:Type}
section
variable {V:Nat->Value} {N n k:Nat} {x y:ByteArray}
theorem qe3 {Sn:List Str} {s:Str} (hs:s ∉ Sn) (hm:s∈(prL V n).map (·.2)):uzR V n (Sn++[s])<uzR V n Sn:=qp6 hm hs
def RA.more (V:Nat->Value) (x:ByteArray) (s:RA) (i q:Nat) (z:Nat->Nat->Nat):RA:=⟨yM V s.m s.VL i q (zAt z 5),false,yVS V x s.g s.VS s.ns q,yns s.g s.ns,s.f,s.VL,s.nl,true,yVN s.m s.VL s.b s.VN s.nn i (zAt z 5),ynn s.b s.nn,s.L,s.zbd,s.Nx++[atQ s.L i++[pzB V q]],s.Sn++[pzB V q]⟩
theorem RInv.more {s:RA} (hI:RInv V n x s) {i q:Nat} (hc:i<s.L.length) (hin:pzB V q ∉ s.Sn) (hm:pzB V q∈(prL V n).map (·.2)) (z:Nat->Nat->Nat):RInv V n x (s.more V x i q z):=by
 have hu:=qe3 hin hm;have hf:s.m.free (s.m.fresh (zAt z 5 0 0)):=Mem.zbR hI.bd _;obtain ⟨hp,hne,hlen⟩:=hI.pth hc;have hq0:=hI.szL _ (List.getElem_mem hc);have hS:=hI.szS;have hX:=hI.szX;have zhs:za8 (yM V s.m s.VL i q (zAt z 5)) (yV s.m s.VL i (zAt z 5)) (atQ s.L i++[pzB V q]):=by rw [qjl hc]; exact jsn hp.strs _
 have hpos:=List.length_pos_iff.2 hne;refine ⟨Mem.zbo hI.bd _ _ _ _ _,fun j hj=>(hI.lv j hj).add hf,hI.lvn,hI.ne,.inl ⟨rfl,?_,by simp [RA.more],?_⟩,hI.sn.add q,fun _=>rfl,hI.szC,fun r hr => ?_,fun r hr => ?_,?_,?_⟩
 . show ynn s.b s.nn=(s.Nx++[_]).length;rw [List.length_append];rcases hI.nx with ⟨hb,h1,_,_⟩ | ⟨hb,h1⟩
   . rw [hb,h1]; show (s.Nx.length+1) * 1=_; simp
   . rw [hb,h1]; rfl
 . show zbs za8 _ (yVN s.m s.VL s.b s.VN s.nn i (zAt z 5)) (s.Nx++[_]);rcases hI.nx with ⟨hb,h1,_,h3⟩ | ⟨hb,h1⟩
   . rw [hb];refine (h3.zeu hf).snoc ?_ fun j hj=>jtn (by omega)
     rw [← h1];show za8 _ (zeb (yZ s.m s.VL i (zAt z 5)) (yN s.VL s.VN s.nn i s.nn)) _;rw [jun]; exact zhs
   . rw [hb,h1];exact zbs.snoc (V:=fun _=>undef) zbs.nil zhs fun j hj=>by cases hj
 . have:=hI.szL r hr;show r.length+uzR V n (s.Sn++[_])<=_;omega
 . rcases List.mem_append.1 hr with hr | hr
   . have:=hI.szN r hr;exact ⟨this.1,by show r.length+uzR V n (s.Sn++[_])<=_; omega⟩
   . obtain rfl:=List.mem_singleton.1 hr;rw [qjl hc,List.length_append];refine ⟨by simp; omega,?_⟩
     show s.L[i].length+1+uzR V n (s.Sn++[_])<=_;omega
 . show (s.Sn++[_]).length+uzR V n (s.Sn++[_])<=_;rw [List.length_append];show s.Sn.length+1+uzR V n (s.Sn++[pzB V q])<=_;omega
 . show (s.Nx++[_]).length+uzR V n (s.Sn++[_])<=_;rw [List.length_append];show s.Nx.length+1+uzR V n (s.Sn++[pzB V q])<=_;omega
set_option maxHeartbeats 0 in
theorem rr_c {s:RA} {i q:Nat} (hV:PrV V n) (hN:n<=N) (hz:n<=1000000) (J:zaW) (h:RrQ V n x y (.c s i q)):RrT V N n k x y (.c s i q) J:=by
 obtain ⟨hI,⟨hc,N0,l,S0,hs,he,hNx,hq⟩,hfin⟩:RInv V n x s/\(∃ (h:i<s.L.length) (N0 l:List Pth) (S0:List Str),Go.Bfs.step (zeV V n) (s.L.take i) s.zbd=(N0,S0)/\ext s.L[i] (qfb ((prL V n).take q) (qsd s.L[i])) S0=(l,s.Sn)/\s.Nx=N0++l/\q<=n)/\∀ o,Bfs (zeV V n) y s.L s.zbd o->RrB V n x y o:=h;have hM:=hI.szC;have hS1:=hI.szS;have hX1:=hI.szX;obtain ⟨hp,hne,hlen⟩:=hI.pth hc;have hu:qsd (atQ s.L i)=qsd s.L[i]:=by rw [qjl hc]
 show qgb zcF 2 (RrC V N n k x y) _ _ ((rzC V N n k x y (rzs s.m s.g s.VS s.ns s.f s.VL s.nl s.b s.VN s.nn) i q (qsd (atQ s.L i))).fill J);by_cases hc2:q<n
 . have hl2:q<(prL V n).length:=by rw [qqb]; exact hc2
   have hT:(prL V n).take (q+1)=(prL V n).take q++[(pzA V q,pzB V q)]:=by
    rw [List.take_add_one,List.getElem?_eq_getElem hl2,qd3 hV hc2]; rfl
   have zgp:qra ((q:Int)+1):=qte (by omega)
   by_cases hA:pzA V q=qsd (atQ s.L i)
   . have hA':decide (pzA V q=qsd (atQ s.L i))=true:=decide_eq_true hA;have hsc:qfb ((prL V n).take (q+1)) (qsd s.L[i])=qfb ((prL V n).take q) (qsd s.L[i])++[pzB V q]:=by
      rw [hT,hA,hu,q5m]
     by_cases hin:pzB V q∈s.Sn
     . refine qya (some (1,11)) 20000 (names:=rz4) (Rr.c s i (q+1)) ⟨⟨hI,⟨hc,N0,l,S0,hs,?_,hNx,hc2⟩,hfin⟩,?_⟩ (fun z=>jgj V N n k x y J s.m s.g s.VS s.ns s.f s.VL s.nl s.b s.VN s.nn i q _ z) (zll V N n k x y _ _ _ _ _ _ _ _ _ _ _ _ _) (qdu hV hN hc2 (zaa hA' (q0i hV hN hc2 (by omega) (hI.sn.rzQ (by omega) (zaa (by rw [q8a ((hI.sn.inP _).2 hin)]; rfl) (zaa zgp qaa))))))
       . rw [hsc,qan (by rw [he]; exact hin),he]
       . show (3 * uzR V n s.Sn+2 * s.Nx.length) * RrK n+((s.L.length - (i+1)) * (n+3)+(n - (q+1))+1)<(3 * uzR V n s.Sn+2 * s.Nx.length) * RrK n+((s.L.length - (i+1)) * (n+3)+(n - q)+1);omega
     . have hm:pzB V q∈(prL V n).map (·.2):=List.mem_map.2 ⟨_,List.getElem_mem hl2,by rw [qd3 hV hc2]⟩
       have hu':=qe3 hin hm;have hE:ext s.L[i] (qfb ((prL V n).take (q+1)) (qsd s.L[i])) S0=(l++[s.L[i]++[pzB V q]],s.Sn++[pzB V q]):=by
        rw [hsc,qwo (by rw [he]; exact hin),he]
       have hst:∀ z,RrQ V n x y (.c (s.more V x i q z) i (q+1)):=fun z=>⟨hI.more hc hin hm z,⟨hc,N0,l++[s.L[i]++[pzB V q]],S0,hs,hE,by
        show s.Nx++[atQ s.L i++[pzB V q]]=_;rw [hNx,qjl hc,List.append_assoc],hc2⟩,hfin⟩
       have hmu:∀ z,zhM V n (.c (s.more V x i q z) i (q+1))<zhM V n (.c s i q):=fun z=>by
        show (3 * uzR V n (s.Sn++[pzB V q])+2 * (s.Nx++[atQ s.L i++[pzB V q]]).length) * RrK n+((s.L.length - (i+1)) * (n+3)+(n - (q+1))+1)<(3 * uzR V n s.Sn+2 * s.Nx.length) * RrK n+((s.L.length - (i+1)) * (n+3)+(n - q)+1);rw [List.length_append];have h1:=Nat.mul_le_mul_right (n+3) (show s.L.length - (i+1)+1<=s.L.length by omega)
        rw [Nat.add_mul,Nat.one_mul] at h1;have h2:=qu9 (i:=0) hM;refine quj ?_ (by omega)
        show 3 * uzR V n (s.Sn++[pzB V q])+2 * (s.Nx.length+1)<_;omega
       have hcnd:∀ z p r,(∀ t∈yz z p r,t)->∀ t∈ziv V N n x s.m s.g s.VS s.ns s.f s.VL s.nl i q (qsd (atQ s.L i)) z p r (app (yNx s.m s.VL s.b s.VN s.nn i z) [qra ((q:Int)+1)]),t:=fun z p r hpr=>by
        have hlz:s.L[i].length<=1000000000:=by omega
        refine qdu hV hN hc2 (zaa hA' (q0i hV hN hc2 (by omega) (hI.sn.rzQ (by omega) (zaa (by rw [q0a (fun h=>hin ((hI.sn.inP _).1 h))]; rfl) (q0i hV hN hc2 (by omega) (qpa ?_ (qpa hpr (qpa ?_ (qpa ?_ (zaa zgp qaa))))))))))
        . unfold ySh;rcases hI.sn with ⟨hg,_⟩ | ⟨hg,h1,_⟩
          . rw [hg]; exact qaa
          . rw [hg];refine zaa (Nat.le_refl 1) (zaa (by omega) (zaa ⟨⟨by omega,by omega⟩,fun j hj => ?_⟩ qaa))
            obtain rfl:j=0:=by omega
            rfl
        . unfold yR;cases zab p r false with
          | true=>exact hI.rL hc (qv9 hp.strs hne hlz (q0i hV hN hc2 (by omega) (qw9 hp.strs hlz)))
          | false=>exact q0i hV hN hc2 (by omega) (hI.rL hc (qv9 hp.strs hne hlz (qw9 hp.strs hlz)))
        . unfold yNx;rcases hI.nx with ⟨hb,h1,_,_⟩ | ⟨hb,_⟩
          . rw [hb];refine zaa (Nat.le_refl 1) (zaa (by omega) (zaa ⟨⟨by omega,by omega⟩,fun j hj => ?_⟩ (zaa (fun j hj=>ziu hj) qaa)))
            obtain rfl:j=0:=by omega
            trivial
          . rw [hb]; exact qaa
       have hT8:∀ z,∀ t∈yms s.g s.ns s.b s.nn,∀ (p:SP) (u:Option SV),(RrC V N n k x y (.c (s.more V x i q z) i (q+1))).frames[t.1]? = some p->p.tmps[t.2.1]? = some u->∃ w,u=some w/\t.2.2.Imp (w.ren (q9b zfS 13)):=fun z t ht p u hp hu=>by
        rcases List.mem_cons.1 ht with rfl | ht
        . refine q6a (jhj V N n k x y _ _ _ _ _ _ _ _ _ _ _ _) hp hu ?_
          cases hg:s.g with
          | true =>
            show SV.Imp (SV.slice ⟨6,.lit 0⟩ (.lit 2) (.rest 6 0)) (SV.slice ⟨6,.lit 0⟩ (.sym (yns s.g s.ns)) (.rest 6 0));rw [hg]; exact fun γ v hv=>hv
          | false =>
            show SV.Imp (SV.slice ⟨6,.lit 0⟩ (.sym (s.ns+1)) (.rest 6 0)) (SV.slice ⟨6,.lit 0⟩ (.sym (yns s.g s.ns)) (.rest 6 0));rw [hg];show SV.Imp _ (SV.slice ⟨6,.lit 0⟩ (.sym ((s.ns+1) * 1)) (.rest 6 0));rw [Nat.mul_one]; exact .refl _
        . obtain rfl:=List.mem_singleton.1 ht;refine q6a (jyc V N n k x y _ _ _ _ _ _ _ _ _ _ _ _) hp hu ?_
          cases hb:s.b with
          | false =>
            show SV.Imp (SV.slice ⟨12,.lit 0⟩ (.lit 1) (.rest 12 0)) (SV.slice ⟨12,.lit 0⟩ (.sym (ynn s.b s.nn)) (.rest 12 0));rw [hb]; exact fun γ v hv=>hv
          | true =>
            show SV.Imp (SV.slice ⟨12,.lit 0⟩ (.sym (s.nn+1)) (.rest 12 0)) (SV.slice ⟨12,.lit 0⟩ (.sym (ynn s.b s.nn)) (.rest 12 0));rw [hb];show SV.Imp _ (SV.slice ⟨12,.lit 0⟩ (.sym ((s.nn+1) * 1)) (.rest 12 0));rw [Nat.mul_one]; exact .refl _
       obtain ⟨m,g,VS,ns,f,VL,nl,b,VN,nn,L,zbd,Nx,Sn⟩:=s;cases g with
       | true =>
         have hb:b=false:=by
          cases b with
          | false=>rfl
          | true=>exact absurd (hI.gb rfl) (by simp)
         subst hb;refine q4d (js:=[]) (K:=fun _=>False) (some (1,11)) 20000 (M:=cMz V N n k x y f) (names:=zfS) (fun z => ?_) (fun v es h=>h.elim);obtain ⟨p,r,hpr⟩:=j3e z;refine ⟨_,_,_,jzc V N n k x y J m VS ns f VL nl VN nn i q _ z p r,hcnd z p r hpr,?_⟩;refine ⟨.c (RA.more V x ⟨m,true,VS,ns,f,VL,nl,false,VN,nn,L,zbd,Nx,Sn⟩ i q z) i (q+1),13,yms true ns false nn,yes V x true q,⟨hst z,hmu z⟩,rfl,j0e V N n k x y _ _ _ f _ _ _ _ _ _ _,hT8 z,fun e he E0 hE0 => ?_⟩;obtain rfl:=List.mem_singleton.1 he;replace hE0:=(jpn V N n k x y _ _ _ _ _ _ _ _ _ _ _ _).symm.trans hE0;cases hE0;refine ⟨_,rfl,fun γ vs hv => ?_⟩;have hv:some [Value.string x,Value.string (pzB V q)]=some vs:=hv;cases hv;refine ⟨rfl,fun j w hw => ?_⟩;match j,hw with
         | 0,hw=>exact (Option.some.inj hw).symm
         | 1,hw=>exact (Option.some.inj hw).symm
       | false =>
         refine q4d (js:=[]) (K:=fun _=>False) (some (1,11)) 20000 (M:=cMz V N n k x y f) (names:=zfS) (fun z => ?_) (fun v es h=>h.elim);obtain ⟨p,r,hpr⟩:=j3e z;refine ⟨_,_,_,j0c V N n k x y J m VS ns f VL nl b VN nn i q _ z p r,hcnd z p r hpr,?_⟩;exact ⟨.c (RA.more V x ⟨m,false,VS,ns,f,VL,nl,b,VN,nn,L,zbd,Nx,Sn⟩ i q z) i (q+1),13,yms false ns b nn,yes V x false q,⟨hst z,hmu z⟩,rfl,j0e V N n k x y _ _ _ f _ _ _ _ _ _ _,hT8 z,fun e he=>by cases he⟩
   . have hA':decide (pzA V q=qsd (atQ s.L i))=false:=decide_eq_false hA;refine qya (some (1,11)) 20000 (names:=rz4) (Rr.c s i (q+1)) ⟨⟨hI,⟨hc,N0,l,S0,hs,?_,hNx,hc2⟩,hfin⟩,?_⟩ (fun z=>jxc V N n k x y J s.m s.g s.VS s.ns s.f s.VL s.nl s.b s.VN s.nn i q _ z) (zll V N n k x y _ _ _ _ _ _ _ _ _ _ _ _ _) (qdu hV hN hc2 (qpa (qtb hA' 9) (zaa zgp qaa)))
     . rw [hT,qud _ _ (fun e=>hA (by rw [hu]; exact e.symm)),he]
     . show (3 * uzR V n s.Sn+2 * s.Nx.length) * RrK n+((s.L.length - (i+1)) * (n+3)+(n - (q+1))+1)<(3 * uzR V n s.Sn+2 * s.Nx.length) * RrK n+((s.L.length - (i+1)) * (n+3)+(n - q)+1);omega
 . have hqe:q=n:=by omega
   have hTq:(prL V n).take q=prL V n:=List.take_of_length_le (by rw [qqb]; omega)
   rw [hTq] at he;have hd:decide ((q:Int)<(n:Int))=false:=decide_eq_false (by omega)
   refine qya (some (1,7)) 20000 (names:=rz4) (Rr.b s (i+1)) ⟨⟨hI,hc,?_,hfin⟩,?_⟩ (fun z=>jmn V N n k x y J s.m s.g s.VS s.ns s.f s.VL s.nl s.b s.VN s.nn i q _ z) (b_n4 V N n k x y _ _ _ _ _ _ _ _ _ _ _) (zaa hd (zaa (qte (by omega)) qaa))
   . rw [qjg hc,qfk,hs];show (N0++(ext s.L[i] (qfb (prL V n) (qsd s.L[i])) S0).1,(ext s.L[i] (qfb (prL V n) (qsd s.L[i])) S0).2)=_;rw [he,hNx]
   . show (3 * uzR V n s.Sn+2 * s.Nx.length) * RrK n+(s.L.length - (i+1)) * (n+3)<(3 * uzR V n s.Sn+2 * s.Nx.length) * RrK n+((s.L.length - (i+1)) * (n+3)+(n - q)+1);omega
end
end
end Go.Proofs.YtbhlngmhgplepaaDoor.Aes
namespace Go.Sim
noncomputable section
theorem qx9 {A:Type} {c:Cfg} {k0:Nat} {C:A->Cut} {Q:A->Prop} {D:SV->List SO->Prop} {f:FuncId} {args:List SV} {H:List SO} (st:Option (Nat × Nat)) (n:Nat) {M:Cut} {js names:List Nat} {K:SV × List (Option SO)->Prop}
  (h:∀ z,∃ ds ps r,zaq js M names (qla (c.at st) n f args H) ds z=(ps,some r)/\(∀ p∈ps,p)/\Sum.rec (motive:=fun _=>Prop) K (zbf k0 C Q M names) r)
  (hD:∀ v es,K (v,es)->∀ H:List SO,js.map (fun j=>H[j]?)=es->D v H):qoj c k0 C Q D f args H :=
 ⟨st,n,qez h (fun v es hk H hH=>hD v es hk H hH) fun V hk s hv=>by
  obtain ⟨a,N,ms,es,hq,e,hn,hT,hE⟩:=(hk:zbf k0 C Q M names V);exact qom a hq names (q2t (N:=N) ms es (by rw [hv]; exact e) hn hT hE)⟩
end
end Go.Sim
namespace Go.Proofs.YtbhlngmhgplepaaDoor.Aes
noncomputable section
open Go.Sim
open Go.Proofs
open Go.Sort
open Go.Bfs
variable {α:Type}
section
variable {V:Nat->Value} {N n k:Nat} {x y:ByteArray}
theorem j4e {x y:ByteArray} (h:(zaH x && zaH y)=true):vlQ x y:=by
 obtain ⟨h1,h2⟩:=q8w h;refine ⟨q3c x y,fun i hi => ?_⟩;rcases (show i=0\/i=1 by omega) with rfl | rfl
 . have:=h1.2.1;show x.size<=_;omega
 . have:=h2.2.1;show y.size<=_;omega
theorem jjj (hV:PrV V n) (hN:n<=N) (hz:n<=1000000) (hr:(zaH x && zaH y)=true):Runs zcF 11 [slP 0 n k,.str (.sym x),.str (.sym y)] [rwV V N,.mem m0Q] (RrD V n x y):=by
 refine q7c zfc (RrC V N n k x y) (RrQ V n x y) (zhM V n) (fun g nm hg=>by cases hg) ?_ fun a ha J => ?_
 . refine qx9 (js:=[]) (K:=fun _=>False) (some (1,7)) 20000 (M:=aM V N n k x y) (names:=zhS) (fun z=>⟨_,_,_,jij V N n k x y z,zaa (j4e hr) (zaa (qrd hr) qaa),?_⟩) (fun v es h=>h.elim);have hu:=jrn V n [x];refine ⟨.a ⟨zgF x m0Q z,true,uV,0,true,zV z,1,false,uV,0,[[x]],[x],[],[x]⟩ 0,6,_,_,⟨⟨Mem.zbo Mem.zcL _ _ _ _ _,fun i hi => ?_,rfl,fun q hq => ?_,.inr ⟨rfl,rfl⟩,.inl ⟨rfl,rfl⟩,fun h=>(by cases h),?_,fun q hq => ?_,fun q hq=>(by cases hq),?_,?_⟩,rfl,rfl,Nat.zero_le _,by simp,rfl,fun o ho=>ho⟩,rfl,zlA V N n k x y _ _ _ _ _ _ _ _ _,fun q hq p u hp hu => ?_,fun e he E0 hE0 => ?_⟩
   . obtain rfl:i=0:=by simp at hi; omega
     refine ⟨m0Q.fresh (z 0 0),1,zec 0 (z 0 1),rfl,Nat.le_refl _,qgk rfl fun i hi => ?_,?_,fun h=>absurd rfl h,fun _=>rfl⟩
     . obtain rfl:i=0:=by simp at hi; omega
       rfl
     . show (if _=_ then _ else _)=_
       rw [if_pos rfl]; rfl
   . rw [List.mem_singleton.1 hq]; simp
   . show 1<=n+2;omega
   . rw [List.mem_singleton.1 hq];show 1+uzR V n [x]<=_;omega
   . show 1+uzR V n [x]<=_;omega
   . show 0+uzR V n [x]<=_;omega
   . obtain rfl:=List.mem_singleton.1 hq;exact q6a (j1e V N n k x y _ _ _ _ _ _ _ _ _ _ 0) hp hu (qab rfl)
   . obtain rfl:=List.mem_singleton.1 he;replace hE0:=(j2e V N n k x y _ _ _ _ _ _ _ _ _ _ _).symm.trans hE0;cases hE0;refine ⟨_,rfl,fun γ vs hv => ?_⟩;obtain ⟨h1,h2⟩:vs.length=1/\∀ (i:Nat) (x:Value),vs[i]? = some x->x=zV z i:=hv;exact ⟨h1,fun j w hw=>by rw [h2 j w hw]; rfl⟩
 . cases a with
   | a s i=>exact rr_a hz J ha
   | b s i=>exact rr_b hz J ha
   | c s i q=>exact rr_c hV hN hz J ha
end
end
end Go.Proofs.YtbhlngmhgplepaaDoor.Aes
namespace Go.Bfs
noncomputable section
theorem Bfs.ends {S:Pth->List Str} {y:Str} {L:List Pth} {seen:List Str} {o:Option Pth} (h:Bfs S y L seen o) {q:Pth} (ho:o=some q):q.getLast? = some y:=by
 induction h with
 | found hf =>
   cases ho;exact zbO.1 (List.find?_some hf)
 | over=>cases ho
 | next _ _ _ ih=>exact ih ho
theorem RB.ends {S:Pth->List Str} {y:Str} {L:List Pth} {seen:List Str} {q:Pth} (h:RB S y L seen (some q)):q.getLast? = some y:=by
 rcases h with ⟨q',h1,h2⟩ | ⟨_,h2⟩
 . cases h2;exact zbO.1 (List.find?_some h1)
 . exact h2.ends rfl
theorem RB.det {S:Pth->List Str} {y:Str} {L:List Pth} {seen:List Str} {o o':Option Pth} (h:RB S y L seen o) (h':RB S y L seen o'):o=o':=by
 rcases h with ⟨q,h1,rfl⟩ | ⟨h1,h2⟩ <;> rcases h' with ⟨q',h3,rfl⟩ | ⟨h3,h4⟩
 . rw [h1] at h3; exact h3
 . rw [h1] at h3; cases h3
 . rw [h1] at h3; cases h3
 . exact h2.det h4
end
end Go.Bfs
namespace Go.Proofs.YtbhlngmhgplepaaDoor.Aes
noncomputable section
open Go.Sim
open Go.Proofs
open Go.Sort
open Go.Bfs
variable {α:Type}
def rbO (T:List Pr) (x y:ByteArray):Option Pth:=@Classical.epsilon _ ⟨none⟩ (RB (zbG T) y [[x]] [x])
def rbQ (T:List Pr) (x y:ByteArray):Pth:=(rbO T x y).getD []
theorem qkl {T:List Pr} {x y:ByteArray} {o:Option Pth} (h:RB (zbG T) y [[x]] [x] o):rbO T x y=o:=(Classical.epsilon_spec (p:=RB (zbG T) y [[x]] [x]) ⟨o,h⟩).det h
theorem qy9 (T:List Pr) (x:ByteArray):RB (zbG T) x [[x]] [x] (some [x]):=.inl ⟨[x],by
 have h:qjd x [x]=true:=zbO.2 rfl;rw [List.find?_cons,h],rfl⟩
theorem jvn {es:List MapEntry} {x y:ByteArray} (h:x≠y) {o:Option Pth} (ho:SrB es x y o):RB (zbG (srL es)) y [[x]] [x] o:=.inr ⟨by
 have hn:qjd y [x]=false:=by
  cases e:qjd y [x] with
  | false=>rfl
  | true =>
    have:=zbO.1 e;simp at this;exact absurd this h
 rw [List.find?_cons,hn]; rfl,ho⟩
theorem qf3 {es:List MapEntry} {x y:ByteArray} (h:x≠y):rbO (srL es) x y=zcy es x y:=qkl (jvn h (qr0 es x y))
theorem qeu (T:List Pr) (x:ByteArray):rbO T x x=some [x]:=qkl (qy9 T x)
theorem j5e {β β':Val} {w x:Value} {a:SV} {n:Int} (h:(SV.tuple [.val w,.int .i64 (.lit n)]).den β=some x) (ha:a.den β'=some w):(SV.tuple [a,.int .i64 (.lit n)]).den β'=some x:=by
 have h1:(SV.zak β [.val w,.int .i64 (.lit n)]).map (fun l=>Value.tuple l.toArray)=some x:=h;show (SV.zak β' [a,.int .i64 (.lit n)]).map (fun l=>Value.tuple l.toArray)=some x;have h2:SV.zak β [.val w,.int .i64 (.lit n)]=SV.zak β' [a,.int .i64 (.lit n)]:=by
  simp only [SV.zak,ha]; rfl
 rw [← h2]; exact h1
theorem jkj {P:Program} {O:Nat->Prop} {w0 w:World} {β:Val} {H2:List SO} {m:Mem} {j:Nat} {u:Value} {x0:ByteArray} {q:Pth} (hj:H2[j]? = some (.mem m)) (hp:LvQ x0 m u q) (hH:zae P O w0 β H2 w) :
  ∃ β' V,β.le β'/\(q≠[x0]->(zeP H2.length q).den β'=some u)/\(q=[x0]->(zfn H2.length).den β'=some u)/\zae P O w0 β' (H2.set j (.mem (m.drop (zaS u).block))++[.own (.raw V q.length) false 9]) w/\∀ i (h:i<q.length),V i=.string q[i]:=by
 obtain ⟨b,cap,cap',rfl,h2,h3,h4,hc,hc'⟩:=hp;obtain ⟨h5,h6⟩:=hH.borrow hj (fun k m' hk=>hH.zbE k j m' m hk hj) h4;have hA:(SA.den (β.upd H2.length ⟨b,0,cap'⟩) ⟨H2.length,.lit 0⟩)=some ⟨b,0,none⟩:=by
  show Option.map _ ((β.upd H2.length ⟨b,0,cap'⟩) H2.length)=_;rw [Val.upd_same]; rfl
 refine ⟨_,_,h6,fun hq => ?_,fun hq => ?_,h5,fun i hi => ?_⟩
 . refine zaf.2 ⟨⟨b,0,none⟩,cap,hA,?_,h2,rfl⟩;show Option.map _ ((β.upd H2.length ⟨b,0,cap'⟩) H2.length)=_;rw [Val.upd_same,hc hq]; rfl
 . refine zaf.2 ⟨⟨b,0,none⟩,1,hA,rfl,Nat.le_refl _,?_⟩;rw [hc' hq,hq]; rfl
 . show zc2 m ⟨b,0,none⟩ i=_;exact qrp h3 hi
def rpwD (T:List Pr) (x y:ByteArray) (v:SV) (H:List SO):Prop:=(v=zb1 .zac 9/\rbO T x y=none)\/∃ nm q W,1<=nm/\rbO T x y=some q/\q.getLast? = some y/\((q=[x]/\v=zb1 (zfn nm) 0)\/(q≠[x]/\v=zb1 (zeP nm q) 0))/\H[nm]? = some (.own (.raw W q.length) false 9)/\∀ i (h:i<q.length),W i=.string q[i]
theorem j1c {t:Pw} (k:Nat) {x y:ByteArray} (ht:t.ok) (hr:(zaH x && zaH y)=true):Runs zcF 11 [slP 0 t.n k,.str (.sym x),.str (.sym y)] [rwV t.V t.N] (rpwD t.list x y):=by
 refine qyo (jjj (k:=k) ht.2.2 ht.1 ht.2.1 hr) (fun n m' h => ?_) fun O w0 w β v H2 u hD hv hH => ?_
 . match n,h with
   | 0,h=>cases h
 . rcases hD with ⟨rfl,h2⟩ | ⟨u',q,m,rfl,h2,h3,h4⟩
   . exact ⟨β,_,H2,.inl ⟨rfl,qkl h2⟩,fun n l h=>h,hv,hH⟩
   . obtain ⟨β',W,h6,h7,h7',h8,h9⟩:=jkj h3 h4 hH;have hlen:1<H2.length:=(List.getElem?_eq_some_iff.1 h3).1;have hW:∀ nm,nm=H2.length->(H2.set 1 (.mem (m.drop (zaS u').block))++[.own (.raw W q.length) false 9])[nm]? = some (.own (.raw W q.length) false 9):=fun nm e=>by
      rw [e,List.getElem?_append_right (by simp)]; simp
     by_cases hq:q=[x]
     . exact ⟨β',zb1 (zfn H2.length) 0,_,.inr ⟨H2.length,q,W,by omega,qkl h2,h2.ends,.inl ⟨hq,rfl⟩,hW _ rfl,h9⟩,h6,j5e hv (h7' hq),h8⟩
     . exact ⟨β',zb1 (zeP H2.length q) 0,_,.inr ⟨H2.length,q,W,by omega,qkl h2,h2.ends,.inr ⟨hq,rfl⟩,hW _ rfl,h9⟩,h6,j5e hv (h7 hq),h8⟩
def rpwR (base:Nat) (t:Pw) (x y:ByteArray):R zaz:=.need t.ok (.fork (zaH x && zaH y)
 (.fork (decide (x=y)) (.ok ⟨zb1 (zfn base) 0,[],[zha [x]]⟩) (.fork (rbO t.list x y).isSome (.ok ⟨zb1 (zeP base (rbQ t.list x y)) 0,[],[zha (rbQ t.list x y)]⟩) (.ok ⟨zb1 .zac 9,[],[]⟩)))
 (.need (x.size<=9223372036854775807/\y.size<=9223372036854775807) (.ok ⟨zb1 .zac 2,[],[]⟩)))
def qv6:zaR:=fun args H base=>qrh args fun v xv yv=>zah (zbH xv) (.stuck 7960) fun x=>zah (zbH yv) (.stuck 7960) fun y=>qso H v fun t _=>rpwR base t x.den y.den
theorem qg3 {g:FuncId->Option zaR} {ma:Option Nat} {f:FuncId} {O:Nat->Prop} {w0 w:World} {β:Val} {H:List SO} {base:Nat} {vs:List Value} (hH:HeapRel0 Tryd.prog O w0 β H w) {v:SV} {t:Pw} {nm:Nat} {rest:List SV} (ha:SV.zak β (v::rest)=some vs)
  (ht:∀ g,∃ e',H[nm]? = some e'/\Taken g t.row e') (hi:∀ β x,v.den β=some x->∃ k,(slP nm t.n k).den β=some x) (hr:∀ f,SV.zbA f rest=rest) (hu:∀ p,SV.za5 p rest=true) {r:zaz} {D:SV->List SO->Prop} (hrun:∀ k,Runs { qyb g with zdM:=ma } f (slP 0 t.n k::rest) [t.row] D)
  (hD:∀ k v H,D v H->(⟨[nm],[t.row],slP 0 t.n k::rest⟩:Ifc).zgB base r v H) :
  qob Tryd.prog H β w base f vs r:=by
 obtain ⟨x,ys,hx,hys,rfl⟩:=zad.1 ha;obtain ⟨k,hx'⟩:=hi _ _ hx;refine q9h (c:={ qyb g with zdM:=ma }) hH ⟨[nm],[t.row],slP 0 t.n k::rest⟩ (by intro g j hg; cases hg) ?_ (Ifc.zbD (by simp) ?_ ⟨⟨(let ⟨e,h1,h2⟩:=ht _; ⟨e,h1,h2.q⟩),(t.zbq _).q⟩,trivial⟩) (qjb (hrun k) fun v H h=>hD k v H h)
 . show SV.zak β ((slP 0 t.n k).ren _::SV.zbA _ rest)=_;rw [qu2,hr]; exact zad.2 ⟨_,_,hx',hys,rfl⟩
 . show ((true && true) && SV.za5 _ rest)=true;rw [hu]; rfl
theorem jlj {t:Pw} (k:Nat) {x y:ByteArray} (hr:(zaH x && zaH y)=false) (hz:x.size<=9223372036854775807/\y.size<=9223372036854775807):Runs zcF 11 [slP 0 t.n k,.str (.sym x),.str (.sym y)] [rwV t.V t.N] fun v _=>v=zb1 .zac 2:=by
 refine qyo (D:=fun v _=>v=zb1 .zac 2) (qld (c:=zcF.at none) (zfc.at none) (q5a (jqn t.V t.N t.n k x y) (zaa ⟨q3c x y,fun j hj => ?_⟩ (zaa (qrd hr) qaa)) fun H2 _=>rfl)) (fun n m' h => ?_) fun O w0 w β v H2 u hD hv hH=>⟨β,v,H2,hD,fun n l h=>h,hv,hH⟩
 . rcases (show j=0\/j=1 by omega) with rfl | rfl
   . exact hz.1
   . exact hz.2
 . match n,h with
   | 0,h=>cases h
theorem j6e:q2a Tryd.prog 11 qv6:=by
 intro glob O w0 β H w base args vs hH hG ha;refine qxd fun v xv yv hv=>qca fun x hx=>qca fun y hy => ?_
 rw [hv,qua hx,qua hy] at ha;have ha:=qja (.refl v) (qja (qhb (t:=.sym x.den) rfl) (qja (qhb (t:=.sym y.den) rfl) qsb)) _ _ ha;generalize x.den=x at ha ⊢;generalize y.den=y at ha ⊢;refine qym fun t nm ht hi=>fun hok=>⟨fun hr => ?_,fun hr=>fun hz => ?_⟩
 . have go:∀ {r:zaz},(∀ k v H,rpwD t.list x y v H->(⟨[nm],[t.row],[slP 0 t.n k,.str (.sym x),.str (.sym y)]⟩:Ifc).zgB base r v H)->qob Tryd.prog H β w base 11 vs r:=fun {r} hD =>
    qg3 (g:=q2b zhU) (ma:=some 1) hH ha ht hi (fun _=>rfl) (fun _=>rfl) (fun k=>j1c k hok hr) hD
   refine ⟨fun hxy=>go fun k v H hD => ?_,fun hxy=>⟨fun hs=>go fun k v H hD => ?_,fun hs=>go fun k v H hD => ?_⟩⟩
   . have hxy:=of_decide_eq_true hxy;subst hxy;rcases hD with ⟨_,h⟩ | ⟨nm',q,W,h0,h1,h2,h3,h4,h5⟩
     . rw [qeu] at h; cases h
     . rw [qeu] at h1;obtain rfl:q=[x]:=(Option.some.inj h1).symm;rcases h3 with ⟨_,rfl⟩ | ⟨h3,_⟩
       . exact ⟨[nm'],fun j hj=>by rw [List.mem_singleton.1 hj]; exact h0,by simp,q9t h0,qau,trivial,⟨.inl ⟨_,_,_,_,h4,trivial,q8t h5,rfl⟩,trivial⟩⟩
       . exact absurd rfl h3
   . have hxy:=of_decide_eq_false hxy;rcases hD with ⟨_,h⟩ | ⟨nm',q,W,h0,h1,h2,h3,h4,h5⟩
     . rw [h] at hs; cases hs
     . rcases h3 with ⟨h3,_⟩ | ⟨_,rfl⟩
       . rw [h3] at h2;simp at h2;exact absurd h2 hxy
       . have hq:rbQ t.list x y=q:=by unfold rbQ; rw [h1]; rfl
         rw [hq];exact ⟨[nm'],fun j hj=>by rw [List.mem_singleton.1 hj]; exact h0,by simp,qa3 h0,qb3,trivial,⟨.inl ⟨_,_,_,_,h4,trivial,q8t h5,rfl⟩,trivial⟩⟩
   . rcases hD with ⟨rfl,_⟩ | ⟨nm',q,W,h0,h1,_⟩
     . exact ⟨[],by simp,by simp,.refl _,rfl,trivial,trivial⟩
     . rw [h1] at hs; cases hs
 . refine qg3 (g:=q2b zhU) (ma:=some 1) hH ha ht hi (fun _=>rfl) (fun _=>rfl) (fun k=>jlj k hr hz) fun k v H h => ?_
   rw [h];exact ⟨[],by simp,by simp,.refl _,rfl,trivial,trivial⟩
end
noncomputable section
open Go.Sim
open Go.Proofs
variable {α:Type}
def rhT (st:Option (Nat × Nat)) (x y:ByteArray):Tree:=qla (zdi.at st) 20000 39 [.str (.sym x),.str (.sym y)] []
section
variable (x y:ByteArray) (bu bd:Bool) (i k:Nat) (J:zaW)
def rhO:Cut:=⟨q0b (qvb (rhT (some (1,3)) x y) [false,true,true]).frames [[(6,upV 0 bu x),(7,upV 1 bd y),(8,.int .i64 (.sym i))]],[.ent (upE bu x),.ent (upE bd y)]⟩
def rhI:Cut:=⟨q0b (qvb (rhT (some (1,7)) x y) [false,true,true,true]).frames [[(6,upV 0 bu x),(7,upV 1 bd y),(8,.int .i64 (.sym i)),(9,.int .i64 (.sym k))]],[.ent (upE bu x),.ent (upE bd y)]⟩
def rhOS (st:Option (Nat × Nat)):Tree:=zaY (zdi.at st) 20000 ((rhO x y bu bd i).fill J)
def zhV (st:Option (Nat × Nat)):Tree:=zaY (zdi.at st) 20000 ((rhI x y bu bd i k).fill J)
variable (m:Int) (V:Nat->Value) (n:Nat) (z:Nat->Nat->Nat)
def rhC:Cut:=⟨q0b (qvb (zhV x y bu bd i k heJ (some (1,12))) [true,false,false]).frames [[(7,upV 1 bd y),(10,.slice ⟨0,.lit 0⟩ (.sym n) (.rest 0 0)),(11,.int .i64 (.sym m))]],[.ent (.own (.raw V (n * 1)) false 9),.ent (upE bd y)]⟩
def rhCS (st:Option (Nat × Nat)):Tree:=zaY (zdi.at st) 20000 ((rhC x y bu bd i k m V n).fill J)
def rhN:List Nat:=[0,1]
def rhM:List Nat:=[3,1]
theorem jwn:zaP [] (rhT none x y) [true]=([(q9d x y).ok/\∀ j,j<2->((q9d x y).at j).size<=9223372036854775807,(!cB (zdF (q9d x y)))=true],some (.tuple [.zac,.int .i64 (.lit 2)],[])):=by kernel_rfl
theorem jmj:zaq [] (rhO x y bu bd 0) [1,2] (rhT (some (1,3)) x y) [false,bu,bd] z=([(q9d x y).ok/\∀ j,j<2->((q9d x y).at j).size<=9223372036854775807,(!cB (zdF (q9d x y)))=false,zbl x,zaQ x=bu,zbl y,zaQ y=bd],some (.inr (qva [(0,8,.int .i64 (.lit 0))] [] (qia [1,2] 3 (rhO x y bu bd 0))))):=by cases bu <;> cases bd <;> kernel_rfl
theorem zjy:zaq [] (rhI x y bu bd i 0) rhN (rhOS x y bu bd i J (some (1,7))) [true] z=([decide ((i:Int)<(Nat.succ (dep x):Nat))=true],some (.inr (qva [(0,9,.int .i64 (.lit 0))] [] (qia rhN 2 (rhI x y bu bd i 0))))):=by cases bu <;> cases bd <;> kernel_rfl
theorem jnj:zaq [] (rhO x y bu bd i) rhN (rhOS x y bu bd i J none) [false] z=([decide ((i:Int)<(Nat.succ (dep x):Nat))=false],some (.inl (.tuple [.zac,.int .i64 (.lit 9)],[]))):=by cases bu <;> cases bd <;> kernel_rfl
def cmC (t:List Prop):List Prop:=(decide ((k:Int)<(Nat.succ (dep y):Nat))=true)::((0:Int)<=(i:Int)/\(i:Int)<(Nat.succ (dep x):Nat))::(0+i * 1<Nat.succ (dep x))::((0:Int)<=(k:Int)/\(k:Int)<(Nat.succ (dep y):Nat))::(0+k * 1<Nat.succ (dep y))::t
theorem joj:zaq [] (rhI x y bu bd i (k+1)) rhN (zhV x y bu bd i k J (some (1,7))) [true,true] z=(cmC x y i k [(!decide (suf x (0+i * 1)=suf y (0+k * 1)))=true,qra ((k:Int)+1)],some (.inr (qia rhN 2 (rhI x y bu bd i (k+1))))):=by cases bu <;> cases bd <;> kernel_rfl
theorem jxn:zaq [] (rhO x y bu bd (i+1)) rhN (zhV x y bu bd i k J (some (1,3))) [false] z=([decide ((k:Int)<(Nat.succ (dep y):Nat))=false,qra ((i:Int)+1)],some (.inr (qia rhN 2 (rhO x y bu bd (i+1))))):=by cases bu <;> cases bd <;> kernel_rfl
theorem j2c:zaq [] (rhC x y bu bd i k ((k:Int) - 1) V (n1 i)) rhM (zhV x y bu bd i k J (some (1,12))) [true,false,false] z=(cmC x y i k [(!decide (suf x (0+i * 1)=suf y (0+k * 1)))=false,qra ((i:Int)+1),0<=(i:Int)+1/\(i:Int)+1<=(Nat.succ (dep x):Nat),0+n1 i<=Nat.succ (dep x),decide (n1 i=0)=false,(n1 i * 16<140737488355328/\n1 i<140737488355328)/\1=1,qra ((k:Int) - 1)],some (.inr (qva [] [(0,.ent (.own (.fn (fun j=>zdg (suf x) (0+j)) (n1 i)) false 9))] (qia rhM 4 (rhC x y bu bd i k ((k:Int) - 1) V (n1 i)))))):=by cases bu <;> cases bd <;> kernel_rfl
def gdC (t:List Prop):List Prop:=(decide (m>=0)=true)::(0<=m/\m<(Nat.succ (dep y):Nat))::(0+m.toNat * 1<Nat.succ (dep y))::(1<=1)::t
theorem zjA:zaq [] (rhC x y bu bd i k (m - 1) (zeL V n (suf y (0+m.toNat * 1))) (n+1)) rhM (rhCS x y bu bd i k J m V n (some (1,12))) [true] z=(gdC y m [0+n * 1<=n * 1,((n+1) * 16<140737488355328/\n+1<140737488355328)/\∀ j,j<1->(atV [Value.string (suf y (0+m.toNat * 1))] (0+j)).oneCell'=true,qra (m - 1)],some (.inr (qia rhM 4 (rhC x y bu bd i k (m - 1) (zeL V n (suf y (0+m.toNat * 1))) (n+1))))):=by cases bu <;> cases bd <;> kernel_rfl
theorem zjB:zaq [0] (rhC x y bu bd i k m V n) rhN (rhCS x y bu bd i k J m V n none) [false] z=([decide (m>=0)=false],some (.inl (.tuple [.slice ⟨0,.lit 0⟩ (.sym n) (.rest 0 0),.int .i64 (.lit 0)],[some (.own (.raw V (n * 1)) false 9)]))):=by cases bu <;> cases bd <;> kernel_rfl
theorem zjx:zab (qna 0 [1,2] (rhO x y bu bd 0) (rhO x y bu bd 0)) (zaG qma (rhO x y bu bd 0).heap) false=true:=by cases bu <;> cases bd <;> kernel_rfl
theorem zjw:zab (qna 0 rhN (rhO x y bu bd i) (rhO x y bu bd i)) (zaG qma (rhO x y bu bd i).heap) false=true:=by cases bu <;> cases bd <;> kernel_rfl
theorem j7e:zab (qna 0 rhN (rhI x y bu bd i k) (rhI x y bu bd i k)) (zaG qma (rhI x y bu bd i k).heap) false=true:=by cases bu <;> cases bd <;> kernel_rfl
theorem j8e:zab (qna 0 rhM (rhC x y bu bd i k m V n) (rhC x y bu bd i k m V n)) (zaG qma (rhC x y bu bd i k m V n).heap) false=true:=by cases bu <;> cases bd <;> kernel_rfl
theorem zju:(((rhO x y bu bd i).frames[0]?).bind fun p=>p.tmps[8]?)=some (some (.int .i64 (.sym i))):=by cases bu <;> cases bd <;> kernel_rfl
theorem zjv:(((rhI x y bu bd i k).frames[0]?).bind fun p=>p.tmps[9]?)=some (some (.int .i64 (.sym k))):=by cases bu <;> cases bd <;> kernel_rfl
theorem zjz:(rhC x y bu bd i k m V n).heap[0]? = some (.ent (.own (.raw V (n * 1)) false 9)):=by cases bu <;> cases bd <;> kernel_rfl
end
def rhD (x y:ByteArray) (v:SV) (H:List SO):Prop :=
 (zbU x y=false/\v=.tuple [.zac,.int .i64 (.lit 9)]) \/
 (zbU x y=true/\∃ V,v=.tuple [.slice ⟨0,.lit 0⟩ (.sym (zbe x y)) (.rest 0 0),.int .i64 (.lit 0)]/\H[0]? = some (.own (.raw V (zbe x y * 1)) false 9)/\∀ j,j<zbe x y->V j=.string (zbT x y j))
inductive RhK where
 | O (i:Nat)
 | I (i k:Nat)
 | C (i k:Nat) (m:Int) (V:Nat->Value) (n:Nat)
def rhK (x y:ByteArray) (bu bd:Bool):RhK->Cut
 | .O i=>rhO x y bu bd i
 | .I i k=>rhI x y bu bd i k
 | .C i k m V n=>rhC x y bu bd i k m V n
def rhQ (x y:ByteArray):RhK->Prop
 | .O i=>i<=dep x+1/\∀ j,j<i->¬ zdH x y j
 | .I i k=>i<=dep x/\(∀ j,j<i->¬ zdH x y j)/\k<=dep y+1/\∀ j,j<k->suf y j≠suf x i
 | .C i k m V n=>i<=dep x/\zdH x y i/\(∀ j,j<i->¬ zdH x y j)/\k=zdz x y i/\∃ t,t<=k/\m=(k:Int) - 1 - t/\n=i+1+t/\∀ j,j<n->V j=.string (zfE x y i k j)
def rhMu (x _y:ByteArray):RhK->Nat
 | .O i=>(dep x+1 - i) * 1000+500
 | .I i k=>(dep x+1 - i) * 1000+400 - k
 | .C _ _ m _ _=>(m+1).toNat
theorem jpj {x y:ByteArray} {i k:Nat} (hk:k<=dep y) (he:suf y k=suf x i) (hm:∀ j,j<k->suf y j≠suf x i):zdz x y i=k:=by
 unfold zdz;rw [List.find?_range_eq_some.2 ⟨zcc.2 he,List.mem_range.2 (by omega),fun j hj=>by rw [q0a (hm j hj)]; rfl⟩]
 rfl
theorem jyn {F:Nat->SV} {V:Nat->Value} {n:Nat} (h:∀ j,j<n->∀ γ,(F j).den γ=some (V j)):(Cells.fn F n).Imp (.raw V (n * 1)):=fun γ vs hv=>by
 obtain ⟨h1,h2⟩:vs.length=n/\∀ (i:Nat) (x:Value),vs[i]? = some x->(F i).den γ=some x:=hv;refine ⟨by omega,fun i x hx => ?_⟩
 have hi:i<vs.length:=(List.getElem?_eq_some_iff.1 hx).1;have:=h2 i x hx;rw [h i (by omega) γ] at this
 exact (Option.some.inj this).symm
theorem jqj {x y:ByteArray} (hx:zbl x) (hy:zbl y):Runs zdi 39 [.str (.sym x),.str (.sym y)] [] (rhD x y):=by
 have hdx:dep x+1<=16:=(qkg 16 x hx hx.2.1).1;have hdy:dep y+1<=16:=(qkg 16 y hy hy.2.1).1;have hxs:=hx.2.1;have hys:=hy.2.1;have hok:(q9d x y).ok/\∀ j,j<2->((q9d x y).at j).size<=9223372036854775807:=⟨qet x y,fun j hj=>by
  rcases (show j=0\/j=1 by omega) with rfl | rfl
  . show x.size<=_; omega
  . show y.size<=_; omega⟩
 have hB:(!cB (zdF (q9d x y)))=false:=by rw [q8a (zds.2 ⟨hx,hy⟩)]; rfl
 refine q7c zeB (rhK x y (zaQ x) (zaQ y)) (rhQ x y) (rhMu x y) (fun g nm hg=>by cases hg) ?_ fun a ha J => ?_
 . refine qgc (some (1,3)) 20000 (RhK.O 0) ⟨Nat.zero_le _,fun j hj=>by omega⟩ (fun z=>jmj x y (zaQ x) (zaQ y) z) (zjx x y _ _) (fun q hq p u hp hu => ?_) (fun e he=>by cases he) (zaa hok (zaa hB (zaa hx (zaa rfl (zaa hy (zaa rfl qaa))))))
   obtain rfl:q=(0,8,.int .i64 (.lit 0)):=by simpa using hq
   exact q6a (zju x y _ _ 0) hp hu (qab rfl)
 cases a with
 | O i =>
   obtain ⟨hi,hno⟩:=ha;show qgb zdi _ (rhK x y (zaQ x) (zaQ y)) _ _ ((rhO x y (zaQ x) (zaQ y) i).fill J);by_cases hin:i<=dep x
   . refine qsc (some (1,7)) 20000 (RhK.I i 0) ⟨⟨hin,hno,Nat.zero_le _,fun j hj=>by omega⟩,by show (dep x+1 - i) * 1000+400 - 0<(dep x+1 - i) * 1000+500; omega⟩ (fun z=>zjy x y _ _ i J z) (j7e x y _ _ i 0) (fun q hq p u hp hu => ?_) (fun e he=>by cases he) (zaa (decide_eq_true (by omega)) qaa)
     obtain rfl:q=(0,9,.int .i64 (.lit 0)):=by simpa using hq
     exact q6a (zjv x y _ _ i 0) hp hu (qab rfl)
   . exact qta none 20000 (fun z=>jnj x y _ _ i J z) (zaa (decide_eq_false (by omega)) qaa) fun H _=>.inl ⟨qn0 fun j hj=>hno j (by omega),rfl⟩
 | I i k =>
   obtain ⟨hin,hno,hk,hne⟩:=ha;show qgb zdi _ (rhK x y (zaQ x) (zaQ y)) _ _ ((rhI x y (zaQ x) (zaQ y) i k).fill J);have h64:qra ((i:Int)+1):=⟨by omega,by omega⟩
   by_cases hkn:k<=dep y
   . have hL:∀ t:List Prop,(∀ p∈t,p)->∀ p∈cmC x y i k t,p:=fun t ht=>zaa (decide_eq_true (by omega)) (zaa ⟨by omega,by omega⟩ (zaa (by omega) (zaa ⟨by omega,by omega⟩ (zaa (by omega) ht))))
     have e1:suf x (0+i * 1)=suf x i:=by rw [Nat.zero_add,Nat.mul_one]
     have e2:suf y (0+k * 1)=suf y k:=by rw [Nat.zero_add,Nat.mul_one]
     by_cases he:suf y k=suf x i
     . have hm:zdH x y i:=⟨k,hkn,he⟩;refine qsc (some (1,12)) 20000 (RhK.C i k ((k:Int) - 1) (zg2 x) (n1 i)) ⟨⟨hin,hm,hno,(jpj hkn he hne).symm,0,Nat.zero_le _,by omega,qtp i,fun j hj => ?_⟩,by show ((k:Int) - 1+1).toNat<(dep x+1 - i) * 1000+400 - k; omega⟩ (fun z=>j2c x y _ _ i k J _ z) (j8e x y _ _ i k _ _ _) (fun q hq=>by cases hq) (fun e he E0 hE0 => ?_) (hL _ ?_)
       . rw [qtp] at hj;unfold zfE;rw [if_pos (by omega)]; rfl
       . obtain rfl:e=(0,.ent (.own (.fn (fun j=>zdg (suf x) (0+j)) (n1 i)) false 9)):=by simpa using he
         have hE0:(rhC x y (zaQ x) (zaQ y) i k ((k:Int) - 1) (zg2 x) (n1 i)).heap[0]? = some E0:=hE0;rw [zjz] at hE0;cases hE0;exact ⟨_,rfl,jyn fun j _ γ=>by rw [Nat.zero_add]; rfl⟩
       . rw [e1,e2,qtp];exact zaa (zh7 he.symm) (zaa h64 (zaa ⟨by omega,by omega⟩ (zaa (by omega) (zaa (decide_eq_false (by omega)) (zaa ⟨⟨by omega,by omega⟩,rfl⟩ (zaa ⟨by omega,by omega⟩ qaa))))))
     . refine qya (some (1,7)) 20000 (RhK.I i (k+1)) ⟨⟨hin,hno,by omega,fun j hj => ?_⟩,by show (dep x+1 - i) * 1000+400 - (k+1)<(dep x+1 - i) * 1000+400 - k; omega⟩ (fun z=>joj x y _ _ i k J z) (j7e x y _ _ i (k+1)) (hL _ ?_)
       . by_cases c:j<k
         . exact hne j c
         . obtain rfl:j=k:=by omega
           exact he
       . rw [e1,e2];exact zaa (zhe fun h=>he h.symm) (zaa ⟨by omega,by omega⟩ qaa)
   . refine qya (some (1,3)) 20000 (RhK.O (i+1)) ⟨⟨by omega,fun j hj => ?_⟩,by show (dep x+1 - (i+1)) * 1000+500<(dep x+1 - i) * 1000+400 - k; omega⟩ (fun z=>jxn x y _ _ i k J z) (zjw x y _ _ (i+1)) (zaa (decide_eq_false (by omega)) (zaa h64 qaa))
     by_cases c:j<i
     . exact hno j c
     . obtain rfl:j=i:=by omega
       rintro ⟨q,hq,he⟩;exact hne q (by omega) he
 | C i k m V n =>
   obtain ⟨hin,hm,hno,hkk,t,ht2,hmt,hn,hV⟩:=ha;obtain ⟨hc1,hc2⟩:=q5q hin hm hno;have hk:=(qzi hm).1;have hck:cK x y=k:=by unfold cK; rw [hc2,hkk]
   show qgb zdi _ (rhK x y (zaQ x) (zaQ y)) _ _ ((rhC x y (zaQ x) (zaQ y) i k m V n).fill J);by_cases hz:t=k
   . have hnn:zbe x y=n:=by unfold zbe; rw [hck,hc2,hn,hz]
     refine qta none 20000 (fun z=>zjB x y _ _ i k J m V n z) (zaa (decide_eq_false (by omega)) qaa) fun H hH=>.inr ⟨hc1,V,?_,?_,?_⟩
     . rw [hnn]
     . rw [hnn];exact (List.cons.inj (show [H[0]?]=[some (.own (.raw V (n * 1)) false 9)] from hH)).1
     . intro j hj;rw [hnn] at hj;rw [hV j hj];unfold zbT;rw [hck,hc2]
   . refine qya (some (1,12)) 20000 (RhK.C i k (m - 1) (zeL V n (suf y (0+m.toNat * 1))) (n+1)) ⟨⟨hin,hm,hno,hkk,t+1,by omega,by omega,by omega,fun j hj => ?_⟩,by show (m - 1+1).toNat<(m+1).toNat; omega⟩ (fun z=>zjA x y _ _ i k J m V n z) (j8e x y _ _ i k _ _ _) ?_
     . by_cases c:j<n
       . rw [q6q c]; exact hV j c
       . obtain rfl:j=n:=by omega
         rw [q7q];unfold zfE;rw [if_neg (by omega),show 0+m.toNat * 1=k - (j - i) by omega]
     . exact zaa (decide_eq_true (by omega)) (zaa ⟨by omega,by omega⟩ (zaa (by omega) (zaa (Nat.le_refl 1) (zaa (by omega) (zaa ⟨⟨by omega,by omega⟩,fun j hj=>by obtain rfl:j=0:=(by omega); rfl⟩ (zaa ⟨by omega,by omega⟩ qaa))))))
def rhiR (base:Nat) (x y:ByteArray):R zaz :=
 .fork (zaH x && zaH y) (.fork (zbU x y) (.ok ⟨zb1 (h1V base x y) 0,[],[h1E x y]⟩) (.ok ⟨zb1 .zac 9,[],[]⟩)) (.need (x.size<=9223372036854775807/\y.size<=9223372036854775807) (.ok ⟨zb1 .zac 2,[],[]⟩))
def j9e:zaR:=fun args _ base=>qke args fun v w=>zah (zbH v) (.stuck 7825) fun x=>zah (zbH w) (.stuck 7825) fun y=>rhiR base x.den y.den
theorem zjt:q2a Tryd.prog 39 j9e:=by
 intro glob O w0 β H w base args vs hH hG ha;refine qvc fun v w' hv=>qca fun x hx=>qca fun y hy => ?_
 rw [hv,qua hx,qua hy] at ha;have ha:=qja (qhb (t:=.sym x.den) rfl) (qja (qhb (t:=.sym y.den) rfl) qsb) _ _ ha;generalize x.den=x at ha ⊢;generalize y.den=y at ha ⊢
 let I:Ifc:=⟨[],[],[.str (.sym x),.str (.sym y)]⟩
 have hF:I.zbS H:=(qfd rfl).q;refine ⟨fun hv => ?_,fun hv=>fun hz => ?_⟩
 . obtain ⟨h1,h2⟩:=q8w hv;have hr:=jqj h1 h2;refine ⟨fun hc => ?_,fun hc => ?_⟩
   . refine qzb (c:=zdi) hH I (by intro g j hg; cases hg) ha hF [0] (by simp [I]) (by simp) (qjb hr fun v H h => ?_)
     rcases h with ⟨h,_⟩ | ⟨_,V,rfl,h,hV⟩
     . rw [hc] at h; cases h
     . exact ⟨.refl _,rfl,trivial,⟨.inl ⟨_,_,_,_,h,trivial,q92 hV,rfl⟩,trivial⟩⟩
   . refine qzb (c:=zdi) hH I (by intro g j hg; cases hg) ha hF [] (by simp [I]) (by simp) (qjb hr fun v H h => ?_)
     rcases h with ⟨_,rfl⟩ | ⟨h,_⟩
     . exact ⟨.refl _,rfl,trivial,trivial⟩
     . rw [hc] at h; cases h
 . refine qmb (zeB.at none) 20000 hH I (by intro g j hg; cases hg) ha hF [] (by simp [I]) (by simp) (q5a (jwn x y) (zaa ⟨qet x y,fun j hj => ?_⟩ (zaa ?_ qaa)) fun H2 _=>⟨.refl _,rfl,trivial,trivial⟩)
   . rcases (show j=0\/j=1 by omega) with rfl | rfl
     . exact hz.1
     . exact hz.2
   . rw [q0a fun h=>qo0 hv (zds.1 h)]; rfl
end
end Go.Proofs.YtbhlngmhgplepaaDoor.Aes
