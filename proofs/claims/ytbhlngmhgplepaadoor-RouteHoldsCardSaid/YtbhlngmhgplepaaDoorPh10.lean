/-
  zcS behind one another: the symbolic simulator and what it is told of the program.
-/
import Derived.Test.YtbhlngmhgplepaaDoorPh9
set_option maxRecDepth 1000000
namespace Go.Proofs.YtbhlngmhgplepaaDoor.Aes
noncomputable section
open Go.Sim
open Go.Proofs
open Go.Sort
open Go.Bfs
variable {α:Type}
theorem qmj (es:List MapEntry):(srL es).length=es.length:=by
 unfold srL;rw [zbq.length_eq]; simp [q5c]
theorem jyb {l:List Pr} {i:Nat} (h:i<l.length):prN l i=l[i]:=by
 unfold prN; rw [List.getElem?_eq_getElem h]; rfl
theorem j2g {es:List MapEntry} {i:Nat} (h:i<(srL es).length):(tgA es i,tgB es i)=(srL es)[i]:=by
 unfold tgA tgB cF;have e1:(0+i * 2+0) / 2=i:=by omega
 have e2:(0+i * 2+1) / 2=i:=by omega
 have e3:(0+i * 2+0) % 2=0:=by omega
 have e4:(0+i * 2+1) % 2=1:=by omega
 rw [e1,e2,e3,e4,jyb h];rfl
def zbZ (T:List Pr) (q:Pth):List Str:=q3a T (q.getLast?.getD ⟨#[]⟩)
theorem j3g {T:List Pr} {q:Pth} (h:q≠[]):zbZ T q=q3a T (q.getLast h):=by
 unfold zbZ;rw [List.getLast?_eq_some_getLast h]; rfl
theorem qgt {T:List Pr} {q:Pth} {b:Str} (h:b∈zbZ T q):b∈T.map (·.2):=List.mem_map.2 ⟨_,zb1.1 h,rfl⟩
structure zcl (es:List MapEntry) (l:List Str):Prop where
 has:∀ a,za5 es (.string a)=true↔a∈l
 get:∀ a,a∈l->zbM es (.string a)=.bool true
theorem zcl.one (x:Str):zcl [⟨.string x,.bool true,0⟩] [x]:=by
 refine ⟨fun a => ?_,fun a ha => ?_⟩
 . rw [Tb.zbd]; simp [eq_comm]
 . obtain rfl:=List.mem_singleton.1 ha;rw [Tb.zaS]; simp
theorem zcl.add {es:List MapEntry} {l:List Str} (h:zcl es l) {s:Str} (hs:s ∉ l) (c:Nat):zcl (zcI es c (.string s) (.bool true)) (l++[s]):=by
 have hk:za5 es (.string s)=false:=by
  cases e:za5 es (.string s) with
  | false=>rfl
  | true=>exact absurd ((h.has s).1 e) hs
 refine ⟨fun a => ?_,fun a ha => ?_⟩
 . rw [Tb.zdx,h.has a];simp
 . by_cases e:a=s
   . subst e; exact Tb.zcQ hk
   . rw [Tb.zb3 (qoz e)];refine h.get a ?_
     rcases List.mem_append.1 ha with ha | ha
     . exact ha
     . exact absurd (List.mem_singleton.1 ha) e
theorem zcl.not {es:List MapEntry} {l:List Str} (h:zcl es l) {s:Str} (hs:s ∉ l):za5 es (.string s)=false:=by
 cases e:za5 es (.string s) with
 | false=>rfl
 | true=>exact absurd ((h.has s).1 e) hs
def zfn (m:Mem) (b:Bool) (V:Nat->Value) (n:Nat) (L:List Pth):Prop:=(b=true/\n=L.length/\L≠[]/\zbw zbn m V L)\/(b=false/\L=[])
theorem zfn.add {m:Mem} {b:Bool} {V:Nat->Value} {n:Nat} {L:List Pth} (h:zfn m b V n L) {b' k cap:Nat} {el:TypeId} {W:Nat->Value} (hf:m.free b'):zfn (m.add b' k cap el W) b V n L:=h.imp (fun ⟨h1,h2,h3,h4⟩=>⟨h1,h2,h3,h4.zee hf⟩) id
structure BA where
 es2:List MapEntry
 c2:Nat
 m:Mem
 es3:List MapEntry
 c3:Nat
 f:Bool
 VL:Nat->Value
 n:Nat
 p:Nat
 b:Bool
 VN:Nat->Value
 nn:Nat
 L:List Pth
 zbT:List Str
 Nx:List Pth
 Sn:List Str
structure CA where
 pv:Value
 sv:Value
 j:Nat
 lb:Bool
 Vl:Nat->Value
 nl:Nat
 l:List Pth
 R:List Str
inductive Sr
 | t (es2:List MapEntry) (c2:Nat) (m2:Mem) (i:Nat)
 | b (a:BA)
 | c (a:BA) (q:CA)
 | d (a:BA) (k:Nat) (Vl:Nat->Value) (nl:Nat) (l:List Pth)
section
variable (es:List MapEntry) (c:Nat) (x y:ByteArray)
def SrC:Sr->Cut
 | .t es2 c2 m2 i=>tgC es c x y m0Q es2 c2 m2 i
 | .b a=>bX es c x y a.es2 a.c2 a.m a.es3 a.c3 a.f a.VL a.n a.p a.b a.VN a.nn
 | .c a q=>cX es c x y a.es2 a.c2 a.m a.es3 a.c3 a.f a.VL a.n a.p a.b a.VN a.nn q.pv q.sv q.j q.lb q.Vl q.nl
 | .d a k Vl nl _=>dX es c x y a.es2 a.c2 a.m a.es3 a.c3 a.f a.VL a.n a.p a.b a.VN a.nn k Vl nl
def SrB (o:Option Pth):Prop:=Bfs (zbZ (srL es)) y [[x]] [x] o
def unQ (Sn:List Str):Nat:=un ((srL es).map (·.2)) Sn
structure BInv (a:BA):Prop where
 tab:TabAt a.m a.es2 (srL es)
 bd:a.m.bounded
 lv:zbw zaA a.m a.VL a.L
 lvn:lvM ⟨a.f,a.VL,a.n⟩=a.L.length
 ne:∀ q∈a.L,q≠[]
 nx:zfn a.m a.b a.VN a.nn a.Nx
 seen:zcl a.es3 a.Sn
 fin:∀ o,Bfs (zbZ (srL es)) y a.L a.zbT o->SrB es x y o
 zdO:a.Nx.find? (qkf y)=none
 szC:a.L.length<=es.length+2
 szL:∀ q∈a.L,q.length+unQ es a.Sn<=es.length+2
 szN:∀ q∈a.Nx,q≠[]/\q.length+unQ es a.Sn<=es.length+2
def SrQ:Sr->Prop
 | .t es2 _ m2 i=>i<=es.length/\TabAt m2 es2 ((srL es).take i)/\m2.bounded
 | .b a=>BInv es x y a/\a.p<=a.L.length/\Go.Bfs.step (zbZ (srL es)) (a.L.take a.p) a.zbT=(a.Nx,a.Sn)/\a.Nx.length+unQ es a.Sn<=es.length+2
 | .c a q=>BInv es x y a/\∃ (h:a.p<a.L.length) (S0:List Str),Go.Bfs.step (zbZ (srL es)) (a.L.take a.p) a.zbT=(a.Nx,S0)/\ext a.L[a.p] (q.R.take q.j) S0=(q.l,a.Sn)/\q.R=zbZ (srL es) a.L[a.p]/\zaA a.m q.pv a.L[a.p]/\zaA a.m q.sv q.R/\q.j<=q.R.length /\
   zfn a.m q.lb q.Vl q.nl q.l/\a.Nx.length+q.l.length+unQ es a.Sn<=es.length+2/\∀ r∈q.l,r≠[]/\r.length+unQ es a.Sn<=es.length+2
 | .d a k Vl nl l=>BInv es x y a/\∃ (h:a.p<a.L.length) (N0:List Pth) (S0:List Str),Go.Bfs.step (zbZ (srL es)) (a.L.take a.p) a.zbT=(N0,S0)/\ext a.L[a.p] (zbZ (srL es) a.L[a.p]) S0=(l,a.Sn)/\a.Nx=N0++l.take k/\k<=l.length /\
   zbw zbn a.m Vl l/\nl=l.length/\N0.length+l.length+unQ es a.Sn<=es.length+2/\∀ r∈l,r≠[]/\r.length+unQ es a.Sn<=es.length+2
def SrD (v:SV) (H:List SO):Prop:=H[1]? = some (.obj (.zaU kPr vBo es c))/\((v=.zad/\SrB es x y none)\/∃ w q m,v=.val w/\SrB es x y (some q)/\H[2]? = some (.mem m)/\zbn m w q/\q.length<=es.length+2)
def SrK:Nat:=2 * es.length+10
def SrW:Nat:=(3 * es.length+20) * SrK es
def zfm:Sr->Nat
 | .t _ _ _ i=>SrW es+(es.length - i)
 | .b a=>(3 * unQ es a.Sn+2 * a.Nx.length+(a.L.length - a.p)) * SrK es+(2 * es.length+9)
 | .c a q=>(3 * unQ es a.Sn+2 * (a.Nx.length+q.l.length)+(a.L.length - a.p)) * SrK es+(q.R.length - q.j+es.length+3)
 | .d a k _ _ l=>(3 * unQ es a.Sn+2 * (a.Nx.length - k+l.length)+(a.L.length - a.p)) * SrK es+(l.length - k)
end
theorem qs8 {es:List MapEntry} {Sn:List Str} {s:Str} (hs:s ∉ Sn) (hm:s∈(srL es).map (·.2)):unQ es (Sn++[s])<unQ es Sn:=jzd hm hs
theorem qpz (es:List MapEntry) (Sn:List Str):unQ es Sn<=es.length:=by
 have:=jyd ((srL es).map (·.2)) Sn
 rw [List.length_map,qmj] at this;exact this
theorem qi2 (es:List MapEntry) (q:Pth):(zbZ (srL es) q).length<=es.length:=by
 have:=qyu (srL es) (q.getLast?.getD ⟨#[]⟩);rw [qmj] at this;exact this
theorem jik {m:Mem} {pv:Value} {Vl:Nat->Value} {nl:Nat} {z:Nat->Nat->Nat} {i:Nat} (h:i<nl):xW m pv Vl nl z i=Vl i:=by
 unfold xW xC zfA;rw [if_pos (by omega)]
 show Vl (0+i)=_;rw [Nat.zero_add]
theorem jjk {m:Mem} {pv:Value} {Vl:Nat->Value} {nl:Nat} {z:Nat->Nat->Nat}:xW m pv Vl nl z nl=xV m pv z:=by
 unfold xW xC zfA;rw [if_neg (by omega),Nat.mul_one,Nat.sub_self]; rfl
theorem zhX {m:Mem} {pv:Value} {Vl:Nat->Value} {nl:Nat} {z:Nat->Nat->Nat} {j:Nat} (h:j<(nl+1) * 1):okS (xZ m pv z) (xC pv Vl nl j)=true:=by
 unfold xC zfA;by_cases hj:j<nl * 1
 . rw [if_pos hj]; rfl
 . rw [if_neg hj];have:j=nl:=by omega
   subst this;rw [Nat.mul_one,Nat.sub_self]; rfl
theorem jkk {VN:Nat->Value} {nn j:Nat} {Vl:Nat->Value} {i:Nat} (h:i<nn):dWq VN nn j Vl i=VN i:=by
 unfold dWq zc5;rw [if_pos (by omega)]
 show VN (0+i)=_;rw [Nat.zero_add]
theorem jlk {VN:Nat->Value} {nn j:Nat} {Vl:Nat->Value}:dWq VN nn j Vl nn=dVq j Vl:=by
 unfold dWq zc5;rw [if_neg (by omega),Nat.mul_one,Nat.sub_self]; rfl
theorem zkr {j:Nat} {Vl:Nat->Value}:dVq j Vl=Vl j:=by unfold dVq; rw [Nat.mul_one,Nat.zero_add]
end
noncomputable section
open Go.Sim
open Go.Proofs
open Go.Sort
open Go.Bfs
variable {α:Type}
section
variable {es:List MapEntry} {c:Nat} {x y:ByteArray}
abbrev SrT (es:List MapEntry) (c:Nat) (x y:ByteArray) (a:Sr) (J:zaQ):Prop:=qlb zcc 3 (SrC es c x y) (fun a'=>SrQ es x y a'/\zfm es a'<zfm es a) (SrD es c x y) ((SrC es c x y a).fill J)
theorem qj2 {a:Sr} {M:Cut} {names:List Nat} {N:Nat} {a':Sr} (hq:SrQ es x y a') (hm:zfm es a'<zfm es a) (hn:zab (qua 3 names M (SrC es c x y a')) (zaO qpa (SrC es c x y a').heap) false=true) :
  zbt 3 (SrC es c x y) (fun a'=>SrQ es x y a'/\zfm es a'<zfm es a) M names (qja names N (SrC es c x y a')):=zbt.of (C:=SrC es c x y) a' ⟨hq,hm⟩ hn
theorem qqz {es2:List MapEntry} {c2:Nat} {m2:Mem} {i:Nat} {zhL:List MapEntry} {c2':Nat} {m2':Mem} (h:i<es.length):zfm es (.t zhL c2' m2' (i+1))<zfm es (.t es2 c2 m2 i):=by
 show SrW es+(es.length - (i+1))<SrW es+(es.length - i);omega
theorem qwg {i:Nat} (h:i<=1000000000):qna ((i:Int)+1):=⟨by omega,by omega⟩
theorem sr_t {es2:List MapEntry} {c2:Nat} {m2:Mem} {i:Nat} (hz:es.length<=1000000) (J:zaQ) (h:SrQ es x y (.t es2 c2 m2 i)):SrT es c x y (.t es2 c2 m2 i) J:=by
 obtain ⟨hi,ht,hb⟩:i<=es.length/\TabAt m2 es2 ((srL es).take i)/\m2.bounded:=h;show qlb zcc 3 (SrC es c x y) _ _ ((tgC es c x y m0Q es2 c2 m2 i).fill J);by_cases hc:i<es.length
 . have hl:i<(srL es).length:=by rw [qmj]; exact hc
   have hT:(srL es).take (i+1)=(srL es).take i++[(tgA es i,tgB es i)]:=by
    rw [j2g hl,List.take_add_one,List.getElem?_eq_getElem hl]; rfl
   have hP:∀ {q:List Prop},(∀ p∈q,p)->∀ p∈tgP es i q,p:=fun hq=>zaa (decide_eq_true (by omega)) (zaa ⟨by omega,by omega⟩ (zaa (by omega) hq))
   have hR:∀ p∈tgR i,p:=zaa (qwg (by omega)) qaa
   cases hk:za5 es2 (.string (tgA es i)) with
   | false =>
     refine qyf (js:=[]) (K:=fun _=>False) (some (2,2)) 20000 (M:=tgC es c x y m0Q es2 c2 m2 i) (names:=tg9) (fun z=>⟨_,_,_,jvb es c x y m0Q es2 c2 m2 i J z,hP (zaa hk (zaa hk hR)),?_⟩) (fun v es h=>h.elim);refine qj2 (c:=c) (a':=.t (zcI es2 c2 (.string (tgA es i)) (tgW2 m2 z)) (c2+1) (tgM2 es m2 i z) (i+1)) ⟨hc,?_,Mem.zbN hb _ _ _ _ _⟩ (qqz hc) (qpm es c x y m0Q es2 c2 m2 i _ _ _ _);rw [hT];exact ht.ins hk (Mem.zca hb _) (qft _ _)
   | true =>
     have ho:=ht.own _ ((ht.has _).1 hk);have hs:=ho.strs;have hv:tgV es es2 i=zbM es2 (.string (tgA es i)):=rfl;rw [← hv] at ho hs;have hlen:=hs.len;have hle:zaL (tgV es es2 i)<=1000000:=by
      rw [hlen];have h1:=qyu ((srL es).take i) (tgA es i);have h2:=List.length_take_le i (srL es);omega
     by_cases hcap:zaL (tgV es es2 i)+1<=zbY (tgV es es2 i)
     . refine q1a (some (2,2)) 20000 (names:=tg9) (Sr.t (zdL es2 (.string (tgA es i)) (tgW0 es es2 i)) c2 (tgM0 es es2 m2 i) (i+1)) ⟨⟨hc,?_,qc1 hb _ _ _ _⟩,qqz hc⟩ (fun z=>jtb es c x y m0Q es2 c2 m2 i J z) (qpm es c x y m0Q es2 c2 m2 i _ _ _ _)
        (hP (zaa hk (zaa hs.sl (zaa (Nat.le_refl 1) (zaa hs.slc (zaa (decide_eq_true hcap) (zaa ⟨?_,?_,?_⟩ (zaa hk hR))))))))
       . rw [hT];exact ht.put hk hv hcap
       . obtain ⟨b,cap,k,cap',e,_,_,h4,h5⟩:=ho;rw [e];exact ⟨k,cap',h4,h5⟩
       . obtain ⟨b,cap,k,cap',e,_,_,h4,h5⟩:=ho;rw [e]; rfl
       . intro j hj;obtain rfl:j=0:=by omega
         rfl
     . refine qyf (js:=[]) (K:=fun _=>False) (some (2,2)) 20000 (M:=tgC es c x y m0Q es2 c2 m2 i) (names:=tg9) (fun z=>⟨_,_,_,jub es c x y m0Q es2 c2 m2 i J z,hP (zaa hk (zaa hs.sl (zaa (Nat.le_refl 1) (zaa hs.slc (zaa (decide_eq_false hcap) (zaa ⟨hs.sl,?_,?_⟩ (zaa ⟨by omega,by omega⟩ (zaa hk hR)))))))),?_⟩) (fun v es h=>h.elim)
       . obtain ⟨b,cap,k,cap',e,_,_,h4,h5⟩:=ho;rw [e];exact fun h=>by cases h
       . obtain ⟨b,cap,k,cap',e,h2,h3,h4,h5⟩:=ho;intro j hj;rw [hlen] at hj;rw [e];show (m2.cell ((⟨b,0,none⟩:Addr).add j)).isSome=true;rw [qeg,h3 j (by omega)]; rfl
       . refine qj2 (c:=c) (a':=.t (zdL es2 (.string (tgA es i)) (tgW1 es es2 m2 i z)) c2 (tgM1 es es2 m2 i z) (i+1)) ⟨hc,?_,Mem.zbN hb _ _ _ _ _⟩ (qqz hc) (qpm es c x y m0Q es2 c2 m2 i _ _ _ _);rw [hT];exact ht.grow hk (Mem.zca hb _) hv (qft _ _)
 . have hT:(srL es).take i=srL es:=List.take_of_length_le (by rw [qmj]; omega)
   rw [hT] at ht;refine qyf (js:=[]) (K:=fun _=>False) (some (1,8)) 20000 (M:=bM es c x y es2 c2 true false) (names:=tgN) (fun z=>⟨_,_,_,j1g es c x y m0Q es2 c2 m2 i J z,zaa (decide_eq_false (by omega)) qaa,?_⟩) (fun v es h=>h.elim)
   have hf:=Mem.zca hb (z 0 0);refine ⟨.b ⟨es2,c2,zhm x m2 z,[⟨.string x,.bool true,0⟩],1,true,atV [.slice (some ⟨m2.fresh (z 0 0),0,none⟩) 1 1],1,0,false,fun _=>undef,0,[[x]],[x],[],[x]⟩,13,[(0,44,.int .i64 (.lit 0))],[(5,.ent (.obj (.map [(.str (.sym x),.bool (.lit true),0)] 1)))],⟨⟨?_,Nat.zero_le _,rfl,?_⟩,?_⟩,rfl,zkD es c x y _ _ _ _ _ _ _ _ _ _ _ _,fun q hq p u hp hu => ?_,fun e he E0 hE0 => ?_⟩
   . refine ⟨ht.add hf,Mem.zbN hb _ _ _ _ _,fun i hi => ?_,rfl,fun q hq => ?_,.inr ⟨rfl,rfl⟩,zcl.one x,fun o h=>h,rfl,?_,fun q hq => ?_,fun q hq=>(by cases hq)⟩
     . obtain rfl:i=0:=by simp at hi; omega
       refine ⟨m2.fresh (z 0 0),1,rfl,Nat.le_refl _,qho rfl fun i hi => ?_⟩;obtain rfl:i=0:=by simp at hi; omega
       rfl
     . obtain rfl:=List.mem_singleton.1 hq;simp
     . show 1<=es.length+2;omega
     . obtain rfl:=List.mem_singleton.1 hq;have:=qpz es [x];show 1+unQ es [x]<=_;omega
   . have:=qpz es [x];show 0+unQ es [x]<=_;omega
   . show (3 * unQ es [x]+2 * 0+(1 - 0)) * SrK es+(2 * es.length+9)<SrW es+(es.length - i);have:=qpz es [x];have h1:(3 * unQ es [x]+2 * 0+(1 - 0)) * SrK es<=(3 * es.length+10) * SrK es:=Nat.mul_le_mul_right _ (by omega)
     have h2:SrW es=(3 * es.length+10) * SrK es+10 * SrK es:=by unfold SrW; rw [← Nat.add_mul]
     have h3:SrK es=2 * es.length+10:=rfl;omega
   . obtain rfl:=List.mem_singleton.1 hq;exact q2a (j2d es c x y _ _ _ _ _ _ _ _ 0 _ _ _) hp hu (q6a rfl)
   . obtain rfl:=List.mem_singleton.1 he;have h1:=zkF es c x y es2 c2 (zhm x m2 z) [⟨.string x,.bool true,0⟩] 1 true (atV [.slice (some ⟨m2.fresh (z 0 0),0,none⟩) 1 1]) 1 0 false (fun _=>undef) 0;have hE0:(bX es c x y es2 c2 (zhm x m2 z) [⟨.string x,.bool true,0⟩] 1 true (atV [.slice (some ⟨m2.fresh (z 0 0),0,none⟩) 1 1]) 1 0 false (fun _=>undef) 0).heap[5]? = some E0:=hE0;rw [h1] at hE0;cases hE0;refine ⟨_,rfl,fun γ X hX => ?_⟩;have hX:some (Obj.map #[⟨.string x,.bool true,0⟩] 1)=some X:=hX;cases hX;refine zaW.za2.2 ⟨fun e he => ?_,rfl⟩;obtain rfl:=List.mem_singleton.1 he;exact ⟨zgv x,fun _=>rfl⟩
theorem qjo {A B K s t:Nat} (h:A<B) (hs:s<K):A * K+s<B * K+t:=by
 have:=Nat.mul_le_mul_right K (show A+1<=B from h)
 rw [Nat.add_mul,Nat.one_mul] at this;omega
theorem q6j {L:List Pth} {p:Nat} (h:p<L.length):L.take (p+1)=L.take p++[L[p]]:=by
 rw [List.take_add_one,List.getElem?_eq_getElem h]; rfl
section
variable {a:BA} (hI:BInv es x y a)
include hI
theorem BInv.pth (hc:a.p<a.L.length):zaA a.m (a.VL a.p) a.L[a.p]/\a.L[a.p]≠[]/\a.L[a.p].length<=es.length+2:=by
 have:=hI.szL _ (List.getElem_mem hc);exact ⟨hI.lv _ hc,hI.ne _ (List.getElem_mem hc),by omega⟩
theorem BInv.zf9:bV (bst a.m a.es3 a.c3 a.f a.VL a.n a.p a.b a.VN a.nn)=a.VL a.p:=by
 have _h:=hI;show a.VL (0+a.p * 1)=_;rw [Nat.mul_one,Nat.zero_add]
theorem BInv.zkG (hc:a.p<a.L.length):bL (bst a.m a.es3 a.c3 a.f a.VL a.n a.p a.b a.VN a.nn)=a.L[a.p].getLast (hI.pth hc).2.1:=by
 unfold bL;rw [hI.zf9];exact (hI.pth hc).1.zd9 (hI.pth hc).2.1
theorem BInv.zfC (hz:es.length<=1000000) (hc:a.p<a.L.length) {q:List Prop} (hq:∀ p∈q,p):∀ p∈bG (bst a.m a.es3 a.c3 a.f a.VL a.n a.p a.b a.VN a.nn) q,p:=by
 obtain ⟨h1,h2,h3⟩:=hI.pth hc;have hl:=hI.lvn;unfold bG;rw [hI.zf9];refine zaa (decide_eq_true ?_) (zaa ⟨?_,?_⟩ (zaa ?_ (h1.zdo h2 (by omega) hq)))
 all_goals (try show _<lvM ⟨a.f,a.VL,a.n⟩)
 all_goals (try show ((a.p:Nat):Int)<((lvM ⟨a.f,a.VL,a.n⟩:Nat):Int))
 . rw [hl]; omega
 . show (0:Int)<=(a.p:Int); omega
 . rw [hl]; omega
 . show 0+a.p * 1<lvM ⟨a.f,a.VL,a.n⟩;rw [hl]; omega
end
theorem sr_b {a:BA} (hz:es.length<=1000000) (J:zaQ) (h:SrQ es x y (.b a)):SrT es c x y (.b a) J:=by
 obtain ⟨hI,hp,hs,hN⟩:BInv es x y a/\a.p<=a.L.length/\Go.Bfs.step (zbZ (srL es)) (a.L.take a.p) a.zbT=(a.Nx,a.Sn)/\a.Nx.length+unQ es a.Sn<=es.length+2:=h;have hM:=hI.szC;show qlb zcc 3 (SrC es c x y) _ _ ((bCQ es c x y a.es2 a.c2 (bst a.m a.es3 a.c3 a.f a.VL a.n a.p a.b a.VN a.nn)).fill J);by_cases hc:a.p<a.L.length
 . obtain ⟨h1,h2,h3⟩:=hI.pth hc;have hS:zbZ (srL es) a.L[a.p]=q3a (srL es) (bL (bst a.m a.es3 a.c3 a.f a.VL a.n a.p a.b a.VN a.nn)):=by rw [hI.zkG hc,j3g h2]
   cases hk:za5 a.es2 (.string (bL (bst a.m a.es3 a.c3 a.f a.VL a.n a.p a.b a.VN a.nn))) with
   | false =>
     have he:zbZ (srL es) a.L[a.p]=[]:=by
      rw [hS];cases e:q3a (srL es) (bL (bst a.m a.es3 a.c3 a.f a.VL a.n a.p a.b a.VN a.nn)) with
      | nil=>rfl
      | cons u r=>rw [(hI.tab.has _).2 (by rw [e]; simp)] at hk; cases hk
     refine q1a (some (1,8)) 20000 (names:=n11) (Sr.b { a with p:=a.p+1 }) ⟨⟨⟨hI.tab,hI.bd,hI.lv,hI.lvn,hI.ne,hI.nx,hI.seen,hI.fin,hI.zdO,hI.szC,hI.szL,hI.szN⟩,hc,?_,hN⟩,?_⟩ (fun z=>jdk es c x y a.es2 a.c2 J a.m a.es3 a.c3 a.f a.VL a.n a.p a.b a.VN a.nn z) (qx5 es c x y _ _ _ _ _ _ _ _ _ _ _ _) (hI.zfC hz hc (zaa hk (zaa (qwg (by omega)) qaa)))
     . show Go.Bfs.step (zbZ (srL es)) (a.L.take (a.p+1)) a.zbT=(a.Nx,a.Sn);rw [q6j hc,qgo,hs,he];simp [ext]
     . show (3 * unQ es a.Sn+2 * a.Nx.length+(a.L.length - (a.p+1))) * SrK es+(2 * es.length+9)<(3 * unQ es a.Sn+2 * a.Nx.length+(a.L.length - a.p)) * SrK es+(2 * es.length+9);exact qjo (by omega) (by unfold SrK; omega)
   | true =>
     have hne:q3a (srL es) (bL (bst a.m a.es3 a.c3 a.f a.VL a.n a.p a.b a.VN a.nn))≠[]:=(hI.tab.has _).1 hk;have hv:=(hI.tab.own _ hne).strs;have hlen:(zbZ (srL es) a.L[a.p]).length<=es.length:=qi2 es _;refine qzb (some (2,3)) 20000 (names:=n11) (Sr.c a ⟨bV (bst a.m a.es3 a.c3 a.f a.VL a.n a.p a.b a.VN a.nn),zbM a.es2 (.string (bL (bst a.m a.es3 a.c3 a.f a.VL a.n a.p a.b a.VN a.nn))),0,false,fun _=>undef,0,[],zbZ (srL es) a.L[a.p]⟩) ⟨⟨hI,hc,a.Sn,hs,rfl,rfl,?_,?_,Nat.zero_le _,.inr ⟨rfl,rfl⟩,?_,fun r hr=>(by cases hr)⟩,?_⟩ (fun z=>b_go es c x y a.es2 a.c2 J a.m a.es3 a.c3 a.f a.VL a.n a.p a.b a.VN a.nn z) (j0d es c x y _ _ _ _ _ _ _ _ _ _ _ _ _ _ _ _ _ _) (fun q hq p u hp hu => ?_) (fun e he=>by cases he) (hI.zfC hz hc (zaa hk (zaa hv.sl qaa)))
     . show zaA a.m (bV (bst a.m a.es3 a.c3 a.f a.VL a.n a.p a.b a.VN a.nn)) _;rw [hI.zf9]; exact h1
     . show zaA a.m _ (zbZ (srL es) a.L[a.p]);rw [hS]; exact hv
     . show a.Nx.length+0+unQ es a.Sn<=es.length+2;omega
     . show (3 * unQ es a.Sn+2 * (a.Nx.length+0)+(a.L.length - a.p)) * SrK es+((zbZ (srL es) a.L[a.p]).length - 0+es.length+3)<(3 * unQ es a.Sn+2 * a.Nx.length+(a.L.length - a.p)) * SrK es+(2 * es.length+9);rw [Nat.add_zero]; omega
     . obtain rfl:=List.mem_singleton.1 hq;exact q2a (jwg es c x y _ _ _ _ _ _ _ _ _ _ _ _ _ _ 0 _ _ _) hp hu (q6a rfl)
 . have hpe:a.p=a.L.length:=by omega
   rw [hpe,List.take_length] at hs;have hd:decide ((a.p:Int)<(lvM ⟨a.f,a.VL,a.n⟩:Int))=false:=decide_eq_false (by rw [hI.lvn]; omega)
   rcases hI.nx with ⟨hb,hnn,hne,hrow⟩ | ⟨hb,hnil⟩
   . have hpos:0<a.Nx.length:=List.length_pos_iff.2 hne;rw [hb];refine qzb (some (1,8)) 20000 (names:=n98) (Sr.b ⟨a.es2,a.c2,a.m,a.es3,a.c3,false,a.VN,a.nn,0,false,a.VN,a.nn,a.Nx,a.Sn,[],a.Sn⟩) ⟨⟨⟨hI.tab,hI.bd,hrow.strs,hnn,fun q hq=>(hI.szN q hq).1,.inr ⟨rfl,rfl⟩,hI.seen,fun o ho=>hI.fin o ?_,rfl,?_,fun q hq=>(hI.szN q hq).2,fun q hq=>(by cases hq)⟩,Nat.zero_le _,rfl,?_⟩,?_⟩ (fun z=>jek es c x y a.es2 a.c2 J a.m a.es3 a.c3 a.f a.VL a.n a.p a.VN a.nn z) (zkE es c x y _ _ _ _ _ _ _ _ _ _ _ _) (fun q hq p u hp hu => ?_) (fun e he=>by cases he) (zaa hd (zaa (decide_eq_true (by rw [hnn]; omega)) qaa))
     . refine .next ?_ ?_ ?_
       . rw [hs]; exact hI.zdO
       . rw [hs]; exact hne
       . rw [hs]; exact ho
     . show a.Nx.length<=es.length+2;omega
     . show 0+unQ es a.Sn<=es.length+2;omega
     . show (3 * unQ es a.Sn+2 * 0+(a.Nx.length - 0)) * SrK es+(2 * es.length+9)<(3 * unQ es a.Sn+2 * a.Nx.length+(a.L.length - a.p)) * SrK es+(2 * es.length+9);exact qjo (by omega) (by unfold SrK; omega)
     . obtain rfl:=List.mem_singleton.1 hq;exact q2a (j2d es c x y _ _ _ _ _ _ _ _ 0 _ _ _) hp hu (q6a rfl)
   . rw [hb];refine qza none 20000 (fun z=>jyg es c x y a.es2 a.c2 J a.m a.es3 a.c3 a.f a.VL a.n a.p a.VN a.nn z) (zaa hd qaa) fun H hH => ?_
     obtain ⟨h0,h1⟩:=List.cons.inj (show [H[1]?,H[2]?]=[some (.obj (.zaU kPr vBo es c)),some (.mem a.m)] from hH)
     exact ⟨h0,.inl ⟨rfl,hI.fin _ (.over (by rw [hs]; exact hnil))⟩⟩
end
end
end Go.Proofs.YtbhlngmhgplepaaDoor.Aes
