/-
  The search for a route: the rounds over what a path's end leads to, and over the longer paths; the search.
-/
import Derived.Test.YtbhlngmhgplepaaDoorPh10
namespace Go.Proofs.YtbhlngmhgplepaaDoor.Aes
noncomputable section
open Go.Sim
open Go.Proofs
open Go.Sort
open Go.Bfs
variable {α:Type}
set_option maxRecDepth 1000000
section
variable {es:List MapEntry} {c:Nat} {x y:ByteArray}
theorem BInv.more {a:BA} (hI:BInv es x y a) {b' n cap:Nat} {el:TypeId} {V:Nat->Value} (hf:a.m.free b') {s:Str} (hs:s ∉ a.Sn) (hm:s∈(srL es).map (·.2)) :
  BInv es x y { a with m:=a.m.add b' n cap el V,es3:=zcI a.es3 a.c3 (.string s) (.bool true),c3:=a.c3+1,Sn:=a.Sn++[s] }:=by
 have hu:=qs8 hs hm;refine ⟨hI.tab.add hf,Mem.zbN hI.bd _ _ _ _ _,hI.lv.addS hf,hI.lvn,hI.ne,hI.nx.add hf,hI.seen.add hs _,hI.fin,hI.zdO,hI.szC,fun q hq => ?_,fun q hq=>⟨(hI.szN q hq).1,?_⟩⟩
 . have:=hI.szL q hq;show q.length+unQ es (a.Sn++[s])<=_;omega
 . have:=(hI.szN q hq).2;show q.length+unQ es (a.Sn++[s])<=_;omega
set_option maxHeartbeats 0 in
theorem sr_c {a:BA} {q:CA} (hz:es.length<=1000000) (J:zaQ) (h:SrQ es x y (.c a q)):SrT es c x y (.c a q) J:=by
 obtain ⟨hI,hc,S0,hs,he,hR,hpv,hsv,hj,hl,hsz,hq⟩:BInv es x y a/\∃ (h:a.p<a.L.length) (S0:List Str),Go.Bfs.step (zbZ (srL es)) (a.L.take a.p) a.zbT=(a.Nx,S0)/\ext a.L[a.p] (q.R.take q.j) S0=(q.l,a.Sn)/\q.R=zbZ (srL es) a.L[a.p]/\zaA a.m q.pv a.L[a.p]/\zaA a.m q.sv q.R/\q.j<=q.R.length /\
   zfn a.m q.lb q.Vl q.nl q.l/\a.Nx.length+q.l.length+unQ es a.Sn<=es.length+2/\∀ r∈q.l,r≠[]/\r.length+unQ es a.Sn<=es.length+2:=h
 obtain ⟨pv,sv,j,lb,Vl,nl,l,R⟩:=q;replace he:ext a.L[a.p] (R.take j) S0=(l,a.Sn):=he;replace hR:R=zbZ (srL es) a.L[a.p]:=hR;replace hpv:zaA a.m pv a.L[a.p]:=hpv;replace hsv:zaA a.m sv R:=hsv;replace hj:j<=R.length:=hj;replace hl:zfn a.m lb Vl nl l:=hl;replace hsz:a.Nx.length+l.length+unQ es a.Sn<=es.length+2:=hsz;replace hq:∀ r∈l,r≠[]/\r.length+unQ es a.Sn<=es.length+2:=hq;have hRl:R.length<=es.length:=by rw [hR]; exact qi2 es _
 have hsl:=hsv.len;have hp3:=(hI.pth hc).2.2;have hM:=hI.szC;show qlb zcc 3 (SrC es c x y) _ _ ((cCQ es c x y a.es2 a.c2 (bst a.m a.es3 a.c3 a.f a.VL a.n a.p a.b a.VN a.nn) ⟨pv,sv,j,⟨lb,Vl,nl⟩⟩).fill J);by_cases hc2:j<R.length
 . have hcell:=hsv.cell hc2;have hB:xB a.m sv j=R[j]:=qp8 hcell;have hG:∀ {r:List Prop},(∀ p∈r,p)->∀ p∈xG a.m sv j r,p:=fun hr=>zaa (decide_eq_true (by rw [hsl]; omega)) (zaa hsv.slc (zaa ⟨by omega,by rw [hsl]; omega⟩ (qe2 hcell hr)))
   have hT:R.take (j+1)=R.take j++[xB a.m sv j]:=by rw [List.take_add_one,List.getElem?_eq_getElem hc2,hB]; rfl
   by_cases hin:xB a.m sv j∈a.Sn
   . refine q1a (some (2,3)) 20000 (names:=n11) (Sr.c a ⟨pv,sv,j+1,lb,Vl,nl,l,R⟩) ⟨⟨hI,hc,S0,hs,?_,hR,hpv,hsv,hc2,hl,hsz,hq⟩,?_⟩ (fun z=>jfk es c x y a.es2 a.c2 J a.m a.es3 a.c3 a.f a.VL a.n a.p a.b a.VN a.nn pv sv j lb Vl nl z) (j0d es c x y _ _ _ _ _ _ _ _ _ _ _ _ _ _ _ _ _ _) (hG (zaa ((hI.seen.has _).2 hin) (zaa (by rw [hI.seen.get _ hin]; rfl) (zaa (qwg (by omega)) qaa))))
     . show ext a.L[a.p] (R.take (j+1)) S0=(l,a.Sn);rw [hT,qmv (by rw [he]; exact hin),he]
     . show (3 * unQ es a.Sn+2 * (a.Nx.length+l.length)+(a.L.length - a.p)) * SrK es+(R.length - (j+1)+es.length+3)<(3 * unQ es a.Sn+2 * (a.Nx.length+l.length)+(a.L.length - a.p)) * SrK es+(R.length - j+es.length+3);omega
   . have hm:xB a.m sv j∈(srL es).map (·.2):=qgt (q:=a.L[a.p]) (by rw [← hR,hB]; exact List.getElem_mem hc2)
     have hu:=qs8 hin hm;have hf:=fun z0=>Mem.zca hI.bd z0;have hno:=hI.seen.not hin;have hE:ext a.L[a.p] (R.take (j+1)) S0=(l++[a.L[a.p]++[xB a.m sv j]],a.Sn++[xB a.m sv j]):=by
      rw [hT,qmz (by rw [he]; exact hin),he]
     have hpq:=hI.szL _ (List.getElem_mem hc);have hq':∀ r∈l++[a.L[a.p]++[xB a.m sv j]],r≠[]/\r.length+unQ es (a.Sn++[xB a.m sv j])<=es.length+2:=fun r hr=>by
      rcases List.mem_append.1 hr with hr | hr
      . have:=hq r hr;exact ⟨this.1,by omega⟩
      . obtain rfl:=List.mem_singleton.1 hr;refine ⟨by simp,?_⟩
        rw [List.length_append];show a.L[a.p].length+1+_<=_;omega
     have hmu:∀ A:Nat,A=l.length+1->(3 * unQ es (a.Sn++[xB a.m sv j])+2 * (a.Nx.length+A)+(a.L.length - a.p)) * SrK es+(R.length - (j+1)+es.length+3)<(3 * unQ es a.Sn+2 * (a.Nx.length+l.length)+(a.L.length - a.p)) * SrK es+(R.length - j+es.length+3):=fun A hA=>qjo (by omega) (by unfold SrK; omega)
     rcases hl with ⟨hb,hnl,hne,hrow⟩ | ⟨hb,hnil⟩
     . subst hb;subst hnl;refine qyf (js:=[]) (K:=fun _=>False) (some (2,3)) 20000 (M:=cM es c x y a.es2 a.c2 a.f a.b true) (names:=n14) (fun z=>⟨_,_,_,j0g es c x y a.es2 a.c2 J a.m a.es3 a.c3 a.f a.VL a.n a.p a.b a.VN a.nn pv sv j Vl l.length z,hG (zaa hno (zaa hno (hpv.zfp (by omega) (zaa (Nat.le_refl 1) (zaa (by omega) (zaa ⟨⟨by omega,by omega⟩,fun i hi => ?_⟩ (zaa (fun j hj=>zhX hj) (zaa (qwg (by omega)) qaa)))))))),?_⟩) (fun v es h=>h.elim)
       . obtain rfl:i=0:=by omega
         trivial
       refine ⟨.c { a with m:=xM a.m pv sv j z,es3:=xS a.m a.es3 a.c3 sv j,c3:=a.c3+1,Sn:=a.Sn++[xB a.m sv j] } ⟨pv,sv,j+1,true,xW a.m pv Vl l.length z,(l.length+1) * 1,l++[a.L[a.p]++[xB a.m sv j]],R⟩,15,[(0,5,.slice ⟨14,.lit 0⟩ (.sym (l.length+1)) (.rest 14 0))],[],⟨⟨hI.more (hf _) hin hm,hc,S0,hs,hE,hR,hpv.add (hf _),hsv.add (hf _),hc2,.inl ⟨rfl,?_,by simp,?_⟩,?_,hq'⟩,hmu _ (by simp)⟩,rfl,qr8 es c x y _ _ _ _ _ _ _ _ _ _ _ _ _ _ _ _ _ _,fun q hq p u hp hu => ?_,fun e he=>by cases he⟩
       . show (l.length+1) * 1=_;rw [List.length_append]; simp
       . refine (hrow.zee (hf _)).snoc ?_ fun i hi=>jik hi;show zbn _ (xW a.m pv Vl l.length z l.length) _;rw [jjk];exact qnz hpv _ _
       . show a.Nx.length+(l++[a.L[a.p]++[xB a.m sv j]]).length+_<=_;rw [List.length_append];show a.Nx.length+(l.length+1)+unQ es (a.Sn++[xB a.m sv j])<=_;omega
       . obtain rfl:=List.mem_singleton.1 hq;refine q2a (qq8 es c x y _ _ _ _ _ _ _ _ _ _ _ _ _ _ _ _ _) hp hu ?_
         show SV.Imp _ (SV.slice ⟨14,.lit 0⟩ (.sym ((l.length+1) * 1)) (.rest 14 0));rw [Nat.mul_one];exact .refl _
     . subst hb;subst hnil;refine qyf (js:=[]) (K:=fun _=>False) (some (2,3)) 20000 (M:=cM es c x y a.es2 a.c2 a.f a.b true) (names:=n14) (fun z=>⟨_,_,_,jzg es c x y a.es2 a.c2 J a.m a.es3 a.c3 a.f a.VL a.n a.p a.b a.VN a.nn pv sv j Vl nl z,hG (zaa hno (zaa hno (hpv.zfp (by omega) (zaa (qwg (by omega)) qaa)))),?_⟩) (fun v es h=>h.elim)
       refine ⟨.c { a with m:=xM a.m pv sv j z,es3:=xS a.m a.es3 a.c3 sv j,c3:=a.c3+1,Sn:=a.Sn++[xB a.m sv j] } ⟨pv,sv,j+1,true,atV [xV a.m pv z],1,[]++[a.L[a.p]++[xB a.m sv j]],R⟩,15,[(0,5,.slice ⟨14,.lit 0⟩ (.lit 1) (.rest 14 0))],[],⟨⟨hI.more (hf _) hin hm,hc,S0,hs,hE,hR,hpv.add (hf _),hsv.add (hf _),hc2,.inl ⟨rfl,rfl,by simp,?_⟩,?_,hq'⟩,hmu _ (by simp)⟩,rfl,qr8 es c x y _ _ _ _ _ _ _ _ _ _ _ _ _ _ _ _ _ _,fun q hq p u hp hu => ?_,fun e he=>by cases he⟩
       . refine zbw.snoc (V:=fun _=>undef) zbw.nil ?_ fun i hi=>by cases hi
         exact qnz hpv _ _
       . show a.Nx.length+1+unQ es (a.Sn++[xB a.m sv j])<=_;have:a.Nx.length+0+unQ es a.Sn<=es.length+2:=hsz;omega
       . obtain rfl:=List.mem_singleton.1 hq;refine q2a (qq8 es c x y _ _ _ _ _ _ _ _ _ _ _ _ _ _ _ _ _) hp hu ?_
         exact fun γ v hv=>hv
 . have hje:j=R.length:=by omega
   have hd:decide ((j:Int)<(zaL sv:Int))=false:=decide_eq_false (by rw [hsl]; omega)
   rw [hje,List.take_length,hR] at he;rcases hl with ⟨hb,hnl,hne,hrow⟩ | ⟨hb,hnil⟩
   . subst hb;refine qzb (some (1,12)) 20000 (names:=n11) (Sr.d a 0 Vl nl l) ⟨⟨hI,hc,a.Nx,S0,hs,he,by simp,Nat.zero_le _,hrow,hnl,hsz,hq⟩,?_⟩ (fun z=>jhk es c x y a.es2 a.c2 J a.m a.es3 a.c3 a.f a.VL a.n a.p a.b a.VN a.nn pv sv j Vl nl z) (zko es c x y _ _ _ _ _ _ _ _ _ _ _ _ _ _ _) (fun q hq p u hp hu => ?_) (fun e he=>by cases he) (zaa hd qaa)
     . show (3 * unQ es a.Sn+2 * (a.Nx.length - 0+l.length)+(a.L.length - a.p)) * SrK es+(l.length - 0)<(3 * unQ es a.Sn+2 * (a.Nx.length+l.length)+(a.L.length - a.p)) * SrK es+(R.length - j+es.length+3);rw [Nat.sub_zero]; omega
     . obtain rfl:=List.mem_singleton.1 hq;exact q2a (jxg es c x y _ _ _ _ _ _ _ _ _ _ _ _ 0 _ _) hp hu (q6a rfl)
   . subst hb;subst hnil;refine q1a (some (1,8)) 20000 (names:=n11) (Sr.b { a with p:=a.p+1 }) ⟨⟨⟨hI.tab,hI.bd,hI.lv,hI.lvn,hI.ne,hI.nx,hI.seen,hI.fin,hI.zdO,hI.szC,hI.szL,hI.szN⟩,hc,?_,?_⟩,?_⟩ (fun z=>jgk es c x y a.es2 a.c2 J a.m a.es3 a.c3 a.f a.VL a.n a.p a.b a.VN a.nn pv sv j Vl nl z) (qx5 es c x y _ _ _ _ _ _ _ _ _ _ _ _) (zaa hd (zaa (qwg (by omega)) qaa))
     . show Go.Bfs.step (zbZ (srL es)) (a.L.take (a.p+1)) a.zbT=(a.Nx,a.Sn);rw [q6j hc,qgo,hs];show (a.Nx++(ext a.L[a.p] (zbZ (srL es) a.L[a.p]) S0).1,(ext a.L[a.p] (zbZ (srL es) a.L[a.p]) S0).2)=_;rw [he]; simp
     . have:a.Nx.length+0+unQ es a.Sn<=es.length+2:=hsz;show a.Nx.length+unQ es a.Sn<=_;omega
     . show (3 * unQ es a.Sn+2 * a.Nx.length+(a.L.length - (a.p+1))) * SrK es+(2 * es.length+9)<(3 * unQ es a.Sn+2 * (a.Nx.length+0)+(a.L.length - a.p)) * SrK es+(R.length - j+es.length+3);exact qjo (by omega) (by unfold SrK; omega)
end
end
end Go.Proofs.YtbhlngmhgplepaaDoor.Aes
