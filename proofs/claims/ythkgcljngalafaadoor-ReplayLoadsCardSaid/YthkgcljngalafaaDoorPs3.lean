/-
  Texts behind one another: the symbolic simulator and what it is told of the program.
-/
import Derived.Test.YthkgcljngalafaaDoorPs2
import Derived.MapKept
import Derived.WideKeyRuns
import Derived.Laws.NewFold
import Derived.RangeFuncIn
import Derived.RangeFuncRecord
import Derived.RangeFuncNested
namespace Go.Sim
noncomputable section
variable {α:Type}
section
variable {P:Program} {O:Nat->Prop} {w0:World} {β:Val} {H:List SO} {w:World} {base:Nat}
theorem qln {a b:Nat} (h:Nat.blt a b=true):a<b:=Nat.le_of_ble_eq_true h
theorem q8b {A:Option Addr} {l c n:Nat} (h:∀ (P:Program) (w':World),(Builtin.lenOf (.slice A l c)).run P w'=.ok n w') (P:Program) (w:World):n=l:=by
 have:=h P w
 simp only [Builtin.lenOf,Sem.run_pure,Result.ok.injEq,and_true] at this
 exact this.symm
structure ApSet (P:Program) (w:World) (tys:Array TypeId) (st elem:TypeId) (i:TypeInfo) (z:Value) (x:Value) (xs:List Value) (n:Nat):Prop where
 ht:tys[0]? = some st
 hd:P.underlying st=some (.slice elem)
 hi:P.info? elem=some i
 hz:i.zero=some z
 hzl:z.cells.size=i.size
 hm:qyf P tys=true
 hn:(Builtin.lenOf x).run P w=.ok n w
 hx:∀ w':World,w'.heap=w.heap->(Builtin.firstCells i.size n x).run P w'=.ok xs.toArray w'
 hxl:xs.length=n * i.size
theorem q65 (hr:HeapRel0 P O w0 β H w) {tys:Array TypeId} {st elem ty:TypeId} {i:TypeInfo} {z x:Value} {xs:List Value} {n:Nat} (S:ApSet P w tys st elem i z x xs n) {new:List SV} (hnew:SV.denL β new=some xs)
  {a:SA} {A:Addr} {len c:Nat} (hA:a.den β=some A) (hlc:len<=c) (hb1:(len+n) * i.bytes<140737488355328) (hb2:len+n<140737488355328) {res:Result Next}
  (hres:∀ v w',(Builtin.append_ tys ty #[.slice (some A) len c,x]).run P w=.ok v w'->res=.ok (.value v) w') :
  (jdc H base elem i.size a len c n new).Sat (qea P H β w base res):=by
 refine R.Sat.boolC (fun hle=>R.Sat.boolC (fun h0 => ?_) fun h0=>R.Sat.boolC (fun hsc=>qgb fun e he => ?_) fun _=>trivial) fun hgt => ?_
 . have hn0:n=0:=Nat.eq_of_beq_eq_true h0
   subst hn0
   have hxs:xs=[]:=List.eq_nil_of_length_eq_zero (by rw [S.hxl]; simp)
   subst hxs
   have:=qcb (ty:=ty) (bs:=some A) (sLen:=len) (sCap:=c) (w':=w) S.ht S.hd S.hi S.hm S.hn (S.hx w rfl) (by omega) rfl
   refine qga (hres _ _ this) ?_
   rw [den_slice]
   exact ⟨A,c,hA,rfl,hlc,rfl⟩
 . have hle':len+n<=c:=Nat.le_of_ble_eq_true hle
   cases e with
   | row=>trivial
   | loop=>trivial
   | deferred=>trivial
   | gone=>trivial
   | obj=>trivial
   | own cl wh el =>
     obtain ⟨ll,vs,rest,lo,hi,hbl,h0',hc,hh,hfz,hw,hcap⟩:=hr.entries _ _ he
     obtain ⟨l',hl',rfl⟩:=SA.den_some hA
     rw [hbl] at hl'; cases hl'
     refine qfk hc hnew fun c' hc' hle2 => ?_
     rw [SN.add_den] at hc' hle2
     replace hc':CellsRel β c' (qvb vs (a.off.den+len * i.size) xs):=hc'
     replace hle2:a.off.den+len * i.size+xs.length<=vs.length:=hle2
     have hoff:a.off.den+len * i.size+xs.length<=vs.length:=hle2
     have hrun:=qlc (P:=P) xs (vs++rest) (ll.off+a.off.den+len * i.size) 0 w hh (q0l hnew hsc) hfz.at (by rw [h0']; simp; omega)
     rw [Nat.add_zero,h0',Nat.zero_add,q5e hoff] at hrun
     have hplace:=qcb (ty:=ty) (bs:=some ⟨ll.blk,ll.off+a.off.den,none⟩) (sLen:=len) (sCap:=c) S.ht S.hd S.hi S.hm S.hn (S.hx w rfl) hle' (by simp only [q8a]; rw [h0',Nat.zero_add]; exact hrun)
     refine fun hb=>⟨.value _,_,_,β,hres _ _ hplace,rfl,?_,Eff.turn hbl ?_,?_⟩
     . rw [den_slice]
       exact ⟨_,c,hA,rfl,hle',rfl⟩
     . have hlt:ll.blk<w.heap.size:=(Array.getElem?_eq_some_iff.1 hh).1
       refine ⟨ll,_,rest,lo,hi,hbl,h0',hc',by simp [hlt],?_,hw,?_⟩
       . simp only [List.length_append,q6a hle2] at hfz ⊢; exact hfz
       . intro j hj
         have:=hcap j hj
         simp only [List.length_append,q6a hle2] at this ⊢; exact this
     . intro m e hm
       simp at hm
       obtain ⟨rfl,rfl⟩:=hm
       exact ⟨_,he,rfl⟩
 . have hgt':c<len+n:=by
    rcases Nat.lt_or_ge c (len+n) with h | h
    . exact h
    . rw [Nat.ble_eq_true_of_le h] at hgt; cases hgt
   refine q9h hr hA fun old os h1 h2 h3 => ?_
   obtain ⟨cap,hcap,hrun⟩:=qjb (ty:=ty) (bs:=some A) (sLen:=len) (sCap:=c) (os:=os) S.ht S.hd S.hi S.hz S.hm S.hn S.hx
    (fun w' hw'=>qoa w' hw' (.inr (.inl ⟨A,len,c,rfl,h2,h3⟩))) hgt' hb1 hb2
   refine q1g (c:=.lst (app old new)) (vs:=os++xs) (len:=len+n) S.hi S.hzl (qae h1 hnew) (by rw [List.length_append,h2,S.hxl,Nat.add_mul]) hcap rfl (hres _ _ ?_)
   rw [hrun]; congr 3; simp
theorem qc3 (hr:HeapRel0 P O w0 β H w) {tys:Array TypeId} {st elem ty:TypeId} {i:TypeInfo} {z x:Value} {xs:List Value} {n:Nat} (S:ApSet P w tys st elem i z x xs n) {new:List SV} (hnew:SV.denL β new=some xs)
  {a:SA} {A:Addr} {len nm k C:Nat} (hA:a.den β=some A) (hC:(SC.rest nm k).den β=some C) (hlc:len<=C) (hb1:(len+n) * i.bytes<140737488355328) (hb2:len+n<140737488355328) {res:Result Next}
  (hres:∀ v w',(Builtin.append_ tys ty #[.slice (some A) len C,x]).run P w=.ok v w'->res=.ok (.value v) w') :
  (q74 H base elem i.size a len nm k n new).Sat (qea P H β w base res):=by
 refine R.Sat.boolC (fun h0 => ?_) fun h0=>R.Sat.boolC (fun hsc=>R.Sat.boolC (fun hnm=>R.Sat.boolC (fun hk=>SN.asLit_sat (fun o ho=>R.Sat.boolC (fun ho0=>qgb fun e he => ?_) fun _=>trivial) fun _=>trivial) fun _=>trivial) fun _=>trivial) fun _=>trivial
 . have hn0:n=0:=Nat.eq_of_beq_eq_true h0
   subst hn0
   have hxs:xs=[]:=List.eq_nil_of_length_eq_zero (by rw [S.hxl]; simp)
   subst hxs
   have:=qcb (ty:=ty) (bs:=some A) (sLen:=len) (sCap:=C) (w':=w) S.ht S.hd S.hi S.hm S.hn (S.hx w rfl) (by omega) rfl
   refine qga (hres _ _ this) ?_
   rw [den_slice]
   exact ⟨A,C,hA,hC,hlc,rfl⟩
 . obtain rfl:=Nat.eq_of_beq_eq_true hnm
   obtain rfl:=Nat.eq_of_beq_eq_true hk
   obtain rfl:=Nat.eq_of_beq_eq_true ho0
   cases e with
   | row=>trivial
   | loop=>trivial
   | deferred=>trivial
   | gone=>trivial
   | obj=>trivial
   | own cl wh el =>
     cases cl with
     | fn=>trivial
     | raw=>trivial
     | lst l =>
       refine R.Sat.boolC (fun hel=>R.Sat.boolC (fun hll => ?_) fun _=>trivial) fun _=>trivial
       obtain rfl:=Nat.eq_of_beq_eq_true hel
       obtain ⟨ll,vs,rest,lo,hi,hbl,h0',hc,hh,hfz,hw,hcap⟩:=hr.entries _ _ he
       obtain ⟨l',hl',hAe⟩:=SA.den_some hA
       rw [hbl] at hl'; cases hl'
       have hAe':A=⟨ll.blk,0,none⟩:=by rw [hAe,h0',ho]; rfl
       have hCe:C=ll.cap:=by
        simp only [SC.den,hbl,Option.map_some,Option.some.injEq] at hC; omega
       have hvl:vs.length=l.length:=qva hc
       have hle:len * i.size<=vs.length:=by rw [hvl,← qha]; exact Nat.le_of_ble_eq_true hll
       have hnewd:SV.denL β (app (qsa l (len * i.size)) new)=some (vs.take (len * i.size)++xs):=by
        rw [qoc]; exact qae (qjg hc _) hnew
       have hnewl:(vs.take (len * i.size)++xs).length=(len+n) * i.size:=by
        rw [List.length_append,List.length_take,S.hxl,Nat.add_mul]; omega
       have hcells:∀ (j:Nat) (y:Value),(vs.take (len * i.size))[j]? = some y->w.cell? (A.add j)=some y:=by
        intro j y hy
        rw [hAe',q8a,cell?_of hh,Nat.zero_add]
        rw [List.getElem?_take] at hy
        split at hy
        . have:=(List.getElem?_eq_some_iff.1 hy).1
          simp [List.getElem?_append_left this,hy]
        . cases hy
       rcases Nat.lt_or_ge C (len+n) with hgt | hfit
       . obtain ⟨cap,hcap',hrun⟩:=qjb (ty:=ty) (bs:=some A) (sLen:=len) (sCap:=C) (os:=vs.take (len * i.size)) S.ht S.hd S.hi S.hz S.hm S.hn S.hx
          (fun w' hw'=>qoa w' hw' (.inr (.inl ⟨A,len,C,rfl,by rw [List.length_take]; omega,hcells⟩))) hgt hb1 hb2
         exact qik (c:=.lst _) he rfl S.hi S.hzl hnewd hnewl hcap' rfl (hres _ _ (by rw [hrun]; congr 3; simp))
       . have hroom:len * i.size+xs.length<=(vs++rest).length:=by
          have h1:=hcap i S.hi
          have h2:=Nat.mul_le_mul_right i.size hfit
          rw [Nat.add_mul] at h2
          rw [S.hxl]; rw [← hCe] at h1; omega
         have hrun:=qlc (P:=P) xs (vs++rest) (0+len * i.size) 0 w hh (q0l hnew hsc) hfz.at (by omega)
         rw [Nat.add_zero,Nat.zero_add] at hrun
         have hplace:=qcb (ty:=ty) (bs:=some A) (sLen:=len) (sCap:=C) S.ht S.hd S.hi S.hm S.hn (S.hx w rfl) hfit (by rw [hAe']; simp only [q8a,Nat.zero_add]; exact hrun)
         have hover:qvb (vs++rest) (len * i.size) xs=(vs.take (len * i.size)++xs)++(vs++rest).drop (len * i.size+xs.length):=by
          unfold qvb; rw [List.take_append_of_le_length hle]
         have hlt:ll.blk<w.heap.size:=(Array.getElem?_eq_some_iff.1 hh).1
         have hlen':((vs.take (len * i.size)++xs)++(vs++rest).drop (len * i.size+xs.length)).length=(vs++rest).length:=by
          rw [← hover,q6a hroom]
         refine fun hb=>⟨.value _,_,_,β.upd base ll,hres _ _ hplace,rfl,?_,?_,?_⟩
         . rw [den_slice]
           refine ⟨⟨ll.blk,0,none⟩,C,by simp [SA.den,Val.upd_same,h0',SN.den],by simp [SC.den,Val.upd_same,hCe],hfit,by rw [hAe']; rfl⟩
         . refine ⟨Val.upd_le hb.hd,rfl,rfl,rfl,Nat.le_refl _,by simp,?_,?_,?_,?_,?_,?_⟩
           . intro m hm
             unfold Val.upd
             rw [if_neg]; simp at hm; omega
           . intro b _ hn
             have:=hn a.nm .gone ll (by simp) hbl
             simp [this]
           . intro m e1 e2 h1 h2; simp at h1 h2; rw [h1.2,h2.2]
           . intro m e h1; simp at h1; rw [h1.2]; trivial
           . intro j e hj
             cases j with
             | succ j=>simp at hj
             | zero =>
               simp at hj; subst hj
               refine ⟨rfl,⟨ll,_,(vs++rest).drop (len * i.size+xs.length),lo,hi,Val.upd_same _ _ _,h0',SV.denL_mono (Val.upd_le hb.hd) _ hnewd,?_,?_,by simp,?_⟩,ll,Val.upd_same _ _ _,.inr ⟨a.nm,ll,by simp,hbl,rfl⟩⟩
               . rw [← hover]; simp [hlt]
               . rw [hlen']; exact hfz
               . intro j hj; rw [hlen']; exact hcap j hj
           . intro j k l l' hjk hj hk; simp at hj hk; omega
         . intro m e hm
           simp at hm
           obtain ⟨rfl,rfl⟩:=hm
           exact ⟨_,he,rfl⟩
theorem qox (hr:HeapRel0 P O w0 β H w) {a:SA} {n:SN} {A':Addr} {C:Nat} (hA:n.den=0\/a.den β=some A') {f:(Nat->SV)->R α} {φ:α->Prop}
  (hf:∀ g,(∀ (m:Nat),(∀ w':World,(Builtin.lenOf (.slice (some A') n.den C)).run P w'=.ok m w')->∃ xs:List Value,xs.length=m/\(∀ (j:Nat) (y:Value),xs[j]? = some y->(g j).den β=some y)/\∀ w':World,w'.heap=w.heap->(Builtin.firstCells 1 m (.slice (some A') n.den C)).run P w'=.ok xs.toArray w')->(f g).Sat φ):(fnSl H a n f).Sat φ:=by
 unfold fnSl
 refine qgb fun e he => ?_
 have key:∀ (cl:Cells) (g:Nat->SV) (vs:List Value),e.cells? = some cl->CellsRel β cl vs->(∃ l,β a.nm=some l/\∀ (i:Nat) (x:Value),vs[i]? = some x->w.cell? ⟨l.blk,l.off+i,none⟩=some x)->a.off.den+n.den<=vs.length ->
   (∀ i y,vs[a.off.den+i]? = some y->(g i).den β=some y)->(f g).Sat φ:=by
  rintro cl g vs _ hcr ⟨l,hl,hcell⟩ hle hg
  refine hf g fun m hm=>⟨(vs.drop a.off.den).take n.den,?_,fun j y hy => ?_,fun w' hw' => ?_⟩
  . have:=hm w
    simp only [Builtin.lenOf,Sem.run_pure,Result.ok.injEq,and_true] at this
    simp; omega
  . rw [List.getElem?_take] at hy
    split at hy
    . rw [List.getElem?_drop] at hy; exact hg j y hy
    . cases hy
  . refine qoa w' hw' (.inr (.inl ⟨_,_,_,rfl,?_,fun j y hy => ?_⟩))
    . have:=hm w
      simp only [Builtin.lenOf,Sem.run_pure,Result.ok.injEq,and_true] at this
      simp; omega
    . rw [List.getElem?_take] at hy
      split at hy
      . rename_i hjn
        rw [List.getElem?_drop] at hy
        obtain ⟨l',hl',rfl⟩:=SA.den_some (hA.resolve_left (by omega))
        rw [hl] at hl'; cases hl'
        rw [q8a,Nat.add_assoc]; exact hcell _ _ hy
      . cases hy
 split
 . rename_i g m _ _
   obtain ⟨l,vs,hl,hcr,hcell⟩:=qub hr he rfl
   intro hle
   exact key _ _ vs rfl hcr ⟨l,hl,hcell⟩ (by rw [hcr.1]; exact hle) fun i y hy=>hcr.2 _ _ hy
 . rename_i g m
   obtain ⟨l,vs,hl,hcr,hcell⟩:=qub hr he rfl
   intro hle
   exact key _ _ vs rfl hcr ⟨l,hl,hcell⟩ (by rw [hcr.1]; exact hle) fun i y hy=>hcr.2 _ _ hy
 . rename_i ls _ _
   obtain ⟨l,vs,hl,hcr,hcell⟩:=qub hr he rfl
   cases hun:unb ls with
   | none =>
     intro hle
     have hvl:vs.length=ls.length:=qva hcr
     rw [qha] at hle
     refine key _ _ vs rfl hcr ⟨l,hl,hcell⟩ (by omega) fun i y hy => ?_
     have hlt:=(List.getElem?_eq_some_iff.1 hy).1
     obtain ⟨y',hy',hd⟩:=qed hcr (List.getElem?_eq_getElem (show a.off.den+i<ls.length by omega))
     rw [hy] at hy'; cases hy'
     rw [qca,List.getElem?_eq_getElem (show a.off.den+i<ls.length by omega)]; exact hd
   | some xs =>
     intro hle
     rw [qha] at hle
     obtain ⟨hb1,hb2⟩:=qif hun hcr
     refine key _ _ vs rfl hcr ⟨l,hl,hcell⟩ (by omega) fun i y hy => ?_
     have hlt:=(List.getElem?_eq_some_iff.1 hy).1
     rw [hb2 _ (by omega)] at hy
     rw [← Option.some.inj hy]; rfl
 . rename_i ls
   obtain ⟨l,vs,hl,hcr,hcell⟩:=qub hr he rfl
   cases hun:unb ls with
   | none =>
     intro hle
     have hvl:vs.length=ls.length:=qva hcr
     rw [qha] at hle
     refine key _ _ vs rfl hcr ⟨l,hl,hcell⟩ (by omega) fun i y hy => ?_
     have hlt:=(List.getElem?_eq_some_iff.1 hy).1
     obtain ⟨y',hy',hd⟩:=qed hcr (List.getElem?_eq_getElem (show a.off.den+i<ls.length by omega))
     rw [hy] at hy'; cases hy'
     rw [qca,List.getElem?_eq_getElem (show a.off.den+i<ls.length by omega)]; exact hd
   | some xs =>
     intro hle
     rw [qha] at hle
     obtain ⟨hb1,hb2⟩:=qif hun hcr
     refine key _ _ vs rfl hcr ⟨l,hl,hcell⟩ (by omega) fun i y hy => ?_
     have hlt:=(List.getElem?_eq_some_iff.1 hy).1
     rw [hb2 _ (by omega)] at hy
     rw [← Option.some.inj hy]; rfl
 . trivial
theorem qj9 (hr:HeapRel0 P O w0 β H w) {v:SV} {x:Value} (hv:v.den β=some x) {f:(Nat->SV)->R α} {φ:α->Prop}
  (hf:∀ g,(∀ (n:Nat),(∀ w':World,(Builtin.lenOf x).run P w'=.ok n w')->∃ xs:List Value,xs.length=n/\(∀ (j:Nat) (y:Value),xs[j]? = some y->(g j).den β=some y)/\∀ w':World,w'.heap=w.heap->(Builtin.firstCells 1 n x).run P w'=.ok xs.toArray w')->(f g).Sat φ):(fnOf H v f).Sat φ:=by
 unfold fnOf
 split
 . simp only [SV.den,Option.some.injEq] at hv; subst hv
   refine hf _ fun n hn=>⟨[],?_,by simp,fun w' hw'=>qoa (w:=w) w' hw' (.inl ⟨0,rfl,rfl⟩)⟩
   have:=hn w
   simp only [Builtin.lenOf,Sem.run_pure,Result.ok.injEq,and_true] at this
   exact this
 . rename_i a n c
   rw [den_slice] at hv
   obtain ⟨A,C,hA,hC,_,rfl⟩:=hv
   exact qox hr (.inr hA) hf
 . rename_i a k n c
   rw [qdc] at hv
   obtain ⟨A,C,hA,hC,hle,rfl⟩:=hv
   refine qox hr ?_ hf
   by_cases h0:C=0
   . left; omega
   . right; rw [if_neg h0]; exact SA.plus_den hA k
 . rename_i s
   simp only [SV.den,Option.some.injEq] at hv; subst hv
   refine hf _ fun n hn=>⟨s.den.data.toList.map fun b=>Value.int .u8 (b.toNat:Int),?_,fun j y hy=>qmp β _ j y hy,fun w' hw' => ?_⟩
   . have:=hn w
     simp only [Builtin.lenOf,Sem.run_pure,Result.ok.injEq,and_true] at this
     simp; exact this
   . have:=hn w
     simp only [Builtin.lenOf,Sem.run_pure,Result.ok.injEq,and_true] at this
     refine qoa (w:=w) w' hw' (.inr (.inr ⟨s.den,rfl,?_⟩))
     rw [List.take_of_length_le]
     simp; exact Nat.le_of_eq this
 . trivial
theorem q3r (hr:HeapRel0 P O w0 β H w) {v:SV} {x:Value} (hv:v.den β=some x) {n:SN} (hn:(Builtin.lenOf x).run P w=.ok n.den w) {f:(Nat->BitVec 8)->R α} {φ:α->Prop}
  (hf:∀ (X:Nat->BitVec 8) (xs:List Value),xs.length=n.den->(∀ j,j<n.den->xs[j]? = some (.int .u8 ((X j).toNat:Int)))->(∀ w':World,w'.heap=w.heap->(Builtin.firstCells 1 n.den x).run P w'=.ok xs.toArray w')->(f X).Sat φ):(qej H v n f).Sat φ:=by
 unfold qej
 split
 . simp only [SV.den,Option.some.injEq] at hv; subst hv
   simp only [Builtin.lenOf,Sem.run_pure,Result.ok.injEq,and_true] at hn
   refine hf _ [] hn (fun j hj=>by omega) fun w' hw'=>qoa (w:=w) w' hw' (.inl ⟨0,rfl,rfl⟩)
 . rename_i a l c
   rw [den_slice] at hv
   obtain ⟨A,C,hA,hC,_,rfl⟩:=hv
   simp only [Builtin.lenOf,Sem.run_pure,Result.ok.injEq,and_true] at hn
   refine qgb fun e he => ?_
   have key:∀ cl:Cells,e.cells? = some cl->(qni cl a.off.den n.den f).Sat φ:=by
    intro cl hcl
    obtain ⟨ll,vs,hl,hcr,hcell⟩:=qub hr he hcl
    obtain ⟨l',hl',rfl⟩:=SA.den_some hA
    rw [hl] at hl'; cases hl'
    refine qlg hcr fun X hle hX=>hf X ((vs.drop a.off.den).take n.den) (by simp; omega) (fun j hj => ?_) fun w' hw' => ?_
    . rw [List.getElem?_take,if_pos hj,List.getElem?_drop]; exact hX j hj
    . refine qoa w' hw' (.inr (.inl ⟨_,_,_,rfl,by simp; omega,fun j y hy => ?_⟩))
      rw [List.getElem?_take] at hy
      split at hy
      . rw [List.getElem?_drop] at hy
        rw [q8a,Nat.add_assoc]; exact hcell _ _ hy
      . cases hy
   cases e with
   | own c w el=>exact key c rfl
   | row c=>exact key c rfl
   | loop=>trivial
   | deferred=>trivial
   | gone=>trivial
   | obj=>trivial
 . rename_i a k l c
   rw [qdc] at hv
   obtain ⟨A,C,hA,hC,hle,rfl⟩:=hv
   simp only [Builtin.lenOf,Sem.run_pure,Result.ok.injEq,and_true] at hn
   refine qgb fun e he => ?_
   have key:∀ cl:Cells,e.cells? = some cl->(qni cl (a.off.den+k.den) n.den f).Sat φ:=by
    intro cl hcl
    obtain ⟨ll,vs,hl,hcr,hcell⟩:=qub hr he hcl
    obtain ⟨l',hl',rfl⟩:=SA.den_some hA
    rw [hl] at hl'; cases hl'
    refine qlg hcr fun X hle hX=>hf X ((vs.drop (a.off.den+k.den)).take n.den) (by simp; omega) (fun j hj => ?_) fun w' hw' => ?_
    . rw [List.getElem?_take,if_pos hj,List.getElem?_drop]; exact hX j hj
    . refine qoa w' hw' (.inr (.inl ⟨_,_,_,rfl,by simp; omega,fun j y hy => ?_⟩))
      rw [List.getElem?_take] at hy
      split at hy
      . rename_i hj
        rw [List.getElem?_drop] at hy
        have hn':l.den=n.den:=hn
        rw [if_neg (by omega),q8a,q8a,Nat.add_assoc,Nat.add_assoc,← Nat.add_assoc a.off.den]; exact hcell _ _ hy
      . cases hy
   cases e with
   | own c w el=>exact key c rfl
   | row c=>exact key c rfl
   | loop=>trivial
   | deferred=>trivial
   | gone=>trivial
   | obj=>trivial
 . rename_i s
   simp only [SV.den,Option.some.injEq] at hv; subst hv
   simp only [Builtin.lenOf,Sem.run_pure,Result.ok.injEq,and_true] at hn
   have hsz:s.den.data.toList.length=n.den:=by simp; exact hn
   refine hf _ (s.den.data.toList.map fun b=>Value.int .u8 (b.toNat:Int)) (by simpa using hsz) (fun j hj => ?_) fun w' hw'=>qoa (w:=w) w' hw' (.inr (.inr ⟨s.den,rfl,?_⟩))
   . have hlt:j<s.den.data.size:=by simpa [← hsz] using hj
     rw [List.getElem?_map,List.getElem?_eq_getElem (by simpa using hlt)]
     simp only [Option.map_some,Array.getElem_toList]
     rw [Array.getD_eq_getD_getElem?,Array.getElem?_eq_getElem hlt]
     rfl
   . rw [List.take_of_length_le (by omega)]
 . trivial
theorem qgz (hr:HeapRel0 P O w0 β H w) {v:SV} {x:Value} (hv:v.den β=some x) {n:SN} {L:Nat} (hn:(Builtin.lenOf x).run P w=.ok L w) (hL:n.den<=L) {f:(Nat->BitVec 8)->R α} {φ:α->Prop}
  (hf:∀ (X:Nat->BitVec 8) (xs:List Value),xs.length=n.den->(∀ j,j<n.den->xs[j]? = some (.int .u8 ((X j).toNat:Int)))->(∀ w':World,w'.heap=w.heap->(Builtin.firstCells 1 n.den x).run P w'=.ok xs.toArray w')->(f X).Sat φ):(qej H v n f).Sat φ:=by
 unfold qej
 split
 . simp only [SV.den,Option.some.injEq] at hv; subst hv
   simp only [Builtin.lenOf,Sem.run_pure,Result.ok.injEq,and_true] at hn
   have hz:0=L:=hn
   refine hf _ [] (by simp; omega) (fun j hj=>by omega) fun w' hw'=>qoa (w:=w) w' hw' (.inl ⟨0,rfl,rfl⟩)
 . rename_i a l c
   rw [den_slice] at hv
   obtain ⟨A,C,hA,hC,_,rfl⟩:=hv
   simp only [Builtin.lenOf,Sem.run_pure,Result.ok.injEq,and_true] at hn
   refine qgb fun e he => ?_
   have key:∀ cl:Cells,e.cells? = some cl->(qni cl a.off.den n.den f).Sat φ:=by
    intro cl hcl
    obtain ⟨ll,vs,hl,hcr,hcell⟩:=qub hr he hcl
    obtain ⟨l',hl',rfl⟩:=SA.den_some hA
    rw [hl] at hl'; cases hl'
    refine qlg hcr fun X hle hX=>hf X ((vs.drop a.off.den).take n.den) (by simp; omega) (fun j hj => ?_) fun w' hw' => ?_
    . rw [List.getElem?_take,if_pos hj,List.getElem?_drop]; exact hX j hj
    . refine qoa w' hw' (.inr (.inl ⟨_,_,_,rfl,by simp; omega,fun j y hy => ?_⟩))
      rw [List.getElem?_take] at hy
      split at hy
      . rw [List.getElem?_drop] at hy
        rw [q8a,Nat.add_assoc]; exact hcell _ _ hy
      . cases hy
   cases e with
   | own c w el=>exact key c rfl
   | row c=>exact key c rfl
   | loop=>trivial
   | deferred=>trivial
   | gone=>trivial
   | obj=>trivial
 . rename_i a k l c
   rw [qdc] at hv
   obtain ⟨A,C,hA,hC,hle,rfl⟩:=hv
   simp only [Builtin.lenOf,Sem.run_pure,Result.ok.injEq,and_true] at hn
   refine qgb fun e he => ?_
   have key:∀ cl:Cells,e.cells? = some cl->(qni cl (a.off.den+k.den) n.den f).Sat φ:=by
    intro cl hcl
    obtain ⟨ll,vs,hl,hcr,hcell⟩:=qub hr he hcl
    obtain ⟨l',hl',rfl⟩:=SA.den_some hA
    rw [hl] at hl'; cases hl'
    refine qlg hcr fun X hle hX=>hf X ((vs.drop (a.off.den+k.den)).take n.den) (by simp; omega) (fun j hj => ?_) fun w' hw' => ?_
    . rw [List.getElem?_take,if_pos hj,List.getElem?_drop]; exact hX j hj
    . refine qoa w' hw' (.inr (.inl ⟨_,_,_,rfl,by simp; omega,fun j y hy => ?_⟩))
      rw [List.getElem?_take] at hy
      split at hy
      . rename_i hj
        rw [List.getElem?_drop] at hy
        have hn':l.den=L:=hn
        rw [if_neg (by omega),q8a,q8a,Nat.add_assoc,Nat.add_assoc,← Nat.add_assoc a.off.den]; exact hcell _ _ hy
      . cases hy
   cases e with
   | own c w el=>exact key c rfl
   | row c=>exact key c rfl
   | loop=>trivial
   | deferred=>trivial
   | gone=>trivial
   | obj=>trivial
 . rename_i s
   simp only [SV.den,Option.some.injEq] at hv; subst hv
   simp only [Builtin.lenOf,Sem.run_pure,Result.ok.injEq,and_true] at hn
   have hsz:n.den<=s.den.data.toList.length:=by have:s.den.data.size=L:=hn; simp; omega
   refine hf _ ((s.den.data.toList.map fun b=>Value.int .u8 (b.toNat:Int)).take n.den) (by rw [List.length_take,List.length_map]; omega) (fun j hj => ?_) fun w' hw'=>qoa (w:=w) w' hw' (.inr (.inr ⟨s.den,rfl,?_⟩))
   . have hlt:j<s.den.data.size:=by have:s.den.data.toList.length=s.den.data.size:=by simp
                                    omega
     rw [List.getElem?_take,if_pos hj,List.getElem?_map,List.getElem?_eq_getElem (by simpa using hlt)]
     simp only [Option.map_some,Array.getElem_toList]
     rw [Array.getD_eq_getD_getElem?,Array.getElem?_eq_getElem hlt]
     rfl
   . rw [List.map_take]
 . trivial
theorem qr0 {X Y:Nat->BitVec 8} {os xs:List Value} {l n:Nat} (h1:os.length=l) (h2:xs.length=n) (hX:∀ j,j<l->os[j]? = some (.int .u8 ((X j).toNat:Int))) (hY:∀ j,j<n->xs[j]? = some (.int .u8 ((Y j).toNat:Int))) :
  CellsRel β (.fn (qna (catB X l Y)) (l+n)) (os++xs):=by
 refine ⟨by simp [h1,h2],fun i y hy => ?_⟩
 show some (Value.int .u8 ((catB X l Y i).toNat:Int))=some y
 unfold catB
 by_cases hi:i<l
 . rw [if_pos hi]
   rw [List.getElem?_append_left (by omega),hX i hi] at hy
   exact hy
 . rw [if_neg hi]
   rw [List.getElem?_append_right (by omega),h1] at hy
   have hlt:=(List.getElem?_eq_some_iff.1 hy).1
   rw [hY (i - l) (by omega)] at hy
   exact hy
end
end
noncomputable section
variable {α:Type}
section
variable {P:Program}
def qsb (v:Value):List Value:=match v with | .agg a=>a.toList | v=>[v]
def aggV (v:Value):Bool:=match v with | .agg _=>true | _=>false
theorem qjk (v:SV):(∃ l,v=.agg l)\/∀ {γ:Type} (d:γ) (f:List SV->γ),v.asAgg d f=d:=by
 cases v <;> first | exact .inl ⟨_,rfl⟩ | exact .inr fun _ _=>rfl
theorem qkt {β:Val} {v:SV} {x:Value} (h:v.den β=some x) (hn:∀ y,v≠.val y):SV.denL β (qpe v)=some (qsb x)/\aggB v=aggV x:=by
 cases v
 case agg l =>
  simp only [SV.den,Option.map_eq_some_iff] at h
  obtain ⟨l,hl,rfl⟩:=h
  exact ⟨hl,rfl⟩
 case val y=>exact absurd rfl (hn y)
 all_goals
  have hx:qsb x=[x]/\aggV x=false:=by
   simp only [SV.den,Option.map_eq_some_iff,Option.bind_eq_some_iff,Option.some.injEq] at h
   first
    | (subst h; exact ⟨rfl,rfl⟩)
    | (obtain ⟨_,_,rfl⟩:=h; exact ⟨rfl,rfl⟩)
    | (obtain ⟨_,_,_,_,h⟩:=h; rw [q5h] at h; obtain ⟨_,rfl⟩:=h; exact ⟨rfl,rfl⟩)
    | (obtain ⟨_,_,_,_,h⟩:=h; rw [qij] at h; obtain ⟨_,rfl⟩:=h; exact ⟨rfl,rfl⟩)
    | (obtain ⟨_,_,_,_,_,_,rfl⟩:=h; exact ⟨rfl,rfl⟩)
  refine ⟨?_,hx.2.symm⟩
  rw [hx.1]
  exact denL_cons.2 ⟨x,[],h,rfl,rfl⟩
def q0f (ks:List CK) (x y:Value):Option Bool:=if aggV x=aggV y then eqVs ks (qsb x) (qsb y) else none
theorem q4r {k:CK} {a:SV} {y:Value}:q5m k a (.val y)=none:=by cases k <;> cases a <;> rfl
theorem qhz {k:CK} {a:SV} {y:Value}:q5m k (.val y) a=none:=by cases k <;> rfl
theorem qnu {β:Val} {ks:List CK} {a b:SV} {c:SB} {x y:Value} (h:qol ks a b=some c) (ha:a.den β=some x) (hb:b.den β=some y):q0f ks x y=some c.den:=by
 unfold qol at h
 cases hab:(aggB a == aggB b) with
 | false=>rw [hab] at h; cases h
 | true =>
   rw [hab] at h
   have h:q8c ks (qpe a) (qpe b)=some c:=h
   have hna:∀ y,a≠.val y:=by
    rintro y rfl
    have h:q8c ks [SV.val y] (qpe b)=some c:=h
    cases ks with
    | nil=>cases hc:qpe b <;> rw [hc] at h <;> cases h
    | cons k ks =>
      cases hc:qpe b with
      | nil=>rw [hc] at h; cases h
      | cons b' bs=>rw [hc] at h; simp [q8c,qhz] at h
   have hnb:∀ y,b≠.val y:=by
    rintro y rfl
    have h:q8c ks (qpe a) [SV.val y]=some c:=h
    cases ks with
    | nil=>cases hc:qpe a <;> rw [hc] at h <;> cases h
    | cons k ks =>
      cases hc:qpe a with
      | nil=>rw [hc] at h; cases h
      | cons b' bs=>rw [hc] at h; simp [q8c,q4r] at h
   obtain ⟨h1,h2⟩:=qkt ha hna
   obtain ⟨h3,h4⟩:=qkt hb hnb
   unfold q0f
   rw [if_pos (by rw [← h2,← h4]; simpa using hab)]
   exact qgk h h1 h3
theorem qpp {x y:Value} (h:aggV x=aggV y) (hc:qsb x=qsb y):x=y:=by
 cases x <;> cases y <;> first | (simp [qsb] at hc; first | exact hc | (rw [hc.1,hc.2]; done) | skip) | (cases h; done)
 all_goals first | (simp_all; done) | (cases h; done) | skip
theorem qiz {ks:List CK} {x y:Value} (h:q0f ks x y=some true):x=y:=by
 unfold q0f at h
 split at h
 . rename_i ha; exact qpp ha (qmu h)
 . cases h
def q2k (v:Value):Prop:=match v with | .int _ _=>True | .bool _=>True | .string _=>True | _=>False
theorem q5r:∀ {ks:List CK} {xs ys:List Value} {r:Bool},eqVs ks xs ys=some r->∀ x∈xs,q2k x
 | [],[],[],_,_=>by simp
 | k::ks,x::xs,y::ys,r,h=>by
   simp only [eqVs,Option.bind_eq_some_iff,Option.map_eq_some_iff] at h
   obtain ⟨a,ha,b,hb,_⟩:=h
   intro z hz
   rcases List.mem_cons.1 hz with rfl | hz
   . unfold eqV1 at ha
     split at ha <;> first | trivial | (cases ha; done)
   . exact q5r hb z hz
 | [],[],_::_,_,h=>by simp [eqVs] at h
 | [],_::_,_,_,h=>by simp [eqVs] at h
 | _::_,[],_,_,h=>by simp [eqVs] at h
 | _::_,_::_,[],_,h=>by simp [eqVs] at h
theorem q3k {v:Value} (h:q2k v) (n:Nat):Instr.sameBits n v v=true:=by
 cases v <;> first | (cases h; done) | (cases n <;> simp [Instr.sameBits,MapKept.bytes_beq])
theorem qpx {v:Value} (h:∀ x∈qsb v,q2k x) (n:Nat):Instr.sameBits (n+1) v v=true:=by
 cases v
 case agg a =>
  simp only [Instr.sameBits,beq_self_eq_true,Bool.true_and,List.all_eq_true]
  rintro ⟨x,y⟩ hxy
  have hz:∀ (l:List Value),(∀ x∈l,q2k x)->∀ p∈l.zip l,Instr.sameBits n p.1 p.2=true:=by
   intro l
   induction l with
   | nil=>intro _ p hp; cases hp
   | cons c l ih =>
     intro hl p hp
     rcases List.mem_cons.1 hp with rfl | hp
     . exact q3k (hl c List.mem_cons_self) n
     . exact ih (fun x hx=>hl x (List.mem_cons_of_mem _ hx)) p hp
  exact hz a.toList h (x,y) hxy
 all_goals exact q3k (h _ List.mem_cons_self) (n+1)
theorem qou {w:World} {v:Value} (h:∀ x∈qsb v,q2k x):(Instr.keyThatStays v v).run P w=.ok v w:=by
 unfold Instr.keyThatStays
 rw [qpx h 9999]
 rfl
def qcc (ks:List CK) (x:Value):List MapEntry->Nat->Option (Option (Nat × MapEntry))
 | [],_=>some none
 | e::es,i=>(q0f ks x e.key).bind fun b=>if b=true then some (some (i,e)) else qcc ks x es (i+1)
def ShapeK (P:Program) (t:TypeId) (x:Value):Prop:=∀ d,P.underlying t=some d->qbc d=aggV x
theorem ShapeK.toV {t:TypeId} {x:Value} (h:ShapeK P t x):qqe P t x (qsb x):=by
 intro d hd
 have:=h d hd
 rw [this]
 cases x <;> simp [aggV,qsb]
theorem qqp {w:World} {kt:TypeId} {ks:List CK} (hk:qxb P 8 kt=some ks) {x:Value} (hx:ShapeK P kt x):∀ (vs:List MapEntry) (i:Nat) (r:Option (Nat × MapEntry)),qcc ks x vs i=some r->(Instr.findAsking kt x vs i).run P w=.ok (r.map fun p=>(p.1,p.2.val)) w
 | [],i,r,h=>by cases h; rfl
 | e::es,i,r,h=>by
   simp only [qcc,Option.bind_eq_some_iff] at h
   obtain ⟨b,hb,h⟩:=h
   have hb':=hb
   unfold q0f at hb'
   split at hb'
   . rename_i ha
     have hy:ShapeK P kt e.key:=fun d hd=>(hx d hd).trans ha
     have hrun:=qgn (w:=w) 8 kt ks hk 10000 (by omega) _ _ _ _ _ hx.toV hy.toV hb'
     have hrun:(Op.equal kt x e.key).run P w=.ok b w:=hrun
     simp only [Instr.findAsking,Sem.run_bind,hrun,Result.andThen_ok]
     cases b
     . rw [if_neg (by simp)] at h
       simpa using qqp hk hx es (i+1) r h
     . rw [if_pos rfl] at h
       cases h
       rfl
   . cases hb'
theorem qjz {kt:TypeId} {ks:List CK} {d:TypeDesc} (hk:qxb P 8 kt=some ks) (hd:P.underlying kt=some d) (ha:qbc d=false):(d=.bool/\ks=[.b])\/(∃ q,d=.int q/\ks=[.i])\/(d=.string/\ks=[.s]):=by
 simp only [qxb,Option.bind_eq_some_iff] at hk
 obtain ⟨k,hk',h⟩:=hk
 rw [hd] at hk'; cases hk'
 cases d <;> first | (cases h; done) | (cases ha; done) | skip
 . cases h; exact .inl ⟨rfl,rfl⟩
 . cases h; exact .inr (.inl ⟨_,rfl,rfl⟩)
 . cases h; exact .inr (.inr ⟨rfl,rfl⟩)
theorem qd3 {d:TypeDesc} {ks:List CK} (hc:(d=.bool/\ks=[.b])\/(∃ q,d=.int q/\ks=[.i])\/(d=.string/\ks=[.s])) {x y:Value} {b:Bool} (h:eqVs ks [x] [y]=some b):Instr.sameNow d x y=some b:=by
 rcases hc with ⟨rfl,rfl⟩ | ⟨q,rfl,rfl⟩ | ⟨rfl,rfl⟩
 . simp only [eqVs,Option.bind_eq_some_iff,Option.map_eq_some_iff,Option.some.injEq] at h
   obtain ⟨a,h1,b',rfl,rfl⟩:=h
   cases x <;> cases y <;> simp only [eqV1,reduceCtorEq,Option.some.injEq] at h1
   subst h1
   simp [Instr.sameNow]
 . simp only [eqVs,Option.bind_eq_some_iff,Option.map_eq_some_iff,Option.some.injEq] at h
   obtain ⟨a,h1,b',rfl,rfl⟩:=h
   cases x <;> cases y <;> simp only [eqV1,reduceCtorEq] at h1
   split at h1
   . rename_i hk
     cases h1
     simp [Instr.sameNow,hk]
   . cases h1
 . simp only [eqVs,Option.bind_eq_some_iff,Option.map_eq_some_iff,Option.some.injEq] at h
   obtain ⟨a,h1,b',rfl,rfl⟩:=h
   cases x <;> cases y <;> simp only [eqV1,reduceCtorEq,Option.some.injEq] at h1
   subst h1
   simp only [Instr.sameNow,Bool.and_true,Option.some.injEq]
   rw [Bool.eq_iff_iff,MapKept.bytes_beq,decide_eq_true_iff]
theorem qqx {kt:TypeId} {ks:List CK} {d:TypeDesc} (hk:qxb P 8 kt=some ks) (hd:P.underlying kt=some d) (ha:qbc d=false) {x:Value} (hx:ShapeK P kt x):∀ (vs:List MapEntry) (i:Nat) (r:Option (Nat × MapEntry)),qcc ks x vs i=some r->Instr.findNow d x vs i=some (r.map fun p=>(p.1,p.2.val))
 | [],i,r,h=>by cases h; rfl
 | e::es,i,r,h=>by
   simp only [qcc,Option.bind_eq_some_iff] at h
   obtain ⟨b,hb,h⟩:=h
   have hsame:Instr.sameNow d x e.key=some b:=by
    unfold q0f at hb
    split at hb
    . rename_i hag
      have hxa:aggV x=false:=(hx d hd).symm.trans ha
      have hea:aggV e.key=false:=hag.symm.trans hxa
      have c1:qsb x=[x]:=by cases x <;> first | rfl | (cases hxa; done)
      have c2:qsb e.key=[e.key]:=by
       generalize e.key=y at hea
       cases y <;> first | rfl | (cases hea; done)
      rw [c1,c2] at hb
      exact qd3 (qjz hk hd ha) hb
    . cases hb
   unfold Instr.findNow
   rw [hsame]
   cases b
   . rw [if_neg (by simp)] at h
     exact qqx hk hd ha hx es (i+1) r h
   . rw [if_pos rfl] at h; cases h; rfl
theorem q5c {w:World} {kt:TypeId} {ks:List CK} (hk:qxb P 8 kt=some ks) {x:Value} (hx:ShapeK P kt x) {vs:List MapEntry} {r:Option (Nat × MapEntry)} (h:qcc ks x vs 0=some r) :
  (Instr.findKey kt x vs).run P w=.ok (r.map fun p=>(p.1,p.2.val)) w:=by
 obtain ⟨d,hd,_⟩:=qen hk
 cases ha:qbc d with
 | false =>
   have:=qqx hk hd ha hx vs 0 r h
   simp [Instr.findKey,qaa hd,this]
 | true =>
   rw [run_findKey_eq w (by rw [hd]; cases d <;> first | rfl | (cases ha; done))]
   exact qqp hk hx vs 0 r h
theorem qrp {w:World} {em:Bool} {D:Nat} {e:TypeId} {ks:List CK} {d:Nat} (hk:qxb P d e=some ks) (hc:∀ x xs,qqe P e x xs->xs.length=ks.length->(Instr.checkKey em D e x).run P w=.ok () w) {i:TypeInfo} (hi:P.info? e=some i) (hs:i.size=ks.length) {xs:List Value} :
  ∀ (m s:Nat),(s+m) * ks.length<=xs.length->((forIn (List.range' s m) PUnit.unit fun j (_:PUnit)=>do
    let c ← sizeOf e
    let a ← part e xs.toArray (j * c)
    Instr.checkKey em D e a
    pure (ForInStep.yield PUnit.unit)):Sem PUnit).run P w=.ok PUnit.unit w
 | 0,s,_=>by simp
 | m+1,s,hle=>by
   have hl:((xs.drop (s * ks.length)).take ks.length).length=ks.length:=by
    rw [List.length_take,List.length_drop]
    have:(s+(m+1)) * ks.length=s * ks.length+m * ks.length+ks.length:=by rw [Nat.add_mul,Nat.add_mul]; omega
    omega
   obtain ⟨a,ha,sa⟩:=qkf (w:=w) hk hl
   have ih:=qrp hk hc hi hs (xs:=xs) m (s+1) (by rw [show s+1+m=s+(m+1) from by omega]; exact hle)
   rw [List.range'_succ,List.forIn_cons]
   simp only [Sem.run_bind,q3a hi,hs,Result.andThen_ok,ha,hc _ _ sa hl,Sem.run_pure]
   exact ih
theorem qmn {w:World} {em:Bool} {D d:Nat} (hc:∀ e ks,qxb P d e=some ks->∀ x xs,qqe P e x xs->xs.length=ks.length->(Instr.checkKey em D e x).run P w=.ok () w) {xs:List Value} :
  ∀ (fs:List Field) (off:Nat) (ks:List CK),qhg (fun e=>qxb P d e) fs off=some ks->off+ks.length<=xs.length->((forIn fs PUnit.unit fun f (_:PUnit)=>do
    if f.name ≠ "_" then
     let a ← part f.type xs.toArray f.offset
     Instr.checkKey em D f.type a
     pure (ForInStep.yield PUnit.unit)
    else pure (ForInStep.yield PUnit.unit)):Sem PUnit).run P w=.ok PUnit.unit w
 | [],off,ks,_,_=>by simp
 | f::fs,off,ks,hk,hle=>by
   simp only [qhg,Option.bind_eq_some_iff] at hk
   obtain ⟨ls,hls,hk⟩:=hk
   split at hk
   . rename_i hcn
     obtain ⟨ho,hn⟩:=hcn
     simp only [Option.map_eq_some_iff] at hk
     obtain ⟨ms,hms,rfl⟩:=hk
     rw [q1a,List.length_append] at hle
     rw [qha] at hms
     have hl:((xs.drop f.offset).take ls.length).length=ls.length:=by
      rw [List.length_take,List.length_drop,ho]; omega
     obtain ⟨a,ha,sa⟩:=qkf (w:=w) hls hl
     have ih:=qmn hc (xs:=xs) fs _ ms hms (by omega)
     rw [List.forIn_cons]
     simp only [Sem.run_bind,ne_eq,hn,not_false_eq_true,if_true,ha,Result.andThen_ok,hc _ _ hls _ _ sa hl,Sem.run_pure]
     exact ih
   . cases hk
theorem qe3 {w:World} {em:Bool}:∀ (d:Nat) (t:TypeId) (ks:List CK),qxb P d t=some ks->∀ D,d<=D->∀ (x:Value) (xs:List Value),qqe P t x xs->xs.length=ks.length->(Instr.checkKey em D t x).run P w=.ok () w:=by
 intro d
 induction d with
 | zero=>intro t ks h; cases h
 | succ d ih =>
   intro t ks h D hD x xs hx hl
   obtain ⟨D,rfl⟩:∃ D',D=D'+1:=⟨D - 1,by omega⟩
   simp only [qxb,Option.bind_eq_some_iff] at h
   obtain ⟨k,hk,h⟩:=h
   have hx:=hx k hk
   have hu:=qaa (w:=w) hk
   unfold Instr.checkKey
   simp only [Sem.run_bind,hu,Result.andThen_ok]
   cases k <;> first | (cases h; done) | skip
   case bool=>rfl
   case int=>rfl
   case string=>rfl
   case array n e =>
    simp only [Option.bind_eq_some_iff] at h
    obtain ⟨ls,hls,i,hi,h⟩:=h
    split at h
    . rename_i hsz
      obtain ⟨rfl,_⟩:=qve h
      rw [if_pos (by simp [qbc])] at hx
      subst hx
      rw [qha] at hsz
      have hlen:∀ n:Nat,(repL ls n).length=n * ls.length:=by
       intro n
       induction n with
       | zero=>show ([]:List CK).length=_; simp
       | succ n ihn =>
         show (app ls (repL ls n)).length=_
         rw [q1a,List.length_append,ihn,Nat.add_mul]; omega
      rw [hlen] at hl
      have:=qrp (w:=w) (em:=em) (D:=D) hls (fun x xs sx hxl=>ih e ls hls D (by omega) x xs sx hxl) hi hsz (xs:=xs) n 0 (by rw [Nat.zero_add]; omega)
      simp only [Std.Legacy.Range.forIn_eq_forIn_range',Std.Legacy.Range.size,Nat.sub_zero,Nat.add_one_sub_one,Nat.div_one]
      simpa using this
    . cases h
   case struct fs =>
    simp only at h
    split at h
    . cases h
    . simp only [Option.bind_eq_some_iff] at h
      obtain ⟨ls,hls,h⟩:=h
      obtain ⟨rfl,_⟩:=qve h
      rw [if_pos (by simp [qbc])] at hx
      subst hx
      have:=qmn (w:=w) (em:=em) (D:=D) (fun e ks he x xs sx hxl=>ih e ks he D (by omega) x xs sx hxl) (xs:=xs) fs.toList 0 _ hls (by omega)
      dsimp only
      rw [← Array.forIn_toList]
      simpa using this
end
end
noncomputable section
variable {α:Type}
theorem Eff.turnO {P:Program} {β:Val} {w:World} {base n:Nat} {l:Loc} {o:SObj} {x y:Obj} (hl:β n=some l) (h0:l.off=0) (hb:w.heap[l.blk]? = some y) (hd:o.den β=some x) :
  Eff P β w base [(n,.obj o)] [] β { w with heap:=w.heap.setIfInBounds l.blk x }:=by
 have hlt:l.blk<w.heap.size:=(Array.getElem?_eq_some_iff.1 hb).1
 exact Eff.turn hl ⟨l,x,hl,h0,hd,by simp [hlt]⟩
theorem OwnRel.drew {P:Program} {β:Val} {w:World} {n:Nat} {e:SO} (h:OwnRel P β w n e) (d:Nat):OwnRel P β { w with drawn:=d } n e:=by cases e <;> exact h
theorem Eff.drew {P:Program} {β β':Val} {w w':World} {base:Nat} {sets:List (Nat × SO)} {news:List SO} (h:Eff P β w base sets news β' w') (d:Nat) (hd:w'.drawn<=d):Eff P β w base sets news β' { w' with drawn:=d } :=
 ⟨h.le,h.os,h.tape,h.output,Nat.le_trans h.drawn hd,h.size,h.dom,h.frame,h.one,fun n e hn=>(h.turned n e hn).drew d,fun i e he=>let ⟨a,b,c⟩:=h.made i e he; ⟨a,b.drew d,c⟩,h.apart⟩
theorem Eff.allocO {P:Program} {β:Val} {w w':World} {base:Nat} {o:SObj} {x:Obj} (hb:β base=Option.none)
  (hh:w'.heap=w.heap.push x) (ho:w'.os=w.os) (ht:w'.tape=w.tape) (hu:w'.output=w.output) (hd:o.den β=some x) (hdr:w.drawn<=w'.drawn:=by first | exact Nat.le_refl _ | exact Nat.le_succ _ | exact Nat.le_succ_of_le (Nat.le_succ _)) :
  Eff P β w base [] [.obj o] (β.upd base ⟨w.heap.size,0,0⟩) w' where
 le:=Val.upd_le hb
 os:=ho
 tape:=ht
 output:=hu
 drawn:=hdr
 size:=by rw [hh]; simp
 dom:=fun n hn=>by
  unfold Val.upd
  rw [if_neg]; simp at hn; omega
 frame:=fun b hb _=>by rw [hh,Array.getElem?_push,if_neg (by omega)]
 one:=by simp
 turned:=by simp
 made:=fun i e he=>by
  cases i with
  | zero =>
    simp at he; subst he
    refine ⟨rfl,⟨⟨w.heap.size,0,0⟩,x,Val.upd_same _ _ _,rfl,SObj.den_mono (Val.upd_le hb) hd,?_⟩,_,Val.upd_same _ _ _,.inl (Nat.le_refl _)⟩
    rw [hh]; simp
  | succ i=>simp at he
 apart:=fun i j l l' hij hi hj=>by simp at hi hj; omega
section
variable {P:Program} {O:Nat->Prop} {w0:World} {β:Val} {H:List SO} {w:World} {base:Nat}
variable {ev:Operand->SV} {ρ:Operand->Value} {dst:Option Tmp} {t:TypeId} {pos:String} {af:Array Edge} {g:Option (Nat × Bool)}
theorem qiq (hr:HeapRel0 P O w0 β H w) {v:SV} {x:Value} (hv:v.den β=some x) {nil:R α} {f:Nat->List (SV × SV × Nat)->Nat->R α} {φ:α->Prop} (h0:x=.map none->nil.Sat φ)
  (h:∀ nm es c l vs,v=.map nm->x=.map (some l.blk)->β nm=some l->l.off=0->H[nm]? = some (.obj (.map es c))->qma β es=some vs->w.heap[l.blk]? = some (.map vs.toArray c)->(f nm es c).Sat φ):(mapH H v nil f).Sat φ:=by
 unfold mapH
 split
 . cases hv; exact h0 rfl
 . rename_i nm
   split
   . rename_i es c he
     rw [qca] at he
     obtain ⟨l,o,hl,hz,hd,hh⟩:=hr.entries _ _ he
     simp only [SObj.den,Option.map_eq_some_iff] at hd
     obtain ⟨vs,hvs,rfl⟩:=hd
     simp only [SV.den,hl,Option.map_some,Option.some.injEq] at hv
     exact h nm es c l vs rfl hv.symm hl hz he hvs hh
   . trivial
 . trivial
theorem qlj (hr:HeapRel0 P O w0 β H w) {v:SV} {x:Value} (hv:v.den β=some x) {nil:R α} {f:Nat->List (SV × SV × Nat)->Nat->R α} {g:Nat->MSh->MSh->List MapEntry->Nat->R α} {φ:α->Prop} (h0:x=.map none->nil.Sat φ)
  (h:∀ nm es c l vs,v=.map nm->x=.map (some l.blk)->β nm=some l->l.off=0->H[nm]? = some (.obj (.map es c))->qma β es=some vs->w.heap[l.blk]? = some (.map vs.toArray c)->(f nm es c).Sat φ)
  (hA:∀ nm kS vS es c l,v=.map nm->x=.map (some l.blk)->β nm=some l->l.off=0->H[nm]? = some (.obj (.amap kS vS es c))->(∀ e∈es,kS.fit e.key/\vS.fit e.val)->w.heap[l.blk]? = some (.map es.toArray c)->(g nm kS vS es c).Sat φ):(mapG H v nil f g).Sat φ:=by
 unfold mapG
 split
 . cases hv; exact h0 rfl
 . rename_i nm
   split
   . rename_i es c he
     rw [qca] at he
     obtain ⟨l,o,hl,hz,hd,hh⟩:=hr.entries _ _ he
     simp only [SObj.den,Option.map_eq_some_iff] at hd
     obtain ⟨vs,hvs,rfl⟩:=hd
     simp only [SV.den,hl,Option.map_some,Option.some.injEq] at hv
     exact h nm es c l vs rfl hv.symm hl hz he hvs hh
   . rename_i kS vS es c he
     rw [qca] at he
     obtain ⟨l,o,hl,hz,hd,hh⟩:=hr.entries _ _ he
     obtain ⟨hfit,rfl⟩:=SObj.amap_den.1 hd
     simp only [SV.den,hl,Option.map_some,Option.some.injEq] at hv
     exact hA nm kS vS es c l rfl hv.symm hl hz he hfit hh
   . trivial
 . trivial
theorem qrx (b:BitVec 8):BitVec.ofInt 8 (b.toNat:Int)=b:=by simp
theorem qnv (b:BitVec 32):BitVec.ofInt 32 (b.toNat:Int)=b:=by simp
theorem qov (b:BitVec 64):BitVec.ofInt 64 (b.toNat:Int)=b:=by simp
theorem qpu {k:SK} {v:SV} {y:Value} (h:fit1 k v=true) (hv:valC v=some y):fitK k y:=by
 unfold fit1 at h
 split at h
 . rename_i n
   cases hn:si8 n with
   | none=>rw [hn] at h; cases h
   | some b =>
     cases hv
     intro β
     show some (Value.int .u8 ((BitVec.ofInt 8 n.den).toNat:Int))=_
     rw [qgq hn,qrx]
 . rename_i b
   cases hv
   intro β
   show some (Value.int .u32 ((BitVec.ofInt 32 (b.toNat:Int)).toNat:Int))=_
   rw [qnv]; rfl
 . rename_i b
   cases hv
   intro β
   show some (Value.int .u64 ((BitVec.ofInt 64 (b.toNat:Int)).toNat:Int))=_
   rw [qov]; rfl
 . cases hv; exact fun _=>rfl
 . cases hv; exact fun _=>rfl
 . cases hv; exact fun _=>rfl
 . cases h
theorem q75 {v:SV} (h:fit1 .v v=true):False:=by
 unfold fit1 at h
 split at h <;> first | (rename_i h1 _; cases h1; done) | (rename_i h1; cases h1; done) | (cases h; done) | skip
theorem qsx {q:IntKind} {x:Value} (h:fitK (.i q) x):x=.int q (siK q (vNum x)).den:=(Option.some.inj (show some (Value.int q (siK q (vNum x)).den)=some x from h fun _=>none)).symm
theorem qtx {x:Value} (h:fitK .b x):x=.bool (vBoo x):=(Option.some.inj (show some (Value.bool (vBoo x))=some x from h fun _=>none)).symm
theorem qux {x:Value} (h:fitK .s x):x=.string (vStr x):=(Option.some.inj (show some (Value.string (vStr x))=some x from h fun _=>none)).symm
theorem qk9 {k:SK} {c:CK} {a b:Value} (hk:k≠.v) (ha:fitK k a) (hb:fitK k b) {r:Bool} (h:eqV1 c a a=some r):eqV1 c a b=some (@decide (a=b) (Classical.propDecidable _)):=by
 cases k with
 | v=>exact absurd rfl hk
 | i q =>
   have ha:=qsx ha
   have hb:=qsx hb
   generalize (siK q (vNum a)).den=m at ha
   generalize (siK q (vNum b)).den=n at hb
   subst ha hb
   cases c <;> simp only [eqV1,reduceCtorEq] at h
   simp only [eqV1,if_true,Option.some.injEq]
   rw [Bool.eq_iff_iff]
   simp
 | b =>
   have ha:=qtx ha
   have hb:=qtx hb
   generalize vBoo a=m at ha
   generalize vBoo b=n at hb
   subst ha hb
   cases c <;> simp only [eqV1,reduceCtorEq] at h
   simp only [eqV1,Option.some.injEq]
   rw [Bool.eq_iff_iff]
   simp
 | s =>
   have ha:=qux ha
   have hb:=qux hb
   generalize vStr a=m at ha
   generalize vStr b=n at hb
   subst ha hb
   cases c <;> simp only [eqV1,reduceCtorEq] at h
   simp only [eqV1,Option.some.injEq]
   rw [Bool.eq_iff_iff]
   simp
def q4l:List SK->List Value->Prop
 | [],[]=>True
 | k::ks,x::xs=>fitK k x/\q4l ks xs
 | _,_=>False
theorem q6r:∀ {ks:List SK} {l:List SV} {xs:List Value},qyj ks l=true->qfc l=some xs->q4l ks xs/\.v ∉ ks
 | [],[],xs,_,h=>by cases h; exact ⟨trivial,by simp⟩
 | k::ks,v::l,xs,hf,h=>by
   have hf:boolC (fit1 k v) (qyj ks l) false=true:=hf
   cases h1:fit1 k v with
   | false=>rw [h1] at hf; cases hf
   | true =>
     rw [h1] at hf
     have hf:qyj ks l=true:=hf
     have h:(optC (valC v) none fun x=>optC (qfc l) none fun xs=>some (x::xs))=some xs:=h
     cases h2:valC v with
     | none=>rw [h2] at h; cases h
     | some x =>
       rw [h2] at h
       have h:(optC (qfc l) none fun xs=>some (x::xs))=some xs:=h
       cases h3:qfc l with
       | none=>rw [h3] at h; cases h
       | some us =>
         rw [h3] at h; cases h
         obtain ⟨h4,h5⟩:=q6r hf h3
         refine ⟨⟨qpu h1 h2,h4⟩,?_⟩
         simp only [List.mem_cons,not_or]
         exact ⟨fun e=>q75 (e▸h1),h5⟩
 | [],_::_,_,h,_=>by cases h
 | _::_,[],_,h,_=>by cases h
theorem qqu {xs:List Value} {j:Nat}:q6f (.agg xs.toArray) j=xs.getD j undef:=rfl
theorem qru {β:Val} {xs:List Value}:∀ {ks:List SK} {ys:List Value} {j:Nat},q4l ks ys->(∀ i,xs.getD (j+i) undef=ys.getD i undef)->SV.denL β (qio (.agg xs.toArray) ks j)=some ys
 | [],[],_,_,_=>rfl
 | k::ks,y::ys,j,h,hx=>by
   refine denL_cons.2 ⟨y,ys,?_,qru h.2 fun i => ?_,rfl⟩
   . rw [qqu]
     have:=hx 0
     rw [Nat.add_zero] at this
     rw [this]
     exact h.1 β
   . have:=hx (i+1)
     rw [show j+1+i=j+(i+1) from by omega,this]; rfl
 | [],_::_,_,h,_=>h.elim
 | _::_,[],_,h,_=>h.elim
theorem qsu {xs:List Value}:∀ {ks:List SK} {ys:List Value} {j:Nat},(∀ β,SV.denL β (qio (.agg xs.toArray) ks j)=some ys)->(∀ i,xs.getD (j+i) undef=ys.getD i undef)->q4l ks ys
 | [],ys,_,h,_=>by
   have:=Option.some.inj (h fun _=>none)
   subst this; trivial
 | k::ks,ys,j,h,hx=>by
   obtain ⟨y,zs,hy,hzs,rfl⟩:=denL_cons.1 (h fun _=>none)
   have hy':q6f (.agg xs.toArray) j=y:=by
    rw [qqu]
    have:=hx 0
    rw [Nat.add_zero] at this
    exact this
   refine ⟨fun β => ?_,qsu (xs:=xs) (j:=j+1) (fun β => ?_) fun i => ?_⟩
   . obtain ⟨y',zs',h1,h2,h3⟩:=denL_cons.1 (h β)
     cases h3
     rw [hy'] at h1; exact h1
   . obtain ⟨y',zs',h1,h2,h3⟩:=denL_cons.1 (h β)
     cases h3
     exact h2
   . have:=hx (i+1)
     rw [show j+1+i=j+(i+1) from by omega,this]; rfl
theorem MSh.fit_cells {s:MSh} {x:Value} (h:s.fit x) (hone:s.agg=false->∃ k,s.cells=[k]/\k≠.v):aggV x=s.agg/\q4l s.cells (qsb x):=by
 obtain ⟨ag,ks⟩:=s
 cases ag with
 | true =>
   have h0:=h fun _=>none
   have h0:((SV.denL (fun _=>none) (qio x ks 0)).map fun l=>Value.agg l.toArray)=some x:=h0
   rw [Option.map_eq_some_iff] at h0
   obtain ⟨ys,hys,rfl⟩:=h0
   refine ⟨rfl,?_⟩
   refine qsu (xs:=ys) (ys:=ys) (j:=0) (fun β => ?_) fun i=>by rw [Nat.zero_add]
   have hb:((SV.denL β (qio (.agg ys.toArray) ks 0)).map fun l=>Value.agg l.toArray)=some (.agg ys.toArray):=h β
   rw [Option.map_eq_some_iff] at hb
   obtain ⟨zs,hzs,he⟩:=hb
   have:zs=ys:=by
    have:=congrArg (fun v=>match v with | Value.agg a=>a.toList | _=>[]) he
    simpa using this
   rw [this] at hzs; exact hzs
 | false =>
   obtain ⟨k,hk,hv⟩:=hone rfl
   have hk:ks=[k]:=hk
   subst hk
   have hf:fitK k x:=h
   have key:aggV x=false/\qsb x=[x]:=by
    cases k with
    | v=>exact absurd rfl hv
    | i q=>rw [qsx hf]; exact ⟨rfl,rfl⟩
    | b=>rw [qtx hf]; exact ⟨rfl,rfl⟩
    | s=>rw [qux hf]; exact ⟨rfl,rfl⟩
   rw [key.2]
   exact ⟨key.1,hf,trivial⟩
theorem q5l {s:MSh} {v:SV} {K:Value} (h:qnl s v=some K):(∀ β,v.den β=some K)/\s.fit K/\.v ∉ s.cells/\(s.agg=false->∃ k,s.cells=[k]/\k≠.v):=by
 obtain ⟨ag,ks⟩:=s
 cases ag with
 | true =>
   have h:(v.asAgg none fun l=>boolC (qyj ks l) ((qfc l).map fun xs=>.agg xs.toArray) none)=some K:=h
   rcases qjk v with ⟨l,rfl⟩ | hno
   . have h:boolC (qyj ks l) ((qfc l).map fun xs=>Value.agg xs.toArray) none=some K:=h
     cases hf:qyj ks l with
     | false=>rw [hf] at h; cases h
     | true =>
       rw [hf] at h
       have h:(qfc l).map (fun xs=>Value.agg xs.toArray)=some K:=h
       rw [Option.map_eq_some_iff] at h
       obtain ⟨xs,hxs,rfl⟩:=h
       obtain ⟨h1,h2⟩:=q6r hf hxs
       refine ⟨fun β => ?_,fun β => ?_,h2,fun h=>by cases h⟩
       . show (SV.denL β l).map _=_
         rw [qfx hxs β]; rfl
       . show (SV.denL β (qio (.agg xs.toArray) ks 0)).map _=_
         rw [qru h1 fun i=>by rw [Nat.zero_add]]; rfl
   . rw [hno] at h; cases h
 | false =>
   cases ks with
   | nil=>cases h
   | cons k r =>
     cases r with
     | cons=>cases h
     | nil =>
       have h:boolC (fit1 k v) (valC v) none=some K:=h
       cases hf:fit1 k v with
       | false=>rw [hf] at h; cases h
       | true =>
         rw [hf] at h
         have h:valC v=some K:=h
         have hkv:k≠.v:=fun e=>q75 (e▸hf)
         refine ⟨qet h,qpu hf h,?_,fun _=>⟨k,rfl,hkv⟩⟩
         simpa using fun e=>hkv e.symm
theorem q7r:∀ {ks:List SK} {cs:List CK} {xs ys:List Value},.v ∉ ks->q4l ks xs->q4l ks ys->∀ {r:Bool},eqVs cs xs xs=some r->eqVs cs xs ys=some (@decide (xs=ys) (Classical.propDecidable _))
 | [],cs,[],[],_,_,_,r,h=>by
   cases cs with
   | nil=>simp [eqVs]
   | cons=>simp [eqVs] at h
 | k::ks,cs,x::xs,y::ys,hv,hx,hy,r,h=>by
   cases cs with
   | nil=>simp [eqVs] at h
   | cons c cs =>
     simp only [eqVs,Option.bind_eq_some_iff,Option.map_eq_some_iff] at h ⊢
     obtain ⟨a,ha,b,hb,_⟩:=h
     simp only [List.mem_cons,not_or] at hv
     refine ⟨_,qk9 (fun e=>hv.1 e.symm) hx.1 hy.1 ha,_,q7r hv.2 hx.2 hy.2 hb,?_⟩
     rw [Bool.eq_iff_iff]
     simp
 | [],_,_::_,_,_,h,_,_,_=>h.elim
 | [],_,[],_::_,_,_,h,_,_=>h.elim
 | _::_,_,[],_,_,h,_,_,_=>h.elim
 | _::_,_,_::_,[],_,_,h,_,_=>h.elim
theorem qf3 {s:MSh} {cs:List CK} {x y:Value} (hv:.v ∉ s.cells) (hone:s.agg=false->∃ k,s.cells=[k]/\k≠.v) (hx:s.fit x) (hy:s.fit y) {r:Bool} (h:eqVs cs (qsb x) (qsb x)=some r):q0f cs x y=some (q4c x ⟨y,undef,0⟩):=by
 obtain ⟨h1,h2⟩:=MSh.fit_cells hx hone
 obtain ⟨h3,h4⟩:=MSh.fit_cells hy hone
 unfold q0f
 rw [if_pos (by rw [h1,h3]),q7r hv h2 h4 h]
 congr 1
 unfold q4c
 rw [Bool.eq_iff_iff]
 simp only [decide_eq_true_eq]
 constructor
 . intro e; exact (qpp (by rw [h1,h3]) e).symm
 . intro e; rw [e]
theorem q8r {s:MSh} {cs:List CK} {x:Value} (hv:.v ∉ s.cells) (hone:s.agg=false->∃ k,s.cells=[k]/\k≠.v) (hx:s.fit x) {r:Bool} (h:eqVs cs (qsb x) (qsb x)=some r):∀ {es:List MapEntry} {i:Nat},(∀ e∈es,s.fit e.key)->qcc cs x es i=some ((es.findIdx? (q4c x)).bind fun j=>(es[j]?).map fun e=>(i+j,e))
 | [],i,_=>rfl
 | e::es,i,he=>by
   have h1:=qf3 hv hone hx (he e List.mem_cons_self) h
   have h2:q4c x ⟨e.key,undef,0⟩=q4c x e:=rfl
   rw [h2] at h1
   simp only [qcc,h1,Option.bind_some,List.findIdx?_cons]
   cases q4c x e with
   | true=>simp
   | false =>
     simp only [Bool.false_eq_true,if_false]
     rw [q8r hv hone hx h (fun e' h'=>he e' (List.mem_cons_of_mem _ h'))]
     congr 1
     cases hf:es.findIdx? (q4c x) with
     | none=>rfl
     | some j =>
       simp only [Option.bind_some,Option.map_some]
       rw [List.getElem?_cons_succ]
       cases es[j]? with
       | none=>rfl
       | some e=>simp; omega
structure KeyOK (P:Program) (t:TypeId) (x:Value) (kt et:TypeId) (ks:List CK):Prop where
 map:P.underlying t=some (.map kt et)
 kinds:qxb P 8 kt=some ks
 shape:ShapeK P kt x
 plain:∀ y∈qsb x,q2k y
 len:(qsb x).length=ks.length
 self:∃ r,eqVs ks (qsb x) (qsb x)=some r
theorem q6l {ty:TypeId} {k:SV} {x:Value} (hk:k.den β=some x) {f:TypeId->List CK->R α} {φ:α->Prop} (h:∀ kt et ks,KeyOK P ty x kt et ks->(f et ks).Sat φ):(keyT P ty k f).Sat φ:=by
 refine R.Sat.opt fun d hd => ?_
 split
 . rename_i kt et
   refine R.Sat.opt fun kd hkd=>R.Sat.opt fun ks hks=>R.Sat.opt fun b hb=>R.Sat.boolC (fun ha => ?_) fun _=>trivial
   have hs:=qnu hb hk hk
   unfold q0f at hs
   rw [if_pos rfl] at hs
   have hag:aggB k=aggV x:=by
    have hn:∀ y,k≠.val y:=by
     rintro y rfl
     unfold qol at hb
     cases hks':ks with
     | nil=>rw [hks'] at hb; cases hb
     | cons c cs=>rw [hks'] at hb; simp [qpe,SV.asAgg,aggB,boolC,q8c,q4r] at hb
    exact (qkt hk hn).2
   refine h kt et ks ⟨hd,hks,fun d hd' => ?_,q5r hs,(qyh hs).1,⟨_,hs⟩⟩
   rw [hkd] at hd'; cases hd'
   rw [← hag]; simpa using ha
 . trivial
theorem KeyOK.check {ty:TypeId} {x:Value} {kt et:TypeId} {ks:List CK} (h:KeyOK P ty x kt et ks) (e:Bool):(Instr.checkKey e 10000 kt x).run P w=.ok () w :=
 qe3 8 kt ks h.kinds 10000 (by omega) x _ h.shape.toV h.len
theorem qih {es:List (SV × SV × Nat)}:∀ {vs:List MapEntry},qma β es=some vs->vs.length=es.length:=by
 induction es with
 | nil=>intro vs h; cases h; rfl
 | cons a r ih =>
   intro vs h
   simp only [qma,Option.bind_eq_some_iff,Option.map_eq_some_iff] at h
   obtain ⟨k,hk,v,hv,rs,hr,rfl⟩:=h
   simp [ih hr]
theorem qkk {es:List (SV × SV × Nat)}:∀ {vs:List MapEntry} (_:qma β es=some vs) {i:Nat} {e:SV × SV × Nat} {v:MapEntry} (_:e.1.den β=some v.key) (_:e.2.1.den β=some v.val) (_:v.born=e.2.2),qma β (es.set i e)=some (vs.set i v):=by
 induction es with
 | nil=>intro vs h i e v _ _ _; cases h; rfl
 | cons a r ih =>
   intro vs h i e v h1 h2 h3
   simp only [qma,Option.bind_eq_some_iff,Option.map_eq_some_iff] at h
   obtain ⟨k,hk,u,hv,rs,hr,rfl⟩:=h
   obtain ⟨vk,vv,vb⟩:=v
   cases i with
   | zero=>simp only [List.set_cons_zero,qma,h1,h2,hr,Option.bind_some,Option.map_some]; simp only at h3; rw [h3]
   | succ i=>simp only [List.set_cons_succ,qma,hk,hv,ih hr h1 h2 h3,Option.bind_some,Option.map_some]
theorem qjh {es fs:List (SV × SV × Nat)}:∀ {vs us:List MapEntry},qma β es=some vs->qma β fs=some us->qma β (es++fs)=some (vs++us):=by
 induction es with
 | nil=>intro vs us h k; cases h; exact k
 | cons a r ih =>
   intro vs us h k
   simp only [qma,Option.bind_eq_some_iff,Option.map_eq_some_iff] at h
   obtain ⟨x,hk,u,hv,rs,hr,rfl⟩:=h
   simp only [List.cons_append,qma,hk,hv,ih hr k,Option.bind_some,Option.map_some]
theorem q85 {γ:Type} (l:List γ) (n:Nat):q94 l n=l.eraseIdx n:=by
 induction l generalizing n with
 | nil=>rfl
 | cons a t ih=>cases n with
   | zero=>rfl
   | succ n=>exact congrArg (a :: ·) (ih n)
theorem qpv {es:List (SV × SV × Nat)}:∀ {vs:List MapEntry} (_:qma β es=some vs) (i:Nat),qma β (es.eraseIdx i)=some (vs.eraseIdx i):=by
 induction es with
 | nil=>intro vs h i; cases h; rfl
 | cons a r ih =>
   intro vs h i
   simp only [qma,Option.bind_eq_some_iff,Option.map_eq_some_iff] at h
   obtain ⟨k,hk,u,hv,rs,hr,rfl⟩:=h
   cases i with
   | zero=>simpa using hr
   | succ i=>simp only [List.eraseIdx_cons_succ,qma,hk,hv,ih hr i,Option.bind_some,Option.map_some]
theorem qbi {ks:List CK} {k:SV} {x:Value} (hk:k.den β=some x) {yes:Nat->SV × SV × Nat->R α} {no:R α} {φ:α->Prop}:∀ {es:List (SV × SV × Nat)} {vs:List MapEntry} (i:Nat),qma β es=some vs ->
  (∀ j e v,es[j]? = some e->vs[j]? = some v->e.1.den β=some v.key->e.2.1.den β=some v.val->v.born=e.2.2->v.key=x->qcc ks x vs i=some (some (i+j,v))->(yes (i+j) e).Sat φ)->(qcc ks x vs i=some none->no.Sat φ)->(qzj ks k yes no es i).Sat φ
 | [],vs,i,h,_,h0=>by cases h; exact h0 rfl
 | e::es,vs,i,h,h1,h0=>by
   simp only [qma,Option.bind_eq_some_iff,Option.map_eq_some_iff] at h
   obtain ⟨ky,hky,u,hu,rs,hrs,rfl⟩:=h
   show (optC (qol ks k e.1) (R.stuck 852) fun b=>SB.rec (motive:=fun _=>R α) (fun b=>boolC b (yes i e) (qzj ks k yes no es (i+1))) (fun b=>.fork b (yes i e) (qzj ks k yes no es (i+1))) b).Sat φ
   cases hs:qol ks k e.1 with
   | none=>trivial
   | some b =>
     have hv:=qnu hs hk hky
     have hyes:b.den=true->(yes i e).Sat φ:=fun hb=>by
      rw [hb] at hv
      have:=h1 0 e ⟨ky,u,e.2.2⟩ rfl rfl hky hu rfl (qiz hv).symm (by simp [qcc,hv])
      simpa using this
     have hno:b.den=false->(qzj ks k yes no es (i+1)).Sat φ:=fun hb=>by
      rw [hb] at hv
      have hstep:∀ r,qcc ks x rs (i+1)=some r->qcc ks x (⟨ky,u,e.2.2⟩::rs) i=some r:=fun r hr=>by simp [qcc,hv,hr]
      refine qbi hk (i+1) hrs (fun j e' v he hv' a1 a2 a3 a4 hf => ?_) fun hf=>h0 (hstep _ hf)
      have:=h1 (j+1) e' v (by simpa using he) (by simpa using hv') a1 a2 a3 a4 (by rw [show i+(j+1)=i+1+j from by omega]; exact hstep _ hf)
      rw [show i+1+j=i+(j+1) from by omega]; exact this
     cases b with
     | lit b=>exact R.Sat.boolC hyes hno
     | sym b=>exact ⟨hyes,hno⟩
theorem q9r {ty:TypeId} {v:SV} (h:q5v P ty=some v):∃ x,(zeroValue ty).run P w=.ok x w/\∀ β,v.den β=some x:=by
 simp only [q5v,Option.map_eq_some_iff,Option.bind_eq_some_iff] at h
 obtain ⟨x,⟨i,hi,hx⟩,rfl⟩:=h
 exact ⟨x,qvc hi hx,fun β=>q0g β x⟩
theorem q4k {ok b:Bool} {v:SV} {x:Value} (h:v.den β=some x):(okT ok v b).den β=some (if ok then .tuple #[x,.bool b] else x):=by
 cases ok with
 | true=>simp [okT,boolC,SV.den,SV.denL,h,SB.den]
 | false=>exact h
theorem qkb {r:Nat} {es:Array MapEntry} {c:Nat} (h:w.heap[r]? = some (.map es c)):(getObj r).run P w=.ok (.map es c) w:=MapKept.run_getObj_map h
theorem q6c {r:Nat} {es:Array MapEntry} {c:Nat} {o':Obj} (h:w.heap[r]? = some (.map es c)):(setObj r o').run P w=.ok () { w with heap:=w.heap.setIfInBounds r o' }:=MapKept.run_setObj_map o' h
theorem qvx {ty:TypeId} {r:Option Operand} (hev:∀ x,r=some x->(ev x).den β=some (ρ x)) :
  (q9p ty r P ev H base).Sat (qea P H β w base ((execOp ρ ⟨dst,.makeMap ty r,t,pos,af,g⟩).run P w)):=by
 have key:(execOp ρ ⟨dst,.makeMap ty r,t,pos,af,g⟩).run P w=.ok (.value (.map (some w.heap.size))) { w with heap:=w.heap.push (.map #[] 0) } ->
   (R.ok (OpRes.val (.map base) [] [.obj (.map [] 0)])).Sat (qea P H β w base ((execOp ρ ⟨dst,.makeMap ty r,t,pos,af,g⟩).run P w)):=by
  intro hrun hb
  refine ⟨_,_,_,β.upd base ⟨w.heap.size,0,0⟩,hrun,rfl,?_,Eff.allocO hb.hd rfl rfl rfl rfl rfl,by simp⟩
  simp [SV.den,Val.upd_same]
 unfold q9p
 cases r with
 | none=>exact key rfl
 | some h =>
   have hx:=hev h rfl
   dsimp only
   split
   . rename_i k n he
     rw [he] at hx
     simp only [SV.den,Option.some.injEq] at hx
     refine R.Sat.opt fun d hd => ?_
     split
     . refine key ?_
       simp [execOp,Instr.makeMap,qaa hd,← hx,asInt,asIntOf,newObj]
       rfl
     . trivial
   . trivial
theorem q95 {es:List MapEntry} {K:Value} (h:hasK es K=true):∃ j e,es.findIdx? (q4c K)=some j/\es[j]? = some e/\e.key=K/\getK es K=e.val/\e∈es:=by
 induction es with
 | nil=>cases h
 | cons a es ih =>
   unfold hasK at h
   rw [List.any_cons] at h
   by_cases ha:q4c K a=true
   . refine ⟨0,a,?_,rfl,?_,?_,List.mem_cons_self⟩
     . rw [List.findIdx?_cons,if_pos ha]
     . unfold q4c at ha; exact @of_decide_eq_true _ (Classical.propDecidable _) ha
     . unfold getK
       rw [List.find?_cons,ha]; rfl
   . have ha':q4c K a=false:=by simpa using ha
     rw [ha',Bool.false_or] at h
     obtain ⟨j,e,h1,h2,h3,h4,h5⟩:=ih h
     refine ⟨j+1,e,?_,by simpa using h2,h3,?_,List.mem_cons_of_mem _ h5⟩
     . rw [List.findIdx?_cons,if_neg ha,h1]; rfl
     . rw [← h4]
       unfold getK
       rw [List.find?_cons,ha']
theorem qg3 {es:List MapEntry} {K:Value} (h:hasK es K=false):es.findIdx? (q4c K)=none:=by
 rw [List.findIdx?_eq_none_iff]
 intro e he
 unfold hasK at h
 rw [List.any_eq_false] at h
 simpa using h e he
theorem qlk {ty:TypeId} {kt et:TypeId} {ks:List CK} {v:SV} {x K:Value} {kS:MSh} {es:List MapEntry} (hK:qnl kS v=some K) (hv:v.den β=some x) (ko:KeyOK P ty x kt et ks) (hfit:∀ e∈es,kS.fit e.key) :
  x=K/\kS.fit K/\(hasK es K=true->∃ j e,es.findIdx? (q4c K)=some j/\es[j]? = some e/\e.key=K/\getK es K=e.val/\e∈es/\qcc ks x es 0=some (some (j,e)))/\(hasK es K=false->qcc ks x es 0=some none/\es.findIdx? (q4c K)=none):=by
 obtain ⟨h1,h2,h3,h4⟩:=q5l hK
 have hx:x=K:=by rw [h1] at hv; exact (Option.some.inj hv).symm
 subst hx
 obtain ⟨r,hr⟩:=ko.self
 have hf:=q8r (i:=0) h3 h4 h2 hr hfit
 refine ⟨rfl,h2,fun h => ?_,fun h => ?_⟩
 . obtain ⟨j,e,a1,a2,a3,a4,a5⟩:=q95 h
   refine ⟨j,e,a1,a2,a3,a4,a5,?_⟩
   rw [hf,a1]
   simp [a2]
 . have a1:=qg3 h
   rw [hf,a1]
   exact ⟨rfl,rfl⟩
theorem q7l {nm:Nat} {l:Loc} {kS vS:MSh} {es:List MapEntry} {c:Nat} {y:Obj} {e0:SO} {res:Result Next} {nx:Next} {z:Value} {v:SV} (hl:β nm=some l) (h0:l.off=0) (hb:w.heap[l.blk]? = some y) (hd:∀ e∈es,kS.fit e.key/\vS.fit e.val) (he:H[nm]? = some e0) (ho:e0.owned=true)
  (hres:res=.ok nx { w with heap:=w.heap.setIfInBounds l.blk (.map es.toArray c) }) (hnx:qgh nx=some z) (hz:v.den β=some z):(R.ok (OpRes.val v [(nm,.obj (.amap kS vS es c))] [])).Sat (qea P H β w base res):=by
 intro _
 refine ⟨nx,z,_,β,hres,hnx,hz,Eff.turnO hl h0 hb (SObj.amap_den.2 ⟨hd,rfl⟩),?_⟩
 intro m e hm
 simp at hm
 obtain ⟨rfl,rfl⟩:=hm
 exact ⟨_,he,ho⟩
theorem qkz (hr:HeapRel0 P O w0 β H w) {ty:TypeId} {x k:Operand} {ok:Bool} (hx:(ev x).den β=some (ρ x)) (hk:(ev k).den β=some (ρ k)) :
  (qg0 ty x k ok P ev H base).Sat (qea P H β w base ((execOp ρ ⟨dst,.lookup ty x k ok,t,pos,af,g⟩).run P w)):=by
 refine q6l hk fun kt et ks K=>R.Sat.opt fun z hz => ?_
 obtain ⟨zv,hzr,hzd⟩:=q9r (w:=w) hz
 refine qlj hr hx (fun hnil => ?_) (fun nm es c l vs _ hm hl h0 he hvs hh => ?_) fun nm kS vS es c l _ hm hl h0 he hfit hh => ?_
 . refine qga ?_ (q4k (hzd β))
   have hf:=q5c (w:=w) K.kinds K.shape (vs:=[]) (r:=none) rfl
   simp only [execOp,hnil,Instr.lookup,Sem.run_bind,qaa K.map,Result.andThen_ok,Sem.run_pure,K.check]
   simp only [hf,Option.map_none,Result.andThen_ok,hzr,Sem.run_bind,Sem.run_pure]
 . have hrun:∀ r,qcc ks (ρ k) vs 0=some r->(Instr.lookup ty (ρ x) (ρ k) ok).run P w=.ok (if ok then .tuple #[(r.map fun p=>p.2.val).getD zv,.bool r.isSome] else (r.map fun p=>p.2.val).getD zv) w:=by
    intro r hfr
    have hf:=q5c (w:=w) K.kinds K.shape hfr
    simp only [hm,Instr.lookup,Sem.run_bind,qaa K.map,Result.andThen_ok,Sem.run_pure,K.check,qkb hh]
    simp only [hf]
    cases r with
    | none=>simp only [Option.map_none,Result.andThen_ok,hzr,Sem.run_bind,Sem.run_pure]; cases ok <;> rfl
    | some p=>simp only [Option.map_some,Result.andThen_ok]; cases ok <;> rfl
   refine qbi hk 0 hvs (fun j e v _ _ _ hv2 _ _ hf => ?_) fun hf => ?_
   . refine qga ?_ (q4k hv2)
     simp only [execOp,Sem.run_bind,hrun _ hf,Result.andThen_ok,Sem.run_pure]
     rfl
   . refine qga ?_ (q4k (hzd β))
     simp only [execOp,Sem.run_bind,hrun _ hf,Result.andThen_ok,Sem.run_pure]
     rfl
 . refine R.Sat.opt fun KV hK => ?_
   obtain ⟨hKe,_,hyes,hno⟩:=qlk hK hk K fun e he=>(hfit e he).1
   have hrun:∀ r,qcc ks (ρ k) es 0=some r->(Instr.lookup ty (ρ x) (ρ k) ok).run P w=.ok (if ok then .tuple #[(r.map fun p=>p.2.val).getD zv,.bool r.isSome] else (r.map fun p=>p.2.val).getD zv) w:=by
    intro r hfr
    have hf:=q5c (w:=w) K.kinds K.shape hfr
    simp only [hm,Instr.lookup,Sem.run_bind,qaa K.map,Result.andThen_ok,Sem.run_pure,K.check,qkb hh]
    simp only [hf]
    cases r with
    | none=>simp only [Option.map_none,Result.andThen_ok,hzr,Sem.run_bind,Sem.run_pure]; cases ok <;> rfl
    | some p=>simp only [Option.map_some,Result.andThen_ok]; cases ok <;> rfl
   refine ⟨fun hb => ?_,fun hb => ?_⟩
   . obtain ⟨j,e,a1,a2,a3,a4,a5,hf⟩:=hyes hb
     refine qga (x:=if ok then .tuple #[e.val,.bool true] else e.val) ?_ (q4k (by rw [a4]; exact (hfit e a5).2 β))
     simp only [execOp,Sem.run_bind,hrun _ hf,Result.andThen_ok,Sem.run_pure]
     rfl
   . refine qga ?_ (q4k (hzd β))
     simp only [execOp,Sem.run_bind,hrun _ (hno hb).1,Result.andThen_ok,Sem.run_pure]
     rfl
theorem q8l {vs:List MapEntry} {i:Nat} {v:MapEntry} (h:vs[i]? = some v) (f:MapEntry->MapEntry):vs.toArray.modify i f=(vs.set i (f v)).toArray:=by
 apply Array.ext_getElem?
 intro j
 rw [Array.getElem?_modify]
 simp only [List.getElem?_toArray,List.getElem?_set]
 by_cases hij:i=j
 . subst hij
   obtain ⟨hlt,heq⟩:=List.getElem?_eq_some_iff.1 h
   simp [hlt,heq]
 . simp [hij]
theorem q7e {nm:Nat} {l:Loc} {es:List (SV × SV × Nat)} {c:Nat} {vs:List MapEntry} {y:Obj} {e0:SO} {res:Result Next} {nx:Next} {z:Value} {v:SV} (hl:β nm=some l) (h0:l.off=0) (hb:w.heap[l.blk]? = some y) (hd:qma β es=some vs) (he:H[nm]? = some e0) (ho:e0.owned=true)
  (hres:res=.ok nx { w with heap:=w.heap.setIfInBounds l.blk (.map vs.toArray c) }) (hnx:qgh nx=some z) (hz:v.den β=some z):(R.ok (OpRes.val v [(nm,.obj (.map es c))] [])).Sat (qea P H β w base res):=by
 intro _
 refine ⟨nx,z,_,β,hres,hnx,hz,Eff.turnO hl h0 hb (by simp [SObj.den,hd]),?_⟩
 intro m e hm
 simp at hm
 obtain ⟨rfl,rfl⟩:=hm
 exact ⟨_,he,ho⟩
theorem qqv {ty kt et:TypeId} {ks:List CK} {l:Loc} {vs:List MapEntry} {c:Nat} {x y:Value} (K:KeyOK P ty x kt et ks) (hh:w.heap[l.blk]? = some (.map vs.toArray c)) :
  (∀ j v,vs[j]? = some v->v.key=x->qcc ks x vs 0=some (some (j,v))->(Instr.mapUpdate ty (.map (some l.blk)) x y).run P w=.ok () { w with heap:=w.heap.setIfInBounds l.blk (.map (vs.set j ({ key:=x,val:=y,born:=v.born }:MapEntry)).toArray c) }) /\
  (qcc ks x vs 0=some none->(Instr.mapUpdate ty (.map (some l.blk)) x y).run P w=.ok () { w with heap:=w.heap.setIfInBounds l.blk (.map (vs++[({ key:=x,val:=y,born:=c }:MapEntry)]).toArray (c+1)) }):=by
 refine ⟨fun j v hj hv hf => ?_,fun hf => ?_⟩
 . have hfr:=q5c (w:=w) K.kinds K.shape hf
   have hst:=qou (P:=P) (w:=w) K.plain
   simp only [Instr.mapUpdate,Sem.run_bind,qaa K.map,Result.andThen_ok,qkb hh,K.check,hfr,Option.map_some]
   have hj':vs.toArray[j]? = some v:=by simpa using hj
   simp only [hj',Option.map_some,Option.getD_some,hv,hst,Result.andThen_ok,q6c hh]
   rw [q8l hj]
 . have hfr:=q5c (w:=w) K.kinds K.shape hf
   simp only [Instr.mapUpdate,Sem.run_bind,qaa K.map,Result.andThen_ok,qkb hh,K.check,hfr,Option.map_none,q6c hh]
   simp
theorem ql9 {nm:Nat} {l:Loc} {o:Obj} {e0:SO} {res:Result Next} {nx:Next} {z:Value} {v:SV} (hl:β nm=some l) (he:H[nm]? = some e0) (ho:e0.owned=true)
  (hres:res=.ok nx { w with heap:=w.heap.setIfInBounds l.blk o }) (hnx:qgh nx=some z) (hz:v.den β=some z):(R.ok (OpRes.val v [(nm,SO.gone)] [])).Sat (qea P H β w base res):=by
 intro _
 refine ⟨nx,z,_,β,hres,hnx,hz,Eff.turn hl trivial,?_⟩
 intro m e hm
 simp at hm
 obtain ⟨rfl,rfl⟩:=hm
 exact ⟨_,he,ho⟩
theorem qa6 {s:MSh} {v:SV} {K:Value} (h:layV s v=some K):(∀ β,v.den β=some K)/\s.fit K:=by
 unfold layV at h
 cases hb:qnl s v with
 | some x=>rw [hb] at h; cases h; exact ⟨(q5l hb).1,(q5l hb).2.1⟩
 | none =>
   rw [hb] at h
   obtain ⟨ag,ks⟩:=s
   cases ag with
   | true=>cases h
   | false =>
     have h:layU ks v=some K:=h
     unfold layU at h
     split at h
     . exact ⟨qet h,fun β=>rfl⟩
     . cases h
theorem q5k (hr:HeapRel0 P O w0 β H w) {ty:TypeId} {m k x:Operand} (hm:(ev m).den β=some (ρ m)) (hk:(ev k).den β=some (ρ k)) (hx:(ev x).den β=some (ρ x)) :
  (qvg ty m k x P ev H base).Sat (qea P H β w base ((execOp ρ ⟨dst,.mapUpdate ty m k x,t,pos,af,g⟩).run P w)) /\
  (qvg ty m k x P ev H base).Sat (qea P H β w base ((execOp ρ ⟨dst,.insert ty m k x,t,pos,af,g⟩).run P w)):=by
 have key:∀ res:Result Next,(∀ w',(Instr.mapUpdate ty (ρ m) (ρ k) (ρ x)).run P w=.ok () w'->res=.ok .skip w')->(qvg ty m k x P ev H base).Sat (qea P H β w base res):=by
  intro res hres
  refine q6l hk fun kt et ks K=>qlj hr hm (fun _=>trivial) (fun nm es c l vs _ hmv hl h0 he hvs hh => ?_) fun nm kS vS es c l _ hmv hl h0 he hfit hh => ?_
  all_goals obtain ⟨r1,r2⟩:=qqv (y:=ρ x) K hh
  all_goals rw [← hmv] at r1 r2
  case refine_2 =>
   refine R.Sat.opt fun KV hK => ?_
   obtain ⟨hKe,hKf,hyes,hno⟩:=qlk hK hk K fun e he=>(hfit e he).1
   subst hKe
   generalize hV:layV vS (ev x)=o
   cases o with
   | none =>
     have go:∀ o,res=.ok .skip { w with heap:=w.heap.setIfInBounds l.blk o }->(R.ok (OpRes.val qua [(nm,SO.gone)] [])).Sat (qea P H β w base res):=fun o h=>ql9 hl he rfl h rfl rfl
     cases hb:hasK es (ρ k) with
     | true =>
       obtain ⟨j,e,a1,a2,a3,a4,a5,hf⟩:=hyes hb
       exact go _ (hres _ (r1 j e a2 a3 hf))
     | false=>exact go _ (hres _ (r2 (hno hb).1))
   | some VV =>
   obtain ⟨v1,v2⟩:=qa6 hV
   have hVe:ρ x=VV:=by rw [v1] at hx; exact (Option.some.inj hx).symm
   subst hVe
   refine ⟨fun hb => ?_,fun hb => ?_⟩
   . obtain ⟨j,e,a1,a2,a3,a4,a5,hf⟩:=hyes hb
     have hset:setK es (ρ k) (ρ x)=es.set j ⟨ρ k,ρ x,e.born⟩:=by
      unfold setK posK
      rw [a1,optC_some,a2,optC_some]
     rw [hset]
     refine q7l hl h0 hh (fun e' he' => ?_) he rfl (hres _ (r1 j e a2 a3 hf)) rfl rfl
     rcases List.mem_or_eq_of_mem_set he' with h | h
     . exact hfit e' h
     . rw [h]; exact ⟨hKf,v2⟩
   . refine q7l hl h0 hh (fun e' he' => ?_) he rfl (hres _ (r2 (hno hb).1)) rfl rfl
     unfold insK at he'
     rcases List.mem_append.1 he' with h | h
     . exact hfit e' h
     . rw [List.mem_singleton.1 h]; exact ⟨hKf,v2⟩
  refine qbi hk 0 hvs (fun j e v hej hvj h1 h2 h3 h4 hf => ?_) fun hf => ?_
  . rw [Nat.zero_add] at hf ⊢
    refine q7e (vs:=vs.set j ⟨ρ k,ρ x,v.born⟩) hl h0 hh ?_ he rfl (hres _ (r1 j v hvj h4 hf)) rfl rfl
    rw [que]
    exact qkk hvs hk hx h3
  . refine q7e (vs:=vs++[⟨ρ k,ρ x,c⟩]) hl h0 hh ?_ he rfl (hres _ (r2 hf)) rfl rfl
    rw [q1a]
    exact qjh hvs (by simp [qma,hk,hx])
 exact ⟨key _ fun w' h=>by simp [execOp,h],key _ fun w' h=>by simp [execOp,h]⟩
theorem qrv (hr:HeapRel0 P O w0 β H w) {ty:TypeId} {m k:Operand} (hm:(ev m).den β=some (ρ m)) (hk:(ev k).den β=some (ρ k)) :
  (qdu ty m k P ev H base).Sat (qea P H β w base ((execOp ρ ⟨dst,.mapEntry ty m k,t,pos,af,g⟩).run P w)):=by
 refine q6l hk fun kt et ks K=>R.Sat.opt fun z hz => ?_
 obtain ⟨zv,hzr,hzd⟩:=q9r (w:=w) hz
 refine qiq hr hm (fun _=>trivial) fun nm es c l vs _ hmv hl h0 he hvs hh => ?_
 refine qbi hk 0 hvs (fun j e v hej hvj h1 h2 h3 h4 hf => ?_) fun hf => ?_
 . rw [Nat.zero_add] at hf ⊢
   have hfr:=q5c (w:=w) K.kinds K.shape hf
   have hst:=qou (P:=P) (w:=w) K.plain
   have hj':vs.toArray[j]? = some v:=by simpa using hvj
   refine q7e (vs:=vs.set j ⟨ρ k,v.val,v.born⟩) (z:=.tuple #[v.val,goInt v.born]) (nx:=.value (.tuple #[v.val,goInt v.born])) hl h0 hh ?_ he rfl ?_ rfl ?_
   . rw [que]; exact qkk hvs hk h2 h3
   . simp only [execOp,hmv,Instr.mapEntry,Sem.run_bind,qaa K.map,Result.andThen_ok,qkb hh,K.check,hfr,Option.map_some]
     simp only [hj',Option.map_some,Option.getD_some,h4,hst,Result.andThen_ok,q6c hh,Sem.run_pure]
     rw [q8l hvj]
   . simp [SV.den,SV.denL,h2,SI.den,goInt,h3]
 . have hfr:=q5c (w:=w) K.kinds K.shape hf
   refine q7e (vs:=vs++[⟨ρ k,zv,c⟩]) (z:=.tuple #[zv,goInt c]) (nx:=.value (.tuple #[zv,goInt c])) hl h0 hh ?_ he rfl ?_ rfl ?_
   . rw [q1a]; exact qjh hvs (by simp [qma,hk,hzd β])
   . simp only [execOp,hmv,Instr.mapEntry,Sem.run_bind,qaa K.map,Result.andThen_ok,qkb hh,K.check,hfr,Option.map_none]
     simp only [hzr,Result.andThen_ok,q6c hh,Sem.run_pure]
     simp
   . simp [SV.den,SV.denL,hzd β,SI.den,goInt]
theorem qnn {b:Nat} {yes:Nat->SV × SV × Nat->R α} {φ:α->Prop}:∀ {es:List (SV × SV × Nat)} {vs:List MapEntry} (i:Nat),qma β es=some vs ->
  (∀ j e v,es[j]? = some e->vs[j]? = some v->e.1.den β=some v.key->v.born=e.2.2->vs.findIdx? (fun e=>e.born == b)=some j->(yes (i+j) e).Sat φ)->(qaq b yes es i).Sat φ
 | [],_,_,_,_=>trivial
 | e::es,vs,i,h,h1=>by
   simp only [qma,Option.bind_eq_some_iff,Option.map_eq_some_iff] at h
   obtain ⟨ky,hky,u,hu,rs,hrs,rfl⟩:=h
   show (boolC (Nat.beq e.2.2 b) (yes i e) (qaq b yes es (i+1))).Sat φ
   refine R.Sat.boolC (fun hb => ?_) fun hb => ?_
   . have:=h1 0 e _ rfl rfl hky rfl (by simp [List.findIdx?_cons,Nat.eq_of_beq_eq_true hb])
     simpa using this
   . refine qnn (i+1) hrs fun j e' v a1 a2 a3 a4 hf => ?_
     have hne:e.2.2≠b:=fun h=>by subst h; rw [show Nat.beq e.2.2 e.2.2=true from Nat.beq_refl _] at hb; cases hb
     have:=h1 (j+1) e' v (by simpa using a1) (by simpa using a2) a3 a4 (by simp [List.findIdx?_cons,hne,hf])
     rw [show i+1+j=i+(j+1) from by omega]; exact this
theorem qas (hr:HeapRel0 P O w0 β H w) {ty:TypeId} {m s x:Operand} (hm:(ev m).den β=some (ρ m)) (hs:(ev s).den β=some (ρ s)) (hx:(ev x).den β=some (ρ x)) :
  (qip ty m s x P ev H base).Sat (qea P H β w base ((execOp ρ ⟨dst,.entryStore ty m s x,t,pos,af,g⟩).run P w)):=by
 refine qiq hr hm (fun _=>trivial) fun nm es c l vs _ hmv hl h0 he hvs hh => ?_
 split
 . rename_i k b hb
   rw [hb] at hs
   simp only [SV.den,SI.den,Option.some.injEq] at hs
   refine qnn 0 hvs fun j e v a1 a2 a3 a4 hf => ?_
   rw [Nat.zero_add]
   refine q7e (vs:=vs.set j ⟨v.key,ρ x,v.born⟩) (nx:=.skip) hl h0 hh ?_ he rfl ?_ rfl rfl
   . rw [que]; exact qkk hvs a3 hx a4
   . have hf':vs.toArray.findIdx? (fun e=>(e.born:Int) == Int.ofNat b)=some j:=by
      rw [← List.findIdx?_toArray] at hf
      rw [← hf]
      congr 1
      funext e
      rw [Bool.eq_iff_iff]
      simp
      omega
     simp only [execOp,hmv,Instr.entryStore,Sem.run_bind,qkb hh,Result.andThen_ok,← hs,asInt,asIntOf,Sem.run_pure]
     simp only [hf',q6c hh,Result.andThen_ok]
     rw [q8l a2]
 . trivial
theorem qlz (hr:HeapRel0 P O w0 β H w) {tys:Array TypeId} {ty:TypeId} {m k:SV} {mv kv:Value} (hm:m.den β=some mv) (hk:k.den β=some kv) {res:Result Next}
  (hres:∀ v w',(Builtin.delete_ tys ty #[mv,kv]).run P w=.ok v w'->res=.ok (.value v) w'):(qh0 P H tys m k).Sat (qea P H β w base res):=by
 refine R.Sat.opt fun mt hmt=>q6l hk fun kt et ks K=>qlj hr hm (fun hnil => ?_) (fun nm es c l vs _ hmv hl h0 he hvs hh => ?_) fun nm kS vS es c l _ hmv hl h0 he hfit hh => ?_
 . refine qga (x:=.tuple #[]) (hres _ _ ?_) rfl
   simp only [Builtin.delete_,hmt,hnil]
   simp [qaa K.map,K.check]
 . have hrun:∀ r,qcc ks kv vs 0=some r->(Builtin.delete_ tys ty #[mv,kv]).run P w=.ok (.tuple #[]) { w with heap:=w.heap.setIfInBounds l.blk (.map (match r with | some p=>(vs.eraseIdx p.1).toArray | none=>vs.toArray) c) }:=by
    intro r hfr
    have hf:=q5c (w:=w) K.kinds K.shape hfr
    simp only [Builtin.delete_,hmt,hmv]
    simp only [List.getElem?_toArray,List.getElem?_cons_zero,List.getElem?_cons_succ,Sem.run_bind,qaa K.map,Result.andThen_ok,qkb hh,K.check,hf]
    cases r with
    | none =>
      simp only [Option.map_none]
      simp [q6c hh]
    | some p =>
      simp only [Option.map_some]
      simp [q6c hh]
   refine qbi hk 0 hvs (fun j e v hej hvj h1 h2 h3 h4 hf => ?_) fun hf => ?_
   . rw [Nat.zero_add] at hf ⊢
     refine q7e (vs:=vs.eraseIdx j) hl h0 hh ?_ he rfl (hres _ _ (hrun _ hf)) rfl rfl
     rw [q85]; exact qpv hvs j
   . exact q7e (vs:=vs) hl h0 hh hvs he rfl (hres _ _ (hrun _ hf)) rfl rfl
 . refine R.Sat.opt fun KV hK => ?_
   obtain ⟨hKe,_,hyes,hno⟩:=qlk hK hk K fun e he=>(hfit e he).1
   have hrun:∀ r,qcc ks kv es 0=some r->(Builtin.delete_ tys ty #[mv,kv]).run P w=.ok (.tuple #[]) { w with heap:=w.heap.setIfInBounds l.blk (.map (match r with | some p=>(es.eraseIdx p.1).toArray | none=>es.toArray) c) }:=by
    intro r hfr
    have hf:=q5c (w:=w) K.kinds K.shape hfr
    simp only [Builtin.delete_,hmt,hmv]
    simp only [List.getElem?_toArray,List.getElem?_cons_zero,List.getElem?_cons_succ,Sem.run_bind,qaa K.map,Result.andThen_ok,qkb hh,K.check,hf]
    cases r with
    | none =>
      simp only [Option.map_none]
      simp [q6c hh]
    | some p =>
      simp only [Option.map_some]
      simp [q6c hh]
   have hfd:∀ e∈delK es KV,kS.fit e.key/\vS.fit e.val:=fun e he'=>hfit e (List.mem_of_mem_eraseP he')
   have herase:delK es KV=match es.findIdx? (q4c KV) with | none=>es | some i=>es.eraseIdx i:=List.eraseP_eq_eraseIdx
   cases hb:hasK es KV with
   | true =>
     obtain ⟨j,e,a1,a2,a3,a4,a5,hf⟩:=hyes hb
     rw [a1] at herase
     refine q7l hl h0 hh hfd he rfl (hres _ _ ?_) rfl rfl
     rw [hrun _ hf,herase]
   | false =>
     obtain ⟨hf,a1⟩:=hno hb
     rw [a1] at herase
     refine q7l hl h0 hh hfd he rfl (hres _ _ ?_) rfl rfl
     rw [hrun _ hf,herase]
theorem qh3 (hr:HeapRel0 P O w0 β H w) {tys:Array TypeId} {ty:TypeId} {m:SV} {mv:Value} (hm:m.den β=some mv) {res:Result Next}
  (hres:∀ v w',(Builtin.clear_ tys ty #[mv]).run P w=.ok v w'->res=.ok (.value v) w'):(qa5 P H tys m).Sat (qea P H β w base res):=by
 refine R.Sat.opt fun mt hmt=>R.Sat.opt fun d hd => ?_
 split
 . refine qiq hr hm (fun hnil => ?_) fun nm es c l vs _ hmv hl h0 he hvs hh => ?_
   . refine qga (x:=.tuple #[]) (hres _ _ ?_) rfl
     simp only [Builtin.clear_,hmt,hnil]
     simp [qaa hd]
   . refine q7e (vs:=[]) hl h0 hh rfl he rfl (hres _ _ ?_) rfl rfl
     simp only [Builtin.clear_,hmt,hmv]
     simp [qaa hd,qkb hh,q6c hh]
 . trivial
theorem qm9 (hr:HeapRel0 P O w0 β H w) {tys:Array TypeId} {v:SV} {x:Value} (hv:v.den β=some x) {xs:List Value} {ty:TypeId} {res:Result Next}
  (hres:∀ n:Nat,(Builtin.len_ tys ty (x::xs).toArray).run P w=.ok (goInt n) w->res=.ok (.value (goInt n)) w):(lenM P H tys v).Sat (qea P H β w base res):=by
 unfold lenM
 split
 . rename_i nm
   refine R.Sat.opt fun mt hmt=>R.Sat.opt fun d hd => ?_
   split
   . refine qlj hr hv (fun _=>trivial) (fun nm' es c l vs _ hmv hl h0 he hvs hh => ?_) fun nm' kS vS es c l _ hmv hl h0 he hfit hh => ?_
     case refine_2 =>
      refine qga (hres es.length ?_) rfl
      simp only [Builtin.len_,hmt,hmv]
      simp [qaa hd,qkb hh]
     have hn:lenN es=vs.length:=by rw [qha,qih hvs]
     rw [hn]
     refine qga (hres vs.length ?_) rfl
     simp only [Builtin.len_,hmt,hmv]
     simp [qaa hd,qkb hh]
   . trivial
 . exact qg9 hv hres
theorem q9l {ox:SObj} {o:Obj} (hd:ox.den β=some o) {res:Result Next} (hres:res=.ok (.value (.pointer (some ⟨w.heap.size,0,none⟩))) { w with heap:=w.heap.push o }):(newO base ox).Sat (qea P H β w base res):=by
 intro hb
 refine ⟨_,_,_,β.upd base ⟨w.heap.size,0,0⟩,hres,rfl,?_,Eff.allocO hb.hd rfl rfl rfl rfl hd,by simp⟩
 simp [SV.den,SA.den,Val.upd_same,SN.den]
theorem qi3 (hr:HeapRel0 P O w0 β H w) {ty:TypeId} {x:Operand} (hx:(ev x).den β=some (ρ x)) :
  (qb5 ty x P ev H base).Sat (qea P H β w base ((execOp ρ ⟨dst,.range ty x,t,pos,af,g⟩).run P w)):=by
 refine R.Sat.opt fun d hd => ?_
 have hu:=qaa (w:=w) hd
 split
 . split
   . rename_i s hs
     rw [hs] at hx
     simp only [SV.den,Option.some.injEq] at hx
     refine q9l (o:=.stringIter s.den 0) rfl ?_
     simp [execOp,Instr.range,hu,← hx,newObj]
     rfl
   . trivial
 . refine qlj hr hx (fun hnil => ?_) (fun nm es c l vs _ hmv hl h0 he hvs hh => ?_) fun nm kS vS es c l _ hmv hl h0 he hfit hh => ?_
   . refine q9l (o:=.mapIter none 0 #[] 0) rfl ?_
     simp [execOp,Instr.range,hu,hnil,newObj]
     rfl
   . refine q9l (o:=.mapIter (some l.blk) c #[] c) (by simp [SObj.den,hl]) ?_
     simp [execOp,Instr.range,hu,hmv,newObj,qkb hh]
     rfl
   . refine q9l (o:=.mapIter (some l.blk) c #[] c) (by simp [SObj.den,hl]) ?_
     simp [execOp,Instr.range,hu,hmv,newObj,qkb hh]
     rfl
 . trivial
end
end
noncomputable section
variable {α:Type}
section
variable {P:Program} {O:Nat->Prop} {w0:World} {β:Val} {H:List SO} {w:World} {base:Nat}
variable {ev:Operand->SV} {ρ:Operand->Value} {dst:Option Tmp} {t:TypeId} {pos:String} {af:Array Edge} {g:Option (Nat × Bool)}
theorem qam {γ:Type} (f:γ->Bool) (l:List γ):q6d f l=l.filter f:=by
 induction l with
 | nil=>rfl
 | cons a l ih =>
   show boolC (f a) (a::q6d f l) (q6d f l)=_
   rw [ih]
   cases hf:f a <;> simp [boolC,hf]
theorem qlt {γ:Type} (l:List γ):nilN l=l.isEmpty:=by cases l <;> rfl
theorem qsv (n:Nat) (l:List Nat):memN n l=l.contains n:=by
 induction l with
 | nil=>rfl
 | cons a l ih =>
   show boolC (Nat.beq a n) true (memN n l)=_
   rw [ih,List.contains_cons]
   by_cases h:a=n
   . subst h; simp [boolC]
   . rw [show Nat.beq a n=false from Bool.eq_false_iff.2 fun h'=>h (Nat.eq_of_beq_eq_true h')]
     have:(n == a)=false:=by simpa using fun e:n=a=>h e.symm
     simp [boolC,this]
theorem qlf {f:SV × SV × Nat->Bool} {F:MapEntry->Bool} (hf:∀ e v,v.born=e.2.2->f e=F v):∀ {es:List (SV × SV × Nat)} {vs:List MapEntry},qma β es=some vs->qma β (es.filter f)=some (vs.filter F)
 | [],vs,h=>by cases h; rfl
 | e::es,vs,h=>by
   simp only [qma,Option.bind_eq_some_iff,Option.map_eq_some_iff] at h
   obtain ⟨k,hk,u,hu,rs,hr,rfl⟩:=h
   have h1:=hf e ⟨k,u,e.2.2⟩ rfl
   have ih:=qlf hf hr
   simp only [List.filter_cons,← h1]
   cases f e with
   | true=>simp [qma,hk,hu,ih]
   | false=>simpa using ih
theorem qsp {f:SV × SV × Nat->Bool} {F:MapEntry->Bool} (hf:∀ e v,v.born=e.2.2->f e=F v):∀ {es:List (SV × SV × Nat)} {vs:List MapEntry},qma β es=some vs->allN f es=vs.all F
 | [],vs,h=>by cases h; rfl
 | e::es,vs,h=>by
   simp only [qma,Option.bind_eq_some_iff,Option.map_eq_some_iff] at h
   obtain ⟨k,hk,u,hu,rs,hr,rfl⟩:=h
   have h1:=hf e ⟨k,u,e.2.2⟩ rfl
   have ih:=qsp hf hr
   show boolC (f e) (allN f es) false=_
   rw [ih,h1,List.all_cons]
   cases F ⟨k,u,e.2.2⟩ <;> rfl
def CandRel (β:Val):List (Option (SV × SV × Nat))->List (Option MapEntry)->Prop
 | [],[]=>True
 | a::az,b::bs=>(match a,b with
   | none,none=>True
   | some e,some v=>e.1.den β=some v.key/\e.2.1.den β=some v.val/\v.born=e.2.2
   | _,_=>False)/\CandRel β az bs
 | _,_=>False
theorem CandRel.map {es:List (SV × SV × Nat)} {vs:List MapEntry} (h:qma β es=some vs):CandRel β (es.map some) (vs.map some):=by
 induction es generalizing vs with
 | nil=>cases h; trivial
 | cons e es ih =>
   simp only [qma,Option.bind_eq_some_iff,Option.map_eq_some_iff] at h
   obtain ⟨k,hk,u,hu,rs,hr,rfl⟩:=h
   exact ⟨⟨hk,hu,rfl⟩,ih hr⟩
theorem CandRel.length {a:List (Option (SV × SV × Nat))}:∀ {b:List (Option MapEntry)},CandRel β a b->a.length=b.length:=by
 induction a with
 | nil=>intro b h; cases b with
   | nil=>rfl
   | cons=>exact h.elim
 | cons x a ih=>intro b h; cases b with
   | nil=>exact h.elim
   | cons y b=>simp [ih h.2]
theorem qtu {f:Option (SV × SV × Nat)->R OpRes} {φ:OpRes->Prop} {n:Nat}:∀ {l:List (Option (SV × SV × Nat))} {bs:List (Option MapEntry)} (i:Nat),CandRel β l bs->i<=n->n<i+l.length ->
  (∀ a b,bs[n - i]? = some b->CandRel β [a] [b]->(f a).Sat φ)->(q91 f l n i).Sat φ
 | [],_,i,_,h1,h2,_=>by simp at h2; omega
 | [a],[b],i,hc,h1,h2,h=>by
   have:n=i:=by simp at h2; omega
   subst this
   exact h a b (by simp) hc
 | a::a'::l,b::bs,i,hc,h1,h2,h=>by
   show (R.fork (decide (n=i)) (f a) (q91 f (a'::l) n (i+1))).Sat φ
   refine ⟨fun hd => ?_,fun hd => ?_⟩
   . have:=of_decide_eq_true hd
     subst this
     exact h a b (by simp) ⟨hc.1,trivial⟩
   . have hne:=of_decide_eq_false hd
     refine qtu (i+1) hc.2 (by omega) (by simp at h2 ⊢; omega) fun x y hy hxy=>h x y ?_ hxy
     rw [show n - i=(n - (i+1))+1 from by omega,List.getElem?_cons_succ]; exact hy
 | [_],[],_,hc,_,_,_=>hc.elim
 | [_],_::_::_,_,hc,_,_,_=>hc.2.elim
 | _::_::_,[],_,hc,_,_,_=>hc.elim
theorem qn9 {f:Option (SV × SV × Nat)->R OpRes} {φ:OpRes->Prop} {n:Nat} {l:List (Option (SV × SV × Nat))} {bs:List (Option MapEntry)} (hc:CandRel β l bs) (hn:n<l.length)
  (h:∀ a b,bs[n]? = some b->CandRel β [a] [b]->(f a).Sat φ):(oneM f l).Sat φ:=by
 match l,bs,hc,hn with
 | [a],[b],hc,hn =>
   have:n=0:=by simp at hn; omega
   subst this
   exact h a b rfl hc
 | a::a'::l,bs,hc,hn =>
   exact ⟨fun _=>n,qtu 0 hc (Nat.zero_le _) (by simpa using hn) fun x y hy hxy=>h x y (by simpa using hy) hxy⟩
theorem qb6 {es:List (SV × SV × Nat)} {vs:List MapEntry} (h:qma β es=some vs) (seen:List Nat) (since:Nat) :
  CandRel β (q6v (qpi es seen) since) ((if (((vs.toArray.filter fun e => !seen.toArray.contains e.born).filter (·.born<since)).isEmpty) then [none] else [])++(((vs.filter fun e => !seen.toArray.contains e.born).filter (·.born<since))++((vs.filter fun e => !seen.toArray.contains e.born).filter (·.born>=since))).map some):=by
 have h1:qma β (qpi es seen)=some (vs.filter fun e => !seen.toArray.contains e.born):=by
  unfold qpi
  rw [qam]
  refine qlf (fun e v hv => ?_) h
  rw [qsv,hv]
  simp only [List.contains_toArray]
  cases seen.contains e.2.2 <;> rfl
 have h2:qma β (oldM (qpi es seen) since)=some ((vs.filter fun e => !seen.toArray.contains e.born).filter (·.born<since)):=by
  unfold oldM
  rw [qam]
  refine qlf (fun e v hv => ?_) h1
  rw [hv,Bool.eq_iff_iff]
  simp [Nat.blt_eq]
 have h3:qma β (newM (qpi es seen) since)=some ((vs.filter fun e => !seen.toArray.contains e.born).filter (·.born>=since)):=by
  unfold newM
  rw [qam]
  refine qlf (fun e v hv => ?_) h1
  rw [hv,Bool.eq_iff_iff]
  simp [Nat.ble_eq]
 unfold q6v
 have hemp:((vs.toArray.filter fun e => !seen.toArray.contains e.born).filter (·.born<since)).isEmpty=nilN (oldM (qpi es seen) since):=by
  rw [qlt]
  have hl:=qih h2
  simp only [List.filter_toArray,List.isEmpty_toArray]
  rw [Bool.eq_iff_iff,List.isEmpty_iff_length_eq_zero,List.isEmpty_iff_length_eq_zero,hl]
 rw [hemp,q1a,q1a,qja]
 have hm:=CandRel.map (qjh h2 h3)
 cases nilN (oldM (qpi es seen) since) with
 | true=>exact ⟨trivial,hm⟩
 | false=>exact hm
theorem quu {n:Nat} (hn:0<n):∃ k d,k<n/\w.drawn<=d/\(choose (.mapNext n)).run P w=.ok k { w with drawn:=d }:=by
 by_cases hf:n<=1
 . exact ⟨0,w.drawn,hn,Nat.le_refl _,by simp [choose,Sem.run,Question.forced,hf]⟩
 . exact ⟨w.tape w.drawn (.mapNext n) % n,w.drawn+1,Nat.mod_lt _ hn,Nat.le_succ _,by simp [choose,Sem.run,Question.forced,hf,Question.cut]⟩
theorem qo9 {es:List (SV × SV × Nat)} {vs:List MapEntry} (h:qma β es=some vs) (seen:List Nat) (last:Nat):(!seen.toArray.isEmpty && !vs.toArray.isEmpty && vs.toArray.all (·.born>=last))=qa2 es seen last:=by
 unfold qa2
 have hl:=qih h
 have h1:nilN es=vs.isEmpty:=by
  rw [qlt,Bool.eq_iff_iff,List.isEmpty_iff_length_eq_zero,List.isEmpty_iff_length_eq_zero,hl]
 have h2:allN (fun e=>Nat.ble last e.2.2) es=vs.all (·.born>=last):=qsp (fun e v hv=>by rw [hv,Bool.eq_iff_iff]; simp [Nat.ble_eq]) h
 rw [h1,h2,qlt]
 simp only [List.isEmpty_toArray,List.all_toArray]
 cases seen.isEmpty <;> cases vs.isEmpty <;> rfl
theorem q4j {res:Result Next} {d:Nat} (hd:w.drawn<=d) (hres:res=.ok (.value (.tuple #[.bool false])) { w with drawn:=d }):overR.Sat (qea P H β w base res) :=
 fun _=>⟨_,_,_,β,hres,rfl,rfl,(Eff.refl P β w base).drew d hd,by simp⟩
theorem qwx {vs:List MapEntry} {l lm:Loc} {since last c:Nat} {seen:List Nat} (hhi:w.heap[l.blk]? = some (.mapIter (some lm.blk) since seen.toArray last)) (hhm:w.heap[lm.blk]? = some (.map vs.toArray c)) {ty:TypeId}
  (hg':(!seen.toArray.isEmpty && !vs.toArray.isEmpty && vs.toArray.all (·.born>=last))=false) {bs:List (Option MapEntry)}
  (hA:((if (((vs.toArray.filter fun e => !seen.toArray.contains e.born).filter (·.born<since)).isEmpty) then #[none] else #[])++(((vs.toArray.filter fun e => !seen.toArray.contains e.born).filter (·.born<since))++((vs.toArray.filter fun e => !seen.toArray.contains e.born).filter (·.born>=since))).map some:Array (Option MapEntry))=bs.toArray) (hz:0<bs.length) :
  ∃ n d,n<bs.length/\w.drawn<=d/\∀ b,bs[n]? = some b->(Instr.next (.pointer (some ⟨l.blk,0,none⟩)) false ty).run P w=match b with
      | none=>.ok (.tuple #[.bool false]) { w with drawn:=d }
      | some e=>.ok (.tuple #[.bool true,e.key,e.val]) { w with drawn:=d,heap:=w.heap.setIfInBounds l.blk (.mapIter (some lm.blk) since (seen.toArray.push e.born) c) }:=by
 have hgi:(getObj l.blk).run P w=.ok (.mapIter (some lm.blk) since seen.toArray last) w:=by simp [getObj,Sem.run,hhi]
 obtain ⟨n,d,hn,hdr,hch⟩:=quu (P:=P) (w:=w) (n:=bs.length) hz
 refine ⟨n,d,hn,hdr,fun b hb => ?_⟩
 have hgm:=qkb (P:=P) hhm
 simp only [Instr.next,Sem.run_bind,hgi,Result.andThen_ok,hgm,hg',Bool.false_eq_true,if_false,hA]
 have hsz:bs.toArray.size=bs.length:=by simp
 have hb':bs.toArray[n]? = some b:=by simpa using hb
 simp only [hsz,hch,Result.andThen_ok,hb']
 cases b with
 | none=>rfl
 | some e =>
   have hs:(setObj l.blk (.mapIter (some lm.blk) since (seen.toArray.push e.born) c)).run P { w with drawn:=d }=.ok () { w with drawn:=d,heap:=w.heap.setIfInBounds l.blk (.mapIter (some lm.blk) since (seen.toArray.push e.born) c) }:=by
    simp [setObj,Sem.run,hhi]
   simp only [Sem.run_bind,hs,Result.andThen_ok,Sem.run_pure]
theorem qc6 (hr:HeapRel0 P O w0 β H w) {it m since last:Nat} {seen:List Nat} {l:Loc} (hl:β it=some l) (hI:H[it]? = some (.obj (.iter (some m) since seen last))) {ty:TypeId} {res:Result Next}
  (hres:∀ v w',(Instr.next (.pointer (some ⟨l.blk,0,none⟩)) false ty).run P w=.ok v w'->res=.ok (.value v) w'):(qc2 H it m since seen last).Sat (qea P H β w base res):=by
 unfold qc2
 split
 . rename_i kS vS es c hm
   rw [qca] at hm
   obtain ⟨lm,o,hlm,_,hd,hhm⟩:=hr.entries _ _ hm
   obtain ⟨hfit,rfl⟩:=SObj.amap_den.1 hd
   obtain ⟨l',o,hl',h0,hd,hhi⟩:=hr.entries _ _ hI
   rw [hl] at hl'; cases hl'
   simp only [SObj.den,hlm,Option.map_some,Option.some.injEq] at hd
   subst hd
   rintro ⟨hgone,hold⟩
   have hg':(!seen.toArray.isEmpty && !es.toArray.isEmpty && es.toArray.all (·.born>=last))=false:=by
    cases hb:(!seen.toArray.isEmpty && !es.toArray.isEmpty && es.toArray.all (·.born>=last)) with
    | false=>rfl
    | true =>
      exfalso
      refine hgone ⟨?_,?_,?_⟩
      . rintro rfl; simp at hb
      . rintro rfl; simp at hb
      . intro e he
        simp only [Bool.and_eq_true,List.all_toArray,List.all_eq_true,decide_eq_true_eq] at hb
        exact hb.2 e he
   have hleft:∀ e∈q7a es seen,e.born<since/\e∈es:=fun e he=>by
    unfold q7a at he
    have:=(List.mem_filter.1 he).1
    exact ⟨hold e this,this⟩
   have e1:(q7a es seen).filter (fun e=>decide (e.born<since))=q7a es seen:=List.filter_eq_self.2 fun e he=>by simp [(hleft e he).1]
   have e2:(q7a es seen).filter (fun e=>decide (e.born>=since))=[]:=List.filter_eq_nil_iff.2 fun e he=>by have:=(hleft e he).1; simp; omega
   have hA:((if (((es.toArray.filter fun e => !seen.toArray.contains e.born).filter (·.born<since)).isEmpty) then #[none] else #[])++(((es.toArray.filter fun e => !seen.toArray.contains e.born).filter (·.born<since))++((es.toArray.filter fun e => !seen.toArray.contains e.born).filter (·.born>=since))).map some:Array (Option MapEntry))=((if (q7a es seen).isEmpty then [none] else [])++(q7a es seen).map some).toArray:=by
    have e0:es.filter (fun e => !seen.contains e.born)=q7a es seen:=rfl
    simp only [List.filter_toArray,List.contains_toArray,e0,e1,e2,List.isEmpty_toArray]
    split <;> simp
   cases hemp:(q7a es seen).isEmpty with
   | true =>
     refine ⟨fun _ => ?_,fun h=>(by cases h)⟩
     rw [hemp] at hA
     obtain ⟨n,d,hn,hdr,hrun⟩:=qwx hhi hhm (ty:=ty) hg' hA (by simp)
     have hnil:q7a es seen=[]:=List.isEmpty_iff.1 hemp
     rw [hnil] at hrun hn
     have hn0:n=0:=by simp at hn; omega
     subst hn0
     exact q4j hdr (hres _ _ (hrun none rfl))
   | false =>
     refine ⟨fun h=>(by cases h),fun _ => ?_⟩
     rw [hemp] at hA
     have hne:q7a es seen≠[]:=fun h=>by rw [h] at hemp; cases hemp
     have hpos:0<(q7a es seen).length:=List.length_pos_iff.2 hne
     obtain ⟨n,d,hn,hdr,hrun⟩:=qwx hhi hhm (ty:=ty) hg' hA (by simpa using hpos)
     have hn:n<(q7a es seen).length:=by simpa using hn
     have hpick:q0e (q7a es seen) n=(q7a es seen)[n]:=by
      unfold q0e
      rw [Nat.mod_eq_of_lt hn,List.getElem?_eq_getElem hn]; rfl
     have hmem:q0e (q7a es seen) n∈q7a es seen:=by rw [hpick]; exact List.getElem_mem hn
     have hfe:=hfit _ (hleft _ hmem).2
     have hrb:=hrun (some (q0e (q7a es seen) n)) (by
      rw [hpick]
      simp only [Bool.false_eq_true,if_false,List.nil_append,List.getElem?_map,List.getElem?_eq_getElem hn,Option.map_some])
     refine ⟨fun _=>n,?_⟩
     intro _
     refine ⟨_,_,_,β,hres _ _ hrb,rfl,?_,(Eff.turnO (o:=.iter (some m) since (app seen [(q0e (q7a es seen) n).born]) c) (x:=.mapIter (some lm.blk) since (seen.toArray.push (q0e (q7a es seen) n).born) c) hl h0 hhi ?_).drew d hdr,?_⟩
     . simp only [SV.den,SV.denL,hfe.1 β,hfe.2 β,SB.den]
       rfl
     . simp [SObj.den,hlm,q1a]
     . intro k e' hk
       simp at hk
       obtain ⟨rfl,rfl⟩:=hk
       exact ⟨_,hI,rfl⟩
 . rename_i es c hm
   rw [qca] at hm
   obtain ⟨lm,o,hlm,_,hd,hhm⟩:=hr.entries _ _ hm
   simp only [SObj.den,Option.map_eq_some_iff] at hd
   obtain ⟨vs,hvs,rfl⟩:=hd
   obtain ⟨l',o,hl',h0,hd,hhi⟩:=hr.entries _ _ hI
   rw [hl] at hl'; cases hl'
   simp only [SObj.den,hlm,Option.map_some,Option.some.injEq] at hd
   subst hd
   refine R.Sat.boolC (fun _=>trivial) fun hg => ?_
   have hcand:=qb6 hvs seen since
   have hgi:(getObj l.blk).run P w=.ok (.mapIter (some lm.blk) since seen.toArray last) w:=by simp [getObj,Sem.run,hhi]
   generalize hB:((if (((vs.toArray.filter fun e => !seen.toArray.contains e.born).filter (·.born<since)).isEmpty) then [none] else [])++(((vs.filter fun e => !seen.toArray.contains e.born).filter (·.born<since))++((vs.filter fun e => !seen.toArray.contains e.born).filter (·.born>=since))).map some:List (Option MapEntry))=bs at hcand
   have hlen:=hcand.length
   have hA:((if (((vs.toArray.filter fun e => !seen.toArray.contains e.born).filter (·.born<since)).isEmpty) then #[none] else #[])++(((vs.toArray.filter fun e => !seen.toArray.contains e.born).filter (·.born<since))++((vs.toArray.filter fun e => !seen.toArray.contains e.born).filter (·.born>=since))).map some:Array (Option MapEntry))=bs.toArray:=by
    rw [← hB]
    split <;> simp
   by_cases hz:bs.length=0
   . have:q6v (qpi es seen) since=[]:=List.eq_nil_of_length_eq_zero (by omega)
     rw [this]; trivial
   obtain ⟨n,d,hn,hdr,hch⟩:=quu (P:=P) (w:=w) (n:=bs.length) (by omega)
   have hrun:∀ b,bs[n]? = some b->(Instr.next (.pointer (some ⟨l.blk,0,none⟩)) false ty).run P w=match b with
     | none=>.ok (.tuple #[.bool false]) { w with drawn:=d }
     | some e=>.ok (.tuple #[.bool true,e.key,e.val]) { w with drawn:=d,heap:=w.heap.setIfInBounds l.blk (.mapIter (some lm.blk) since (seen.toArray.push e.born) c) }:=by
    intro b hb
    have hgm:=qkb (P:=P) hhm
    have hg':=qo9 hvs seen last
    rw [hg] at hg'
    simp only [Instr.next,Sem.run_bind,hgi,Result.andThen_ok,hgm,hg',Bool.false_eq_true,if_false,hA]
    have hsz:bs.toArray.size=bs.length:=by simp
    have hb':bs.toArray[n]? = some b:=by simpa using hb
    simp only [hsz,hch,Result.andThen_ok,hb']
    cases b with
    | none=>rfl
    | some e =>
      have hs:(setObj l.blk (.mapIter (some lm.blk) since (seen.toArray.push e.born) c)).run P { w with drawn:=d }=.ok () { w with drawn:=d,heap:=w.heap.setIfInBounds l.blk (.mapIter (some lm.blk) since (seen.toArray.push e.born) c) }:=by
       simp [setObj,Sem.run,hhi]
      simp only [Sem.run_bind,hs,Result.andThen_ok,Sem.run_pure]
   refine qn9 (n:=n) hcand (by omega) fun a b hb hab => ?_
   have hrb:=hrun b hb
   obtain ⟨hab,_⟩:=hab
   cases a with
   | none =>
     cases b with
     | some v=>exact hab.elim
     | none=>exact q4j hdr (hres _ _ hrb)
   | some e =>
     cases b with
     | none=>exact hab.elim
     | some v =>
       obtain ⟨h1,h2,h3⟩:=hab
       intro _
       refine ⟨_,_,_,β,hres _ _ hrb,rfl,?_,(Eff.turnO (o:=.iter (some m) since (app seen [e.2.2]) c) (x:=.mapIter (some lm.blk) since (seen.toArray.push v.born) c) hl h0 hhi ?_).drew d hdr,?_⟩
       . simp [SV.den,SV.denL,h1,h2,SB.den]
       . simp [SObj.den,hlm,q1a,h3]
       . intro k e' hk
         simp at hk
         obtain ⟨rfl,rfl⟩:=hk
         exact ⟨_,hI,rfl⟩
 . trivial
theorem qd6 (hr:HeapRel0 P O w0 β H w) {it pos:Nat} {s:SStr} {l:Loc} (hl:β it=some l) (hI:H[it]? = some (.obj (.str s pos))) {ty:TypeId} {res:Result Next}
  (hres:∀ v w',(Instr.next (.pointer (some ⟨l.blk,0,none⟩)) true ty).run P w=.ok v w'->res=.ok (.value v) w'):(qd2 it s pos).Sat (qea P H β w base res):=by
 obtain ⟨l',o,hl',h0,hd,hhi⟩:=hr.entries _ _ hI
 rw [hl] at hl'; cases hl'
 simp only [SObj.den,Option.some.injEq] at hd
 subst hd
 have hgi:(getObj l.blk).run P w=.ok (.stringIter s.den pos) w:=by simp [getObj,Sem.run,hhi]
 have hover:¬ pos<s.den.size->overR.Sat (qea P H β w base res):=by
  intro hlt
  refine q4j (d:=w.drawn) (Nat.le_refl _) (hres _ _ ?_)
  simp only [Instr.next,Sem.run_bind,hgi,Result.andThen_ok,if_neg hlt,Sem.run_pure]
 have hgo:pos<s.den.size->∀ v:SV,v.den β=some (.tuple #[.bool true,goInt pos,.int .i32 (Utf8.decode s.den pos).1])->(R.ok (OpRes.val v [(it,.obj (.str s (pos+(Utf8.decode s.den pos).2)))] [])).Sat (qea P H β w base res):=by
  intro hlt v hv _
  have hs:(setObj l.blk (.stringIter s.den (pos+(Utf8.decode s.den pos).2))).run P w=.ok () { w with heap:=w.heap.setIfInBounds l.blk (.stringIter s.den (pos+(Utf8.decode s.den pos).2)) }:=by
   simp [setObj,Sem.run,hhi]
  refine ⟨_,_,_,β,hres (.tuple #[.bool true,goInt pos,.int .i32 (Utf8.decode s.den pos).1]) _ ?_,rfl,hv,Eff.turnO (x:=.stringIter s.den (pos+(Utf8.decode s.den pos).2)) hl h0 hhi rfl,?_⟩
  . simp only [Instr.next,Sem.run_bind,hgi,Result.andThen_ok,if_pos hlt,hs,Sem.run_pure]
  . intro k e' hk
    simp at hk
    obtain ⟨rfl,rfl⟩:=hk
    exact ⟨_,hI,rfl⟩
 unfold qd2
 split
 . rename_i b
   refine R.Sat.boolC (fun hb=>hgo (qln hb) _ (by simp [SV.den,SV.denL,SB.den,SI.den,goInt,SStr.den])) fun hb=>hover fun hlt => ?_
   have:Nat.blt pos b.size=true:=Nat.ble_eq_true_of_le hlt
   rw [this] at hb; cases hb
 . exact ⟨fun hb=>hgo (of_decide_eq_true hb) _ (by simp [SV.den,SV.denL,SB.den,SI.den,goInt]),fun hb=>hover (of_decide_eq_false hb)⟩
theorem qe6 (hr:HeapRel0 P O w0 β H w) {x:Operand} {b:Bool} (hx:(ev x).den β=some (ρ x)) :
  (jgc x b P ev H base).Sat (qea P H β w base ((execOp ρ ⟨dst,.next x b,t,pos,af,g⟩).run P w)):=by
 refine qdg hx fun a A ha hA hxA=>SN.asLit_sat (fun o ho=>R.Sat.boolC (fun hz => ?_) fun _=>trivial) fun _=>trivial
 have:=Nat.eq_of_beq_eq_true hz
 subst this
 obtain ⟨l,hl,rfl⟩:=SA.den_some hA
 have hres:∀ e:SObj,H[a.nm]? = some (.obj e)->∀ v w',(Instr.next (.pointer (some ⟨l.blk,0,none⟩)) b t).run P w=.ok v w'->(execOp ρ ⟨dst,.next x b,t,pos,af,g⟩).run P w=.ok (.value v) w':=by
  intro e he v w' h
  obtain ⟨l',o,hl',h0,_,_⟩:=hr.entries _ _ he
  rw [hl] at hl'; cases hl'
  rw [ho,h0] at hxA
  simp only [SN.den,Nat.add_zero] at hxA
  simp [execOp,hxA,h]
 split
 . rename_i q1 q2 q3 he
   rw [qca] at he
   refine R.Sat.boolC (fun _=>trivial) fun hb => ?_
   subst hb
   obtain ⟨l',o,hl',h0,hd,hhi⟩:=hr.entries _ _ he
   rw [hl] at hl'; cases hl'
   simp only [SObj.den,Option.some.injEq] at hd
   subst hd
   refine q4j (d:=w.drawn) (Nat.le_refl _) (hres _ he _ _ ?_)
   have hgi:(getObj l.blk).run P w=.ok (.mapIter none q1 q2.toArray q3) w:=by simp [getObj,Sem.run,hhi]
   simp only [Instr.next,Sem.run_bind,hgi,Result.andThen_ok,Sem.run_pure]
 . rename_i m since seen last he
   rw [qca] at he
   refine R.Sat.boolC (fun _=>trivial) fun hb => ?_
   subst hb
   exact qc6 hr hl he (ty:=t) (hres _ he)
 . rename_i s pos' he
   rw [qca] at he
   refine R.Sat.boolC (fun hb => ?_) fun _=>trivial
   subst hb
   exact qd6 hr hl he (ty:=t) (hres _ he)
 . trivial
theorem qxx:∀ l:List Nat,qe2 l=l.getLast?
 | []=>rfl
 | [a]=>rfl
 | a::b::l=>by
   have:=qxx (b::l)
   rw [List.getLast?_cons_cons,← this]; rfl
theorem qvu {s:Nat} {f:SV × SV × Nat->R OpRes} {φ:OpRes->Prop}:∀ {es:List (SV × SV × Nat)} {vs:List MapEntry},qma β es=some vs ->
  (∀ e v,e.1.den β=some v.key->e.2.1.den β=some v.val->vs.find? (·.born == s)=some v->(f e).Sat φ)->(qf2 s f es).Sat φ
 | [],_,_,_=>trivial
 | e::es,vs,h,hf=>by
   simp only [qma,Option.bind_eq_some_iff,Option.map_eq_some_iff] at h
   obtain ⟨k,hk,v,hv,rs,hr,rfl⟩:=h
   show R.Sat (boolC (Nat.beq e.2.2 s) (f e) (qf2 s f es)) φ
   refine R.Sat.boolC (fun hb => ?_) fun hb => ?_
   . refine hf e ⟨k,v,e.2.2⟩ hk hv ?_
     simp [Nat.eq_of_beq_eq_true hb]
   . refine qvu hr fun e' v' h1 h2 h3=>hf e' v' h1 h2 ?_
     have:(e.2.2 == s)=false:=by
      rw [beq_eq_false_iff_ne]
      intro h
      rw [h,show Nat.beq s s=true from Nat.beq_refl s] at hb
      cases hb
     simp [this,h3]
theorem qj3 (hr:HeapRel0 P O w0 β H w) {x:Operand} (hx:(ev x).den β=some (ρ x)) :
  (qd5 x P ev H base).Sat (qea P H β w base ((execOp ρ ⟨dst,.entry x,t,pos,af,g⟩).run P w)):=by
 refine qdg hx fun a A ha hA hxA=>SN.asLit_sat (fun o ho=>R.Sat.boolC (fun hz => ?_) fun _=>trivial) fun _=>trivial
 have:=Nat.eq_of_beq_eq_true hz
 subst this
 obtain ⟨l,hl,rfl⟩:=SA.den_some hA
 split
 . rename_i m q seen stepped he
   rw [qca] at he
   unfold qc5
   split
   . rename_i kS vS es c hm
     rw [qca] at hm
     rintro ⟨rfl,hne,hex⟩
     obtain ⟨lm,o,hlm,_,hd,hhm⟩:=hr.entries _ _ hm
     obtain ⟨hfit,rfl⟩:=SObj.amap_den.1 hd
     obtain ⟨l',o,hl',h0,hd,hhi⟩:=hr.entries _ _ he
     rw [hl] at hl'; cases hl'
     simp only [SObj.den,hlm,Option.map_some,Option.some.injEq] at hd
     subst hd
     have hsome:∃ e,es.find? (fun e=>e.born == q1e seen)=some e:=by
      obtain ⟨e,h1,h2⟩:=hex
      cases hf:es.find? (fun e=>e.born == q1e seen) with
      | some e=>exact ⟨e,rfl⟩
      | none =>
        have:=List.find?_eq_none.1 hf e h1
        simp [h2] at this
     obtain ⟨e,hf⟩:=hsome
     have hmem:=List.mem_of_find?_eq_some hf
     have hge:getB es (q1e seen)=e:=by unfold getB; rw [hf]; rfl
     have hlast:seen.toArray.back? = some (q1e seen):=by
      have:seen.getLast? = some (q1e seen):=by
       unfold q1e
       rw [List.getLast?_eq_some_getLast hne]; rfl
      simpa using this
     rw [hge]
     rw [ho,h0] at hxA
     simp only [SN.den,Nat.add_zero] at hxA
     refine qga (x:=.tuple #[e.key,e.val]) ?_ ?_
     . have hgi:(getObj l.blk).run P w=.ok (.mapIter (some lm.blk) q seen.toArray c) w:=by simp [getObj,Sem.run,hhi]
       have hgm:=qkb (P:=P) hhm
       have hfd:es.toArray.find? (·.born == q1e seen)=some e:=by simpa using hf
       have hrun:(Instr.entry (.pointer (some ⟨l.blk,0,none⟩))).run P w=.ok (.tuple #[e.key,e.val]) w:=by
        simp only [Instr.entry,Sem.run_bind,hgi,Result.andThen_ok,hlast,hgm,bne_self_eq_false,Bool.false_eq_true,if_false,hfd]
        rfl
       simp [execOp,hxA,hrun]
     . simp only [SV.den,SV.denL,(hfit e hmem).1 β,(hfit e hmem).2 β]
       rfl
   . rename_i es c hm
     rw [qca] at hm
     refine R.Sat.boolC (fun hc => ?_) fun _=>trivial
     have:=Nat.eq_of_beq_eq_true hc
     subst this
     obtain ⟨lm,o,hlm,_,hd,hhm⟩:=hr.entries _ _ hm
     simp only [SObj.den,Option.map_eq_some_iff] at hd
     obtain ⟨vs,hvs,rfl⟩:=hd
     obtain ⟨l',o,hl',h0,hd,hhi⟩:=hr.entries _ _ he
     rw [hl] at hl'; cases hl'
     simp only [SObj.den,hlm,Option.map_some,Option.some.injEq] at hd
     subst hd
     cases hls:qe2 seen with
     | none=>trivial
     | some s =>
       rw [optC_some]
       refine qvu hvs fun e v h1 h2 h3 => ?_
       rw [ho,h0] at hxA
       simp only [SN.den,Nat.add_zero] at hxA
       rw [qxx] at hls
       refine qga (x:=.tuple #[v.key,v.val]) ?_ ?_
       . have hgi:(getObj l.blk).run P w=.ok (.mapIter (some lm.blk) q seen.toArray c) w:=by simp [getObj,Sem.run,hhi]
         have hgm:=qkb (P:=P) hhm
         have hbk:seen.toArray.back? = some s:=by simpa using hls
         have hfd:vs.toArray.find? (·.born == s)=some v:=by simpa using h3
         have hrun:(Instr.entry (.pointer (some ⟨l.blk,0,none⟩))).run P w=.ok (.tuple #[v.key,v.val]) w:=by
          simp only [Instr.entry,Sem.run_bind,hgi,Result.andThen_ok,hbk,hgm,bne_self_eq_false,Bool.false_eq_true,if_false,hfd]
          rfl
         simp [execOp,hxA,hrun]
       . simp only [SV.den,SV.denL,h1,h2]
         rfl
   . trivial
 . trivial
end
end
noncomputable section
variable {α:Type}
section
variable {P:Program} {O:Nat->Prop} {w0:World} {β:Val} {H:List SO} {w:World} {base:Nat}
variable {ev:Operand->SV} {ρ:Operand->Value} {dst:Option Tmp} {t:TypeId} {pos:String} {af:Array Edge} {g:Option (Nat × Bool)}
theorem qon (hr:HeapRel0 P O w0 β H w) {v:SV} {x:Value} (hv:v.den β=some x) {size m n:Nat} (hn:∀ (P:Program) (w':World),(Builtin.lenOf x).run P w'=.ok n w') (hmn:m<=n) {f:List SV->R α} {φ:α->Prop}
  (hf:∀ l xs,SV.denL β l=some xs->(∀ w':World,w'.heap=w.heap->(Builtin.firstCells size m x).run P w'=.ok xs.toArray w')->xs.length=m * size->(f l).Sat φ):(qml H size v (.lit m) f).Sat φ:=by
 have hlen:=hn P w
 unfold qml
 split
 . simp only [SV.den,Option.some.injEq] at hv; subst hv
   simp only [Builtin.lenOf,Sem.run_pure,Result.ok.injEq,and_true] at hlen
   exact hf [] [] rfl (fun w' hw'=>qoa (w:=w) w' hw' (.inl ⟨0,rfl,rfl⟩)) (by
    have:m=0:=by omega
    rw [this]; simp)
 . rename_i a _ _ n' hm
   cases hm
   rw [den_slice] at hv
   obtain ⟨A,C,hA,hC,_,rfl⟩:=hv
   exact q9h hr hA fun l xs h1 h2 h3=>hf l xs h1 (fun w' hw'=>qoa w' hw' (.inr (.inl ⟨A,_,_,rfl,h2,h3⟩))) h2
 . rename_i a k l0 _ n' hm
   cases hm
   rw [qdc] at hv
   obtain ⟨A,C,hA,hC,hle,rfl⟩:=hv
   simp only [Builtin.lenOf,Sem.run_pure,Result.ok.injEq,and_true] at hlen
   refine q9h hr (SA.plus_den hA k) fun l xs h1 h2 h3=>hf l xs h1 (fun w' hw'=>qoa w' hw' (.inr (.inl ⟨_,_,_,rfl,h2,fun j y hy => ?_⟩))) h2
   by_cases hC0:C=0
   . have hm0:m=0:=by omega
     rw [hm0,Nat.zero_mul] at h2
     rw [List.eq_nil_of_length_eq_zero h2] at hy
     simp at hy
   . rw [if_neg hC0]; exact h3 j y hy
 . rename_i s n' hm
   cases hm
   simp only [SV.den,Option.some.injEq] at hv; subst hv
   simp only [Builtin.lenOf,Sem.run_pure,Result.ok.injEq,and_true] at hlen
   refine R.Sat.boolC (fun h1 => ?_) fun _=>trivial
   have h:=Nat.eq_of_beq_eq_true h1
   rw [qoc]
   refine hf _ _ (bytes_den β _) (fun w' hw'=>qoa (w:=w) w' hw' (.inr (.inr ⟨s,rfl,rfl⟩))) ?_
   rw [h]; simp; have:s.size=s.data.size:=rfl
   simp only [SStr.den] at hlen; omega
 . rename_i l n' hm
   cases hm
   simp only [SV.den,Option.some.injEq] at hv; subst hv
   simp only [Builtin.lenOf,Sem.run_pure,Result.ok.injEq,and_true] at hlen
   have hsz:(SStr.bytes l).den.size=l.length:=by
    show (l.map fun i=>UInt8.ofNat i.den.toNat).toArray.size=_
    simp
   refine R.Sat.boolC (fun h1 => ?_) fun _=>trivial
   have h:=Nat.eq_of_beq_eq_true h1
   intro hbnd
   rw [qoc,qja]
   refine hf _ _ (qkn β _) (fun w' hw'=>qoa (w:=w) w' hw' (.inr (.inr ⟨(SStr.bytes l).den,rfl,?_⟩))) ?_
   . simp only [SStr.den,bytesOf,← List.map_take,List.map_map]
     refine List.map_congr_left fun i hi => ?_
     have:=hbnd i (List.mem_of_mem_take hi)
     simp only [Function.comp,UInt8.toNat_ofNat']
     rw [Nat.mod_eq_of_lt (by omega)]
     congr 1; omega
   . rw [h]; simp; omega
 . trivial
structure CatSet (P:Program) (w:World) (tys:Array TypeId) (st elem:TypeId) (i:TypeInfo) (z:Value) (x:Value) (xs:List Value) (n:Nat) (Y:Nat->BitVec 8):Prop where
 ht:tys[0]? = some st
 hd:P.underlying st=some (.slice elem)
 hi:P.info? elem=some i
 hz:i.zero=some z
 hzl:z.cells.size=i.size
 hm:qyf P tys=true
 hn:(Builtin.lenOf x).run P w=.ok n w
 hx:∀ w':World,w'.heap=w.heap->(Builtin.firstCells 1 n x).run P w'=.ok xs.toArray w'
 hxl:xs.length=n
 hY:∀ j,j<n->xs[j]? = some (.int .u8 ((Y j).toNat:Int))
theorem qpn (hr:HeapRel0 P O w0 β H w) {tys:Array TypeId} {st elem ty:TypeId} {i:TypeInfo} {z x:Value} {xs:List Value} {n len c:SN} {Y:Nat->BitVec 8} (S:CatSet P w tys st elem i z x xs n.den Y) {s:SV} {A:Addr} (hs:s.den β=some (.slice (some A) len.den c.den)) {res:Result Next}
  (hres:∀ v w',(Builtin.append_ tys ty #[.slice (some A) len.den c.den,x]).run P w=.ok v w'->res=.ok (.value v) w') :
  (q7p H base elem i.size i.bytes s c len n Y).Sat (qea P H β w base res):=by
 refine q3r hr hs (n:=len) rfl fun X os h1 h2 h3 => ?_
 rintro ⟨hgt,⟨hb1,hb2⟩,hs1⟩
 obtain ⟨cap,hcap,hrun⟩:=qjb (ty:=ty) (bs:=some A) (sLen:=len.den) (sCap:=c.den) (os:=os) (xs:=xs) S.ht S.hd S.hi S.hz S.hm S.hn (by rw [hs1]; exact S.hx) (by rw [hs1]; exact h3) hgt hb1 hb2
 refine q1g (c:=.fn (qna (catB X len.den Y)) (len.den+n.den)) (vs:=os++xs) (len:=len.den+n.den) S.hi S.hzl (qr0 h1 S.hxl h2 S.hY) (by rw [hs1,List.length_append,h1,S.hxl,Nat.mul_one]) hcap (SN.add_den _ _) (hres _ _ ?_)
 rw [hrun]; congr 3; simp
theorem qtv (hr:HeapRel0 P O w0 β H w) {tys:Array TypeId} {st elem ty:TypeId} {i:TypeInfo} {z x:Value} {xs:List Value} {n len:SN} {Y:Nat->BitVec 8} (S:CatSet P w tys st elem i z x xs n.den Y) {a:SA} {A:Addr} {nm k C:Nat} (hA:a.den β=some A) (hC:(SC.rest nm k).den β=some C) {res:Result Next}
  (hres:∀ v w',(Builtin.append_ tys ty #[.slice (some A) len.den C,x]).run P w=.ok v w'->res=.ok (.value v) w') :
  (qbu H base elem i.size i.bytes a nm k len n Y).Sat (qea P H β w base res):=by
 refine R.Sat.boolC (fun hnm=>R.Sat.boolC (fun hk=>SN.asLit_sat (fun o ho=>R.Sat.boolC (fun ho0=>qgb fun e he => ?_) fun _=>trivial) fun _=>trivial) fun _=>trivial) fun _=>trivial
 obtain rfl:=Nat.eq_of_beq_eq_true hnm
 obtain rfl:=Nat.eq_of_beq_eq_true hk
 obtain rfl:=Nat.eq_of_beq_eq_true ho0
 cases e with
 | row=>trivial
 | loop=>trivial
 | deferred=>trivial
 | gone=>trivial
 | obj=>trivial
 | own cl wh el =>
   refine R.Sat.boolC (fun hel => ?_) fun _=>trivial
   obtain rfl:=Nat.eq_of_beq_eq_true hel
   obtain ⟨ll,vs,rest,lo,hi,hbl,h0',hc,hh,hfz,hw,hcap⟩:=hr.entries _ _ he
   obtain ⟨l',hl',hAe⟩:=SA.den_some hA
   rw [hbl] at hl'; cases hl'
   have hAe':A=⟨ll.blk,0,none⟩:=by rw [hAe,h0',ho]; rfl
   have hCe:C=ll.cap:=by
    simp only [SC.den,hbl,Option.map_some,Option.some.injEq] at hC; omega
   refine qlg hc fun X hle hX => ?_
   rw [Nat.zero_add] at hle
   rintro ⟨⟨hb1,hb2⟩,hs1⟩
   have hol:(vs.take len.den).length=len.den:=by rw [List.length_take]; omega
   have hos:∀ j,j<len.den->(vs.take len.den)[j]? = some (.int .u8 ((X j).toNat:Int)):=by
    intro j hj
    rw [List.getElem?_take,if_pos hj]
    have:=hX j hj
    rw [Nat.zero_add] at this; exact this
   have hcells:∀ (j:Nat) (y:Value),(vs.take len.den)[j]? = some y->w.cell? (A.add j)=some y:=by
    intro j y hy
    rw [hAe',q8a,cell?_of hh,Nat.zero_add]
    rw [List.getElem?_take] at hy
    split at hy
    . have:=(List.getElem?_eq_some_iff.1 hy).1
      simp [List.getElem?_append_left this,hy]
    . cases hy
   have hnewd:CellsRel β (.fn (qna (catB X len.den Y)) (len.den+n.den)) (vs.take len.den++xs):=qr0 hol S.hxl hos S.hY
   rcases Nat.lt_or_ge C (len.den+n.den) with hgt | hfit
   . obtain ⟨cap,hcap',hrun⟩:=qjb (ty:=ty) (bs:=some A) (sLen:=len.den) (sCap:=C) (os:=vs.take len.den) (xs:=xs) S.ht S.hd S.hi S.hz S.hm S.hn (by rw [hs1]; exact S.hx)
      (fun w' hw'=>qoa w' hw' (.inr (.inl ⟨A,len.den,C,rfl,by rw [hol,hs1,Nat.mul_one],hcells⟩))) hgt hb1 hb2
     exact qik (c:=.fn _ _) he rfl S.hi S.hzl hnewd (by rw [hs1,List.length_append,hol,S.hxl,Nat.mul_one]) hcap' (SN.add_den _ _) (hres _ _ (by rw [hrun]; congr 3; simp))
   . have hroom:len.den+xs.length<=(vs++rest).length:=by
      have h1:=hcap i S.hi
      rw [hs1,Nat.mul_one] at h1
      rw [S.hxl]; rw [← hCe] at h1; omega
     have hsc:∀ y∈xs,y.oneCell'=true:=by
      intro y hy
      obtain ⟨j,hj⟩:=List.getElem?_of_mem hy
      have hlt:=(List.getElem?_eq_some_iff.1 hj).1
      rw [S.hY j (by rw [← S.hxl]; exact hlt)] at hj
      cases hj; rfl
     have hrun:=qlc (P:=P) xs (vs++rest) (0+len.den) 0 w hh hsc hfz.at (by omega)
     rw [Nat.add_zero,Nat.zero_add] at hrun
     have hplace:=qcb (ty:=ty) (bs:=some A) (sLen:=len.den) (sCap:=C) S.ht S.hd S.hi S.hm S.hn (by rw [hs1]; exact S.hx w rfl) hfit (by rw [hAe',hs1,Nat.mul_one]; simp only [q8a,Nat.zero_add]; exact hrun)
     have hover:qvb (vs++rest) len.den xs=(vs.take len.den++xs)++(vs++rest).drop (len.den+xs.length):=by
      unfold qvb; rw [List.take_append_of_le_length hle]
     have hlt:ll.blk<w.heap.size:=(Array.getElem?_eq_some_iff.1 hh).1
     have hlen':((vs.take len.den++xs)++(vs++rest).drop (len.den+xs.length)).length=(vs++rest).length:=by
      rw [← hover,q6a hroom]
     refine fun hb=>⟨.value _,_,_,β.upd base ll,hres _ _ hplace,rfl,?_,?_,?_⟩
     . rw [den_slice]
       refine ⟨⟨ll.blk,0,none⟩,C,by simp [SA.den,Val.upd_same,h0',SN.den],by simp [SC.den,Val.upd_same,hCe],by rw [SN.add_den]; exact hfit,by rw [hAe',SN.add_den]⟩
     . refine ⟨Val.upd_le hb.hd,rfl,rfl,rfl,Nat.le_refl _,by simp,?_,?_,?_,?_,?_,?_⟩
       . intro m hm
         unfold Val.upd
         rw [if_neg]; simp at hm; omega
       . intro b _ hn
         have:=hn a.nm .gone ll (by simp) hbl
         simp [this]
       . intro m e1 e2 h1 h2; simp at h1 h2; rw [h1.2,h2.2]
       . intro m e h1; simp at h1; rw [h1.2]; trivial
       . intro j e hj
         cases j with
         | succ j=>simp at hj
         | zero =>
           simp at hj; subst hj
           refine ⟨rfl,⟨ll,_,(vs++rest).drop (len.den+xs.length),lo,hi,Val.upd_same _ _ _,h0',hnewd.mono (Val.upd_le hb.hd),?_,?_,by simp,?_⟩,ll,Val.upd_same _ _ _,.inr ⟨a.nm,ll,by simp,hbl,rfl⟩⟩
           . rw [← hover]; simp [hlt]
           . rw [hlen']; exact hfz
           . intro j hj; rw [hlen']; exact hcap j hj
       . intro j k l l' hjk hj hk; simp at hj hk; omega
     . intro m e hm
       simp at hm
       obtain ⟨rfl,rfl⟩:=hm
       exact ⟨_,he,rfl⟩
theorem qqn (hr:HeapRel0 P O w0 β H w) {tys:Array TypeId} {st elem ty:TypeId} {i:TypeInfo} {z xv:Value} {n len l:SN} {x:SV} (hx:x.den β=some xv) (ht:tys[0]? = some st) (hd:P.underlying st=some (.slice elem)) (hi:P.info? elem=some i) (hz:i.zero=some z) (hzl:z.cells.size=i.size) (hm:qyf P tys=true) (hn:(Builtin.lenOf xv).run P w=.ok n.den w)
  {a:SA} {c:SC} {sv:Value} (hs:(SV.slice a l c).den β=some sv) (hlen:∀ (P:Program) (w':World),(Builtin.lenOf sv).run P w'=.ok len.den w') {res:Result Next}
  (hres:∀ v w',(Builtin.append_ tys ty #[sv,xv]).run P w=.ok v w'->res=.ok (.value v) w') :
  (q4v H base elem i.size i.bytes a l c len n x).Sat (qea P H β w base res):=by
 refine q3r hr hx hn fun Y xs h1 h2 h3 => ?_
 have S:CatSet P w tys st elem i z xv xs n.den Y:=⟨ht,hd,hi,hz,hzl,hm,hn,h3,h1,h2⟩
 have hs0:=hs
 rw [den_slice] at hs
 obtain ⟨A,C,hA,hC,hLC,rfl⟩:=hs
 have hl0:len.den=l.den:=q8b hlen P w
 rw [← hl0] at hres hs0 hLC
 cases c with
 | lit c' =>
   simp only [SC.den,Option.some.injEq] at hC
   subst hC
   exact qpn (c:=.lit c') (ty:=ty) hr S hs0 hres
 | sym c' =>
   simp only [SC.den,Option.some.injEq] at hC
   subst hC
   exact qpn (c:=.sym c') (ty:=ty) hr S hs0 hres
 | rest nm k=>exact qtv (ty:=ty) hr S hA hC hres
theorem qjq (hr:HeapRel0 P O w0 β H w) {v:SV} {x:Value} (hv:v.den β=some x) {n size:Nat} (hn:(Builtin.lenOf x).run P w=.ok n w) {f:(Nat->Value)->R α} {φ:α->Prop}
  (hf:∀ (X:Nat->Value) (xs:List Value),xs.length=n * size->(∀ j,j<n * size->xs[j]? = some (X j))->(∀ w':World,w'.heap=w.heap->(Builtin.firstCells size n x).run P w'=.ok xs.toArray w')->(f X).Sat φ):(rawV H v (n * size) f).Sat φ:=by
 unfold rawV
 split
 . simp only [SV.den,Option.some.injEq] at hv; subst hv
   simp only [Builtin.lenOf,Sem.run_pure,Result.ok.injEq,and_true] at hn
   have hz:n=0:=hn.symm
   subst hz
   refine hf _ [] (by simp) (fun j hj=>by simp at hj) fun w' hw'=>qoa (w:=w) w' hw' (.inl ⟨0,rfl,rfl⟩)
 . rename_i a l c
   rw [den_slice] at hv
   obtain ⟨A,C,hA,hC,_,rfl⟩:=hv
   refine qgb fun e he => ?_
   have key:∀ cl:Cells,e.cells? = some cl->(qmo cl a.off.den (n * size) f).Sat φ:=by
    intro cl hcl
    obtain ⟨ll,vs,hl,hcr,hcell⟩:=qub hr he hcl
    obtain ⟨l',hl',rfl⟩:=SA.den_some hA
    rw [hl] at hl'; cases hl'
    refine q9m hcr fun X hle hX=>hf X ((vs.drop a.off.den).take (n * size)) (by simp; omega) (fun j hj => ?_) fun w' hw' => ?_
    . rw [List.getElem?_take,if_pos hj,List.getElem?_drop]; exact hX j hj
    . refine qoa w' hw' (.inr (.inl ⟨_,_,_,rfl,by simp; omega,fun j y hy => ?_⟩))
      rw [List.getElem?_take] at hy
      split at hy
      . rw [List.getElem?_drop] at hy
        rw [q8a,Nat.add_assoc]; exact hcell _ _ hy
      . cases hy
   cases e with
   | own c w el=>exact key c rfl
   | row c=>exact key c rfl
   | loop=>trivial
   | deferred=>trivial
   | gone=>trivial
   | obj=>trivial
 . rename_i a k l c
   rw [qdc] at hv
   obtain ⟨A,C,hA,hC,hle,rfl⟩:=hv
   simp only [Builtin.lenOf,Sem.run_pure,Result.ok.injEq,and_true] at hn
   refine qgb fun e he => ?_
   have key:∀ cl:Cells,e.cells? = some cl->(qmo cl (a.off.den+k.den) (n * size) f).Sat φ:=by
    intro cl hcl
    obtain ⟨ll,vs,hl,hcr,hcell⟩:=qub hr he hcl
    obtain ⟨l',hl',rfl⟩:=SA.den_some hA
    rw [hl] at hl'; cases hl'
    refine q9m hcr fun X hle' hX=>hf X ((vs.drop (a.off.den+k.den)).take (n * size)) (by simp; omega) (fun j hj => ?_) fun w' hw' => ?_
    . rw [List.getElem?_take,if_pos hj,List.getElem?_drop]; exact hX j hj
    . refine qoa w' hw' (.inr (.inl ⟨_,_,_,rfl,by simp; omega,fun j y hy => ?_⟩))
      rw [List.getElem?_take] at hy
      split at hy
      . rename_i hj
        rw [List.getElem?_drop] at hy
        have hC0:¬ C=0:=by
         intro hC0
         have:n=0:=by omega
         rw [this,Nat.zero_mul] at hj; omega
        rw [if_neg hC0,q8a,q8a,Nat.add_assoc,Nat.add_assoc]
        have:=hcell _ _ hy
        rw [Nat.add_assoc] at this
        exact this
      . cases hy
   cases e with
   | own c w el=>exact key c rfl
   | row c=>exact key c rfl
   | loop=>trivial
   | deferred=>trivial
   | gone=>trivial
   | obj=>trivial
 . trivial
theorem qkq {X Y:Nat->Value} {os xs:List Value} {l n:Nat} (h1:os.length=l) (h2:xs.length=n) (hX:∀ j,j<l->os[j]? = some (X j)) (hY:∀ j,j<n->xs[j]? = some (Y j)) {N:Nat} (hN:N=l+n) :
  CellsRel β (.raw (catV X l Y) N) (os++xs):=by
 subst hN
 refine ⟨by simp [h1,h2],fun i y hy => ?_⟩
 unfold catV
 by_cases hi:i<l
 . rw [if_pos hi]
   rw [List.getElem?_append_left (by omega),hX i hi] at hy
   exact (Option.some.inj hy).symm
 . rw [if_neg hi]
   rw [List.getElem?_append_right (by omega),h1] at hy
   have hlt:=(List.getElem?_eq_some_iff.1 hy).1
   rw [hY (i - l) (by omega)] at hy
   exact (Option.some.inj hy).symm
structure RawSet (P:Program) (w:World) (tys:Array TypeId) (st elem:TypeId) (i:TypeInfo) (z:Value) (x:Value) (xs:List Value) (n:Nat) (Y:Nat->Value):Prop extends ApSet P w tys st elem i z x xs n where
 hY:∀ j,j<n * i.size->xs[j]? = some (Y j)
theorem RawSet.one {tys:Array TypeId} {st elem:TypeId} {i:TypeInfo} {z x:Value} {xs:List Value} {n:Nat} {Y:Nat->Value} (S:RawSet P w tys st elem i z x xs n Y) (h:∀ j,j<n * i.size->(Y j).oneCell'=true):∀ y∈xs,y.oneCell'=true:=by
 intro y hy
 obtain ⟨j,hj⟩:=List.getElem?_of_mem hy
 have hlt:=(List.getElem?_eq_some_iff.1 hj).1
 rw [S.hxl] at hlt
 rw [S.hY j hlt] at hj
 cases hj
 exact h j hlt
theorem quv (hr:HeapRel0 P O w0 β H w) {tys:Array TypeId} {st elem ty:TypeId} {i:TypeInfo} {z x:Value} {xs:List Value} {n len:SN} {Y:Nat->Value} (S:RawSet P w tys st elem i z x xs n.den Y) {a:SA} {A:Addr} {nm k C:Nat} (hA:a.den β=some A) (hC:(SC.rest nm k).den β=some C) {res:Result Next}
  (hres:∀ v w',(Builtin.append_ tys ty #[.slice (some A) len.den C,x]).run P w=.ok v w'->res=.ok (.value v) w') :
  (qcu H base elem i.size i.bytes a nm k len n Y).Sat (qea P H β w base res):=by
 refine R.Sat.boolC (fun hnm=>R.Sat.boolC (fun hk=>SN.asLit_sat (fun o ho=>R.Sat.boolC (fun ho0=>qgb fun e he => ?_) fun _=>trivial) fun _=>trivial) fun _=>trivial) fun _=>trivial
 obtain rfl:=Nat.eq_of_beq_eq_true hnm
 obtain rfl:=Nat.eq_of_beq_eq_true hk
 obtain rfl:=Nat.eq_of_beq_eq_true ho0
 cases e with
 | row=>trivial
 | loop=>trivial
 | deferred=>trivial
 | gone=>trivial
 | obj=>trivial
 | own cl wh el =>
   refine R.Sat.boolC (fun hel => ?_) fun _=>trivial
   obtain rfl:=Nat.eq_of_beq_eq_true hel
   obtain ⟨ll,vs,rest,lo,hi,hbl,h0',hc,hh,hfz,hw,hcap⟩:=hr.entries _ _ he
   obtain ⟨l',hl',hAe⟩:=SA.den_some hA
   rw [hbl] at hl'; cases hl'
   have hAe':A=⟨ll.blk,0,none⟩:=by rw [hAe,h0',ho]; rfl
   have hCe:C=ll.cap:=by
    simp only [SC.den,hbl,Option.map_some,Option.some.injEq] at hC; omega
   refine q9m hc fun X hle hX => ?_
   rw [Nat.zero_add] at hle
   rintro ⟨⟨hb1,hb2⟩,hone⟩
   have hol:(vs.take (len.den * i.size)).length=len.den * i.size:=by rw [List.length_take]; omega
   have hos:∀ j,j<len.den * i.size->(vs.take (len.den * i.size))[j]? = some (X j):=by
    intro j hj
    rw [List.getElem?_take,if_pos hj]
    have:=hX j hj
    rw [Nat.zero_add] at this; exact this
   have hcells:∀ (j:Nat) (y:Value),(vs.take (len.den * i.size))[j]? = some y->w.cell? (A.add j)=some y:=by
    intro j y hy
    rw [hAe',q8a,cell?_of hh,Nat.zero_add]
    rw [List.getElem?_take] at hy
    split at hy
    . have:=(List.getElem?_eq_some_iff.1 hy).1
      simp [List.getElem?_append_left this,hy]
    . cases hy
   have hN:(len.den+n.den) * i.size=len.den * i.size+n.den * i.size:=Nat.add_mul _ _ _
   have hnewd:CellsRel β (.raw (catV X (len.den * i.size) Y) ((len.den+n.den) * i.size)) (vs.take (len.den * i.size)++xs):=qkq hol S.hxl hos S.hY hN
   have hnewl:(vs.take (len.den * i.size)++xs).length=(len.den+n.den) * i.size:=by rw [List.length_append,hol,S.hxl,hN]
   rcases Nat.lt_or_ge C (len.den+n.den) with hgt | hfit
   . obtain ⟨cap,hcap',hrun⟩:=qjb (ty:=ty) (bs:=some A) (sLen:=len.den) (sCap:=C) (os:=vs.take (len.den * i.size)) (xs:=xs) S.ht S.hd S.hi S.hz S.hm S.hn S.hx
      (fun w' hw'=>qoa w' hw' (.inr (.inl ⟨A,len.den,C,rfl,hol,hcells⟩))) hgt hb1 hb2
     exact qik (c:=.raw _ _) he rfl S.hi S.hzl hnewd hnewl hcap' (SN.add_den _ _) (hres _ _ (by rw [hrun]; congr 3; simp))
   . have hroom:len.den * i.size+xs.length<=(vs++rest).length:=by
      have h1:=hcap i S.hi
      rw [S.hxl,← hN]
      refine Nat.le_trans (Nat.mul_le_mul_right _ hfit) ?_
      rw [hCe]; exact h1
     have hrun:=qlc (P:=P) xs (vs++rest) (0+len.den * i.size) 0 w hh (S.one hone) hfz.at (by omega)
     rw [Nat.add_zero,Nat.zero_add] at hrun
     have hplace:=qcb (ty:=ty) (bs:=some A) (sLen:=len.den) (sCap:=C) S.ht S.hd S.hi S.hm S.hn (S.hx w rfl) hfit (by rw [hAe']; simp only [q8a,Nat.zero_add]; exact hrun)
     have hover:qvb (vs++rest) (len.den * i.size) xs=(vs.take (len.den * i.size)++xs)++(vs++rest).drop (len.den * i.size+xs.length):=by
      unfold qvb; rw [List.take_append_of_le_length hle]
     have hlt:ll.blk<w.heap.size:=(Array.getElem?_eq_some_iff.1 hh).1
     have hlen':((vs.take (len.den * i.size)++xs)++(vs++rest).drop (len.den * i.size+xs.length)).length=(vs++rest).length:=by
      rw [← hover,q6a hroom]
     refine fun hb=>⟨.value _,_,_,β.upd base ll,hres _ _ hplace,rfl,?_,?_,?_⟩
     . rw [den_slice]
       refine ⟨⟨ll.blk,0,none⟩,C,by simp [SA.den,Val.upd_same,h0',SN.den],by simp [SC.den,Val.upd_same,hCe],by rw [SN.add_den]; exact hfit,by rw [hAe',SN.add_den]⟩
     . refine ⟨Val.upd_le hb.hd,rfl,rfl,rfl,Nat.le_refl _,by simp,?_,?_,?_,?_,?_,?_⟩
       . intro m hm
         unfold Val.upd
         rw [if_neg]; simp at hm; omega
       . intro b _ hn
         have:=hn a.nm .gone ll (by simp) hbl
         simp [this]
       . intro m e1 e2 h1 h2; simp at h1 h2; rw [h1.2,h2.2]
       . intro m e h1; simp at h1; rw [h1.2]; trivial
       . intro j e hj
         cases j with
         | succ j=>simp at hj
         | zero =>
           simp at hj; subst hj
           refine ⟨rfl,⟨ll,_,(vs++rest).drop (len.den * i.size+xs.length),lo,hi,Val.upd_same _ _ _,h0',hnewd.mono (Val.upd_le hb.hd),?_,?_,by simp,?_⟩,ll,Val.upd_same _ _ _,.inr ⟨a.nm,ll,by simp,hbl,rfl⟩⟩
           . rw [← hover]; simp [hlt]
           . rw [hlen']; exact hfz
           . intro j hj; rw [hlen']; exact hcap j hj
       . intro j k l l' hjk hj hk; simp at hj hk; omega
     . intro m e hm
       simp at hm
       obtain ⟨rfl,rfl⟩:=hm
       exact ⟨_,he,rfl⟩
theorem qrn (hr:HeapRel0 P O w0 β H w) {tys:Array TypeId} {st elem ty:TypeId} {i:TypeInfo} {z x:Value} {xs:List Value} {n len l:SN} {sc:SC} {Y:Nat->Value} (S:RawSet P w tys st elem i z x xs n.den Y) {a:SA} {A:Addr} {c:Nat} (hA:a.den β=some A) (hC:sc.den β=some c) (hl:len.den=l.den) (hlc:l.den<=c) {res:Result Next}
  (hres:∀ v w',(Builtin.append_ tys ty #[.slice (some A) len.den c,x]).run P w=.ok v w'->res=.ok (.value v) w') :
  (q8p H base elem i.size i.bytes a l sc c len n Y).Sat (qea P H β w base res):=by
 refine ⟨fun hle=>qgb fun e he => ?_,fun hgt => ?_⟩
 . have hle':len.den+n.den<=c:=of_decide_eq_true hle
   cases e with
   | row=>trivial
   | loop=>trivial
   | deferred=>trivial
   | gone=>trivial
   | obj=>trivial
   | own cl wh el =>
     obtain ⟨ll,vs,rest,lo,hi,hbl,h0',hc,hh,hfz,hw,hcap⟩:=hr.entries _ _ he
     obtain ⟨l',hl',rfl⟩:=SA.den_some hA
     rw [hbl] at hl'; cases hl'
     refine qhx hc S.hxl S.hY fun c' hc' hle2 => ?_
     intro hone
     have hoff:a.off.den+len.den * i.size+xs.length<=vs.length:=hle2
     have hrun:=qlc (P:=P) xs (vs++rest) (ll.off+a.off.den+len.den * i.size) 0 w hh (S.one hone) hfz.at (by rw [h0']; simp; omega)
     rw [Nat.add_zero,h0',Nat.zero_add,q5e hoff] at hrun
     have hplace:=qcb (ty:=ty) (bs:=some ⟨ll.blk,ll.off+a.off.den,none⟩) (sLen:=len.den) (sCap:=c) S.ht S.hd S.hi S.hm S.hn (S.hx w rfl) hle' (by simp only [q8a]; rw [h0',Nat.zero_add]; exact hrun)
     refine fun hb=>⟨.value _,_,_,β,hres _ _ hplace,rfl,?_,Eff.turn hbl ?_,?_⟩
     . rw [den_slice]
       exact ⟨_,c,hA,hC,by rw [SN.add_den]; exact hle',by rw [SN.add_den]⟩
     . have hlt:ll.blk<w.heap.size:=(Array.getElem?_eq_some_iff.1 hh).1
       refine ⟨ll,_,rest,lo,hi,hbl,h0',hc',by simp [hlt],?_,hw,?_⟩
       . simp only [List.length_append,q6a hle2] at hfz ⊢; exact hfz
       . intro j hj
         have:=hcap j hj
         simp only [List.length_append,q6a hle2] at this ⊢; exact this
     . intro m e hm
       simp at hm
       obtain ⟨rfl,rfl⟩:=hm
       exact ⟨_,he,rfl⟩
 . have hgt':c<len.den+n.den:=by have:=of_decide_eq_false hgt; omega
   have hs:(SV.slice a l sc).den β=some (.slice (some A) len.den c):=by
    rw [den_slice]; exact ⟨A,c,hA,hC,hlc,by rw [hl]⟩
   refine qjq hr hs (n:=len.den) rfl fun X os h1 h2 h3 => ?_
   rintro ⟨hb1,hb2⟩
   obtain ⟨cap,hcap,hrun⟩:=qjb (ty:=ty) (bs:=some A) (sLen:=len.den) (sCap:=c) (os:=os) (xs:=xs) S.ht S.hd S.hi S.hz S.hm S.hn S.hx h3 hgt' hb1 hb2
   have hN:(len.den+n.den) * i.size=len.den * i.size+n.den * i.size:=Nat.add_mul _ _ _
   refine q1g (c:=.raw (catV X (len.den * i.size) Y) ((len.den+n.den) * i.size)) (vs:=os++xs) (len:=len.den+n.den) S.hi S.hzl (qkq h1 S.hxl h2 S.hY hN) (by rw [List.length_append,h1,S.hxl,hN]) hcap (SN.add_den _ _) (hres _ _ ?_)
   rw [hrun]; congr 3; simp
theorem qk3 (hr:HeapRel0 P O w0 β H w) {tys:Array TypeId} {st elem ty:TypeId} {i:TypeInfo} {z x:Value} {xs:List Value} {n len l:SN} {Y:Nat->Value} (S:RawSet P w tys st elem i z x xs n.den Y) {a:SA} {A:Addr} (hA:a.den β=some A) (hl:len.den=l.den) (hlc:l.den<=0) {res:Result Next}
  (hres:∀ v w',(Builtin.append_ tys ty #[.slice (some A) len.den 0,x]).run P w=.ok v w'->res=.ok (.value v) w') :
  (q84 H base elem i.size i.bytes a l len n Y).Sat (qea P H β w base res):=by
 refine ⟨fun hle => ?_,fun hgt => ?_⟩
 . have hle':len.den+n.den<=0:=of_decide_eq_true hle
   have hn0:n.den=0:=by omega
   have hl0:len.den=0:=by omega
   have hxs:xs=[]:=List.eq_nil_of_length_eq_zero (by rw [S.hxl,hn0]; simp)
   have hplace:=qcb (ty:=ty) (bs:=some A) (sLen:=len.den) (sCap:=0) (w':=w) S.ht S.hd S.hi S.hm S.hn (S.hx w rfl) hle' (by rw [hxs]; rfl)
   refine qga (hres _ _ hplace) ?_
   rw [den_slice]
   exact ⟨A,0,hA,rfl,Nat.le_refl _,by rw [hn0,hl0]; rfl⟩
 . have hgt':0<len.den+n.den:=by have:=of_decide_eq_false hgt; omega
   have hs:(SV.slice a l (.lit 0)).den β=some (.slice (some A) len.den 0):=by
    rw [den_slice]; exact ⟨A,0,hA,rfl,hlc,by rw [hl]⟩
   refine qjq hr hs (n:=len.den) rfl fun X os h1 h2 h3 => ?_
   rintro ⟨hb1,hb2⟩
   obtain ⟨cap,hcap,hrun⟩:=qjb (ty:=ty) (bs:=some A) (sLen:=len.den) (sCap:=0) (os:=os) (xs:=xs) S.ht S.hd S.hi S.hz S.hm S.hn S.hx h3 hgt' hb1 hb2
   have hN:(len.den+n.den) * i.size=len.den * i.size+n.den * i.size:=Nat.add_mul _ _ _
   refine q1g (c:=.raw (catV X (len.den * i.size) Y) ((len.den+n.den) * i.size)) (vs:=os++xs) (len:=len.den+n.den) S.hi S.hzl (qkq h1 S.hxl h2 S.hY hN) (by rw [List.length_append,h1,S.hxl,hN]) hcap (SN.add_den _ _) (hres _ _ ?_)
   rw [hrun]; congr 3; simp
theorem qci (hr:HeapRel0 P O w0 β H w) {tys:Array TypeId} {st elem ty:TypeId} {i:TypeInfo} {z xv sv:Value} {n len:SN} {s x:SV} (hs:s.den β=some sv) (hx:x.den β=some xv) (ht:tys[0]? = some st) (hd:P.underlying st=some (.slice elem)) (hi:P.info? elem=some i) (hz:i.zero=some z) (hzl:z.cells.size=i.size) (hm:qyf P tys=true) (hn:(Builtin.lenOf xv).run P w=.ok n.den w)
  (hlen:∀ (P:Program) (w':World),(Builtin.lenOf sv).run P w'=.ok len.den w') {res:Result Next}
  (hres:∀ v w',(Builtin.append_ tys ty #[sv,xv]).run P w=.ok v w'->res=.ok (.value v) w') :
  (qro H base elem i.size i.bytes len n s x).Sat (qea P H β w base res):=by
 refine qjq hr hx hn fun Y xs h1 h2 h3 => ?_
 have S:RawSet P w tys st elem i z xv xs n.den Y:=⟨⟨ht,hd,hi,hz,hzl,hm,hn,h3,h1⟩,h2⟩
 split
 . simp only [SV.den,Option.some.injEq] at hs; subst hs
   refine ⟨fun h0 => ?_,fun h0 => ?_⟩
   . have hn0:n.den=0:=of_decide_eq_true h0
     have hxs:xs=[]:=List.eq_nil_of_length_eq_zero (by rw [h1,hn0]; simp)
     subst hxs
     exact qga (hres _ _ (qcb (ty:=ty) (bs:=none) (sLen:=0) (sCap:=0) (w':=w) (xs:=[]) ht hd hi hm hn (h3 w rfl) (by omega) rfl)) (by rw [hn0]; rfl)
   . have hpos:¬ n.den=0:=of_decide_eq_false h0
     rintro ⟨hr1,hr2⟩
     obtain ⟨cap,hcap,hrun⟩:=qjb (ty:=ty) (bs:=none) (sLen:=0) (sCap:=0) (os:=[]) (xs:=xs) ht hd hi hz hm hn h3 (fun w' _=>rfl) (by omega) (by simpa using hr1) (by simpa using hr2)
     refine q1g (c:=.raw Y (n.den * i.size)) (vs:=xs) (len:=n.den) hi hzl ⟨h1,fun j y hj => ?_⟩ h1 (by simpa using hcap) rfl (hres _ _ ?_)
     . have hlt:=(List.getElem?_eq_some_iff.1 hj).1
       rw [h2 j (by omega)] at hj
       exact (Option.some.inj hj).symm
     . rw [hrun]; simp
 . rename_i a l nm k
   rw [den_slice] at hs
   obtain ⟨A,C,hA,hC,hLC,rfl⟩:=hs
   have hl0:len.den=l.den:=q8b hlen P w
   rw [← hl0] at hres
   exact quv (ty:=ty) hr S hA hC hres
 . rename_i a l c
   rw [den_slice] at hs
   obtain ⟨A,C,hA,hC,hLC,rfl⟩:=hs
   have hl0:len.den=l.den:=q8b hlen P w
   have hC':C=c:=(Option.some.inj hC).symm
   subst hC'
   rw [← hl0] at hres
   refine R.Sat.boolC (fun hb => ?_) fun _=>qrn (ty:=ty) hr S hA rfl hl0 hLC hres
   have hb:=Nat.eq_of_beq_eq_true hb
   subst hb
   exact qk3 (ty:=ty) hr S hA hl0 hLC hres
 . rename_i a l c
   rw [den_slice] at hs
   obtain ⟨A,C,hA,hC,hLC,rfl⟩:=hs
   have hl0:len.den=l.den:=q8b hlen P w
   have hC':C=c:=(Option.some.inj hC).symm
   subst hC'
   rw [← hl0] at hres
   exact qrn (ty:=ty) hr S hA rfl hl0 hLC hres
 . trivial
theorem qtp (hr:HeapRel0 P O w0 β H w) {tys:Array TypeId} {ty:TypeId} {s x:SV} {sv xv:Value} (hs:s.den β=some sv) (hx:x.den β=some xv) {res:Result Next}
  (hres:∀ v w',(Builtin.append_ tys ty #[sv,xv]).run P w=.ok v w'->res=.ok (.value v) w') :
  (q1i P H base tys s x).Sat (qea P H β w base res):=by
 refine R.Sat.opt fun st ht=>R.Sat.opt fun d hd=>qhq (fun elem hde => ?_) trivial
 subst hde
 refine R.Sat.opt fun i hi=>R.Sat.boolC (fun hm=>R.Sat.opt fun z hz=>R.Sat.boolC (fun hzl=>qhh hx fun n hn=>qhh hs fun len hlen => ?_) fun _=>trivial) fun _=>trivial
 obtain ⟨i',zv,hi',hzv,hden⟩:=qfe hz
 rw [hi] at hi'; cases hi'
 have hzl':zv.cells.size=i.size:=by
  have h1:=qva (hden β)
  have h2:=Nat.eq_of_beq_eq_true hzl
  rw [qha] at h2; simp at h1; omega
 split
 . rename_i len n
   refine R.Sat.boolC (fun hb1=>R.Sat.boolC (fun hb2 => ?_) fun _=>trivial) fun _=>trivial
   have hb1:=qln hb1
   have hb2:=qln hb2
   refine qon hr hx hn (Nat.le_refl n) fun new xs hnew hfc hxl => ?_
   have S:ApSet P w tys st elem i zv xv xs n:=⟨ht,hd,hi,hzv,hzl',hm,hn P w,hfc,hxl⟩
   unfold qd0
   split
   . simp only [SV.den,Option.some.injEq] at hs; subst hs
     have hl0:len=0:=q8b hlen P w
     subst hl0
     refine R.Sat.boolC (fun h0 => ?_) fun h0 => ?_
     . have hn0:n=0:=Nat.eq_of_beq_eq_true h0
       subst hn0
       have hxs:xs=[]:=List.eq_nil_of_length_eq_zero (by rw [hxl]; simp)
       subst hxs
       exact qga (hres _ _ (qcb (ty:=ty) (bs:=none) (sLen:=0) (sCap:=0) (w':=w) ht hd hi hm (hn P w) (hfc w rfl) (by simp [SN.den]) rfl)) rfl
     . have hn0:0<n:=by
        rcases Nat.eq_zero_or_pos n with h | h
        . subst h; cases h0
        . exact h
       obtain ⟨cap,hcap,hrun⟩:=qjb (ty:=ty) (bs:=none) (sLen:=0) (sCap:=0) (os:=[]) ht hd hi hzv hm (hn P w) hfc (fun w' _=>rfl) (by simp [SN.den]; exact hn0) (by simpa [SN.den] using hb1) (by simpa [SN.den] using hb2)
       refine q1g (c:=.lst new) (vs:=xs) (len:=n) hi hzl' hnew hxl (by simpa [SN.den] using hcap) rfl (hres _ _ ?_)
       rw [hrun]; simp [SN.den]
   . rename_i a ln c
     rw [den_slice] at hs
     obtain ⟨A,C,hA,hC,hLC,rfl⟩:=hs
     have hl0:len=ln.den:=q8b hlen P w
     simp only [SC.den,Option.some.injEq] at hC
     subst hC
     refine q65 (ty:=ty) hr S hnew hA (by omega) hb1 hb2 (fun v w' h=>hres v w' ?_)
     rw [← hl0]; exact h
   . rename_i a ln nm k
     rw [den_slice] at hs
     obtain ⟨A,C,hA,hC,hLC,rfl⟩:=hs
     have hl0:len=ln.den:=q8b hlen P w
     refine qc3 (ty:=ty) hr S hnew hA hC (by omega) hb1 hb2 (fun v w' h=>hres v w' ?_)
     rw [← hl0]; exact h
   . trivial
 . unfold jec
   split
   . exact R.Sat.boolC (fun _=>qqn (ty:=ty) hr hx ht hd hi hzv hzl' hm (hn P w) hs hlen hres) fun _=>qci (ty:=ty) hr hs hx ht hd hi hzv hzl' hm (hn P w) hlen hres
   . exact R.Sat.boolC (fun _=>R.Sat.boolC (fun _=>qci (ty:=ty) hr hs hx ht hd hi hzv hzl' hm (hn P w) hlen hres) fun _=>qqn (ty:=ty) hr hx ht hd hi hzv hzl' hm (hn P w) hs hlen hres) fun _=>qci (ty:=ty) hr hs hx ht hd hi hzv hzl' hm (hn P w) hlen hres
   . exact R.Sat.boolC (fun _=>qqn (ty:=ty) hr hx ht hd hi hzv hzl' hm (hn P w) hs hlen hres) fun _=>qci (ty:=ty) hr hs hx ht hd hi hzv hzl' hm (hn P w) hlen hres
   rename_i hno1 hno2 hno3
   clear hno1 hno2 hno3
   refine R.Sat.boolC (fun _=>qci (ty:=ty) hr hs hx ht hd hi hzv hzl' hm (hn P w) hlen hres) fun _ => ?_
   refine qj9 hr hx fun g hg => ?_
   obtain ⟨xs,hxl,hgd,hfc⟩:=hg n.den (fun w'=>hn P w')
   unfold apFn
   split
   . simp only [SV.den,Option.some.injEq] at hs; subst hs
     have hl0:=q8b hlen P w
     refine ⟨fun h0=>fun hs1 => ?_,fun h0 => ?_⟩
     . have hn0:n.den=0:=of_decide_eq_true h0
       have hxs:xs=[]:=List.eq_nil_of_length_eq_zero (by rw [hxl,hn0])
       subst hxs
       exact qga (hres _ _ (qcb (ty:=ty) (bs:=none) (sLen:=0) (sCap:=0) (w':=w) (xs:=[]) ht hd hi hm (hn P w) (by rw [hs1]; exact hfc w rfl) (by omega) rfl)) (by rw [hn0]; rfl)
     have hpos:¬ n.den=0:=of_decide_eq_false h0
     rintro ⟨⟨hr1,hr2⟩,hs1⟩
     obtain ⟨cap,hcap,hrun⟩:=qjb (ty:=ty) (bs:=none) (sLen:=0) (sCap:=0) (os:=[]) (xs:=xs) ht hd hi hzv hm (hn P w) (by rw [hs1]; exact hfc) (fun w' _=>rfl) (by omega) (by simpa using hr1) (by simpa using hr2)
     refine q1g (c:=.fn g n.den) (vs:=xs) (len:=n.den) hi hzl' ⟨hxl,hgd⟩ (by rw [hs1,hxl]; simp) (by simpa using hcap) rfl (hres _ _ ?_)
     rw [hrun]; simp
   . rename_i a ln
     rw [den_slice] at hs
     obtain ⟨A,C,hA,hC,hLC,rfl⟩:=hs
     simp only [SC.den,Option.some.injEq] at hC
     subst hC
     have hl0:=q8b hlen P w
     have hln:ln.den=0:=by omega
     rw [hln] at hres
     refine ⟨fun h0=>fun hs1 => ?_,fun h0 => ?_⟩
     . have hn0:n.den=0:=of_decide_eq_true h0
       have hxs:xs=[]:=List.eq_nil_of_length_eq_zero (by rw [hxl,hn0])
       subst hxs
       refine qga (hres _ _ (qcb (ty:=ty) (bs:=some A) (sLen:=0) (sCap:=0) (w':=w) (xs:=[]) ht hd hi hm (hn P w) (by rw [hs1]; exact hfc w rfl) (by omega) rfl)) ?_
       rw [den_slice]
       exact ⟨A,0,hA,rfl,Nat.le_refl _,by rw [hn0]; rfl⟩
     have hpos:¬ n.den=0:=of_decide_eq_false h0
     rintro ⟨⟨hr1,hr2⟩,hs1⟩
     obtain ⟨cap,hcap,hrun⟩:=qjb (ty:=ty) (bs:=some A) (sLen:=0) (sCap:=0) (os:=[]) (xs:=xs) ht hd hi hzv hm (hn P w) (by rw [hs1]; exact hfc)
      (fun w' hw'=>qoa (w:=w) w' hw' (.inr (.inl ⟨A,0,0,rfl,by simp,by simp⟩))) (by omega) (by simpa using hr1) (by simpa using hr2)
     refine q1g (c:=.fn g n.den) (vs:=xs) (len:=n.den) hi hzl' ⟨hxl,hgd⟩ (by rw [hs1,hxl]; simp) (by simpa using hcap) rfl (hres _ _ ?_)
     rw [hrun]; simp
   . trivial
theorem qyx (n:Nat):(q5d n).size=n:=by simp [q5d,ByteArray.size]
theorem qmz (n:Nat):((q5d n).extract 0 n).data.map (fun b=>Value.int .u8 (b.toNat:Int))=Array.replicate n (.int .u8 0):=by
 apply Array.ext'
 simp [q5d,ByteArray.data_extract]
theorem qzx {z:Array Value} (hz:z = #[.int .u8 0]) (n:Nat):Builtin.zeroCells z n=Array.replicate n (.int .u8 0):=by
 subst hz
 apply Array.ext
 . simp [Builtin.zeroCells]
 . intro i h1 h2
   simp [Builtin.zeroCells,Nat.mod_one]
theorem q0x {tys:Array TypeId} {st tn elem ty:TypeId} {i:TypeInfo} {z:Value} {k kn:IntKind} {bs:Option Addr} {sLen sCap n:Nat} (ht:tys[0]? = some st) (ht1:tys[1]? = some tn) (hd:P.underlying st=some (.slice elem)) (htn:P.underlying tn=some (.int kn))
  (hi:P.info? elem=some i) (hz:i.zero=some z) (hzc:z.cells = #[.int .u8 0]) (h1:i.size=1) (hb:(sLen+n) * i.bytes<140737488355328) (hb2:sLen+n<140737488355328) :
  (Builtin.append_ tys ty #[.slice bs sLen sCap,.int k n]).run P w=(Builtin.append_ #[st] ty #[.slice bs sLen sCap,.string (q5d n)]).run P w:=by
 have hu:=fun w=>qaa (P:=P) (w:=w) hd
 have hu2:=fun w=>qaa (P:=P) (w:=w) htn
 have hs:=fun w=>q3a (P:=P) (w:=w) hi
 have hti:=fun w=>q9d (P:=P) (w:=w) hi
 have hzv:=fun w=>qvc (P:=P) (w:=w) hi hz
 have hw:IntKind.i64.wrap (n:Int)=n:=by rw [IntKind.wrap_i64]; omega
 have hneg:¬ ((n:Int)<0):=by omega
 have hnb:n * i.bytes<=(sLen+n) * i.bytes:=Nat.mul_le_mul_right _ (by omega)
 have h48i:¬ (281474976710656<(n:Int) * (i.bytes:Int)):=by
  rw [← Int.natCast_mul]; omega
 have hzz:=fun m=>qzx hzc m
 have hstr:∀ w':World,(Builtin.firstCells i.size n (.string (q5d n))).run P w'=.ok (Array.replicate n (.int .u8 0)) w':=by
  intro w'
  simp only [Builtin.firstCells,Sem.run_pure]
  rw [qmz]
 have hlen:(Builtin.lenOf (.string (q5d n))).run P w=.ok n w:=by
  simp only [Builtin.lenOf,Sem.run_pure,qyx]
 by_cases hle:sLen+n<=sCap
 . simp only [Builtin.append_,ht,ht1]
   by_cases hn:n=0
   . have hns:n * i.size=0:=by rw [hn,Nat.zero_mul]
     have hrep:Array.replicate n (Value.int .u8 0) = #[]:=by rw [hn]; rfl
     rw [hrep] at hstr
     simp [hu,hu2,hs,hti,asInt,asIntOf,hw,hneg,h48i,hle,hlen,hns,hstr]
   . have hns:¬ (n * i.size=0):=by rw [h1]; omega
     simp [hu,hu2,hs,hti,hzv,asInt,asIntOf,hw,hneg,h48i,hle,hlen,hns,hzz,hstr]
 . have hsmall:¬ (281474976710656<Builtin.nextslicecap (sLen+n) sCap * i.bytes):=by
    have h2:=Nat.mul_le_mul_right i.bytes (qnp (Nat.lt_of_not_le hle))
    rw [Nat.mul_assoc] at h2
    omega
   have h63':¬ (9223372036854775807<((sLen:Int)+(n:Int))):=by omega
   simp only [Builtin.append_,ht,ht1]
   by_cases hn:n=0
   . have hns:n * i.size=0:=by rw [hn,Nat.zero_mul]
     have hrep:Array.replicate n (Value.int .u8 0) = #[]:=by rw [hn]; rfl
     rw [hrep] at hstr
     simp [hu,hu2,hs,hti,asInt,asIntOf,hw,hneg,h48i,hle,hlen,hns,hstr,hsmall,h63']
   . have hns:¬ (n * i.size=0):=by rw [h1]; omega
     simp [hu,hu2,hs,hti,hzv,asInt,asIntOf,hw,hneg,h48i,hle,hlen,hns,hzz,hstr,hsmall,h63']
theorem qf6 {z:List SV} (h:isZ1 z=true):z=[.int .u8 (.lit 0)]:=by
 unfold isZ1 at h
 split at h
 . rfl
 . cases h
theorem qnz {t:TypeId} (h:quw P t=true):∃ k,P.underlying t=some (.int k):=by
 unfold quw at h
 cases hd:P.underlying t with
 | none=>rw [hd] at h; cases h
 | some d =>
   rw [hd] at h
   cases d <;> first | exact ⟨_,rfl⟩ | cases h
theorem qg6 {α:Type} {x:SI} {d:R α} {f:Int->R α} {φ:α->Prop} (h:∀ n,x=.lit n->(f n).Sat φ) (hd:d.Sat φ):(x.asLit d f).Sat φ:=by
 cases x with
 | lit n=>exact h n rfl
 | _=>exact hd
theorem qoz (hr:HeapRel0 P O w0 β H w) {tys:Array TypeId} {ty:TypeId} {s x:SV} {sv xv:Value} (hs:s.den β=some sv) (hx:x.den β=some xv) {res:Result Next}
  (hres:∀ v w',(Builtin.append_ tys ty #[sv,xv]).run P w=.ok v w'->res=.ok (.value v) w') :
  (qf0 P H base tys s x).Sat (qea P H β w base res):=by
 refine R.Sat.boolC (fun _=>qtp hr hs hx hres) fun _ => ?_
 refine R.Sat.opt fun st ht=>R.Sat.opt fun tn ht1=>R.Sat.boolC (fun hint=>R.Sat.opt fun d hd=>qhq (fun elem hde => ?_) trivial) fun _=>trivial
 subst hde
 refine R.Sat.opt fun i hi=>R.Sat.opt fun z hz=>R.Sat.boolC (fun hz1=>R.Sat.boolC (fun hsz=>qhh hs fun len hlen => ?_) fun _=>trivial) fun _=>trivial
 obtain ⟨kn,htn⟩:=qnz hint
 obtain ⟨i',zv,hi',hzv,hden⟩:=qfe hz
 rw [hi] at hi'; cases hi'
 have h1:i.size=1:=Nat.eq_of_beq_eq_true hsz
 have hzc:zv.cells = #[.int .u8 0]:=by
  have:=hden β
  rw [qf6 hz1] at this
  apply Array.ext'
  exact (Option.some.inj this).symm
 rcases q1b x with ⟨k,n,rfl⟩ | hno
 . show (qe0 P H base st i.bytes s len n).Sat _
   have hxv:xv=.int k n.den:=(Option.some.inj hx).symm
   subst hxv
   have key:∀ (m:Nat) (x':SV),n.den=m->qee (len.den+m) i.bytes->x'.den β=some (.string (q5d m))->(q1i P H base #[st] s x').Sat (qea P H β w base res):=by
    intro m x' hm hro hx'
    refine qtp (ty:=ty) hr hs hx' fun v w' h=>hres v w' ?_
    rw [hm]
    have hsl:∃ bs c,sv=.slice bs len.den c:=by
     have:=hlen P w
     cases sv <;> simp [Builtin.lenOf] at this
     case slice bs l c=>exact ⟨bs,c,by rw [this]⟩
     case string str =>
      exfalso
      simp [Builtin.append_,qaa hd] at h
    obtain ⟨bs,c,rfl⟩:=hsl
    rw [q0x ht ht1 hd htn hi hzv hzc h1 hro.1 hro.2]
    exact h
   refine qg6 (fun m hm => ?_) ?_
   . cases m with
     | negSucc m=>trivial
     | ofNat m =>
       have hn:n.den=(m:Nat):=by rw [hm]; rfl
       refine SN.asLit_sat (fun l hl=>R.Sat.boolC (fun hb1=>R.Sat.boolC (fun hb2=>key m _ hn ?_ rfl) fun _=>trivial) fun _=>trivial) fun _=>fun hro=>key m _ hn hro rfl
       rw [hl]
       exact ⟨qln hb1,qln hb2⟩
   . exact fun hp=>key n.den.toNat _ (by omega) hp.2 rfl
 . rw [hno]; trivial
theorem qsn (hr:HeapRel0 P O w0 β H w) {tys:Array TypeId} {st elem ty:TypeId} {i:TypeInfo} {d x:SV} {dv xv:Value} (hdv:d.den β=some dv) (hx:x.den β=some xv) (ht:tys[0]? = some st) (hd:P.underlying st=some (.slice elem)) (hi:P.info? elem=some i) (hs1:i.size=1)
  {len n m:SN} (hmL:m.den<=n.den) {g:R OpRes->R OpRes} (hg:∀ (r:R OpRes) (φ:OpRes->Prop),(min n.den len.den=m.den->r.Sat φ)->(g r).Sat φ) (hn:∀ (P:Program) (w':World),(Builtin.lenOf xv).run P w'=.ok n.den w') (hlen:∀ (P:Program) (w':World),(Builtin.lenOf dv).run P w'=.ok len.den w') {res:Result Next}
  (hres:∀ v w',(Builtin.copy_ tys ty #[dv,xv]).run P w=.ok v w'->res=.ok (.value v) w'):(qfr H d x m g).Sat (qea P H β w base res):=by
 unfold qfr
 split
 . rename_i a ln c
   rw [den_slice] at hdv
   obtain ⟨A,C,hA,hC,_,rfl⟩:=hdv
   have hl0:len.den=ln.den:=q8b hlen P w
   refine qgz hr hx (hn P w) hmL fun Y xs h1 h2 h3=>hg _ _ fun hm=>qgb fun e he => ?_
   split
   . rename_i cl wh el
     obtain ⟨ll,vs,rest,lo,hi',hbl,h0',hc,hh,hfz,hw,hcap⟩:=hr.entries _ _ he
     obtain ⟨l',hl',rfl⟩:=SA.den_some hA
     rw [hbl] at hl'; cases hl'
     have hsc:∀ y∈xs,y.oneCell'=true:=by
      intro y hy
      obtain ⟨j,hj⟩:=List.getElem?_of_mem hy
      have hlt:=(List.getElem?_eq_some_iff.1 hj).1
      rw [h2 j (by omega)] at hj
      cases hj; rfl
     refine qgx hc h1 h2 fun c' hc' hle2 => ?_
     have hrun:=qlc (P:=P) xs (vs++rest) (ll.off+a.off.den) 0 w hh hsc hfz.at (by rw [h0']; simp; omega)
     rw [Nat.add_zero,h0',Nat.zero_add,q5e hle2] at hrun
     have hu:=qaa (w:=w) hd
     have hcopy:∀ W',(storeCells ⟨ll.blk,a.off.den,none⟩ xs).run P w=.ok () W'->(Builtin.copy_ tys ty #[.slice (some ⟨ll.blk,0+a.off.den,none⟩) ln.den C,xv]).run P w=.ok (goInt (m.den:Nat)) W':=by
      intro W' hst
      have hmin:min n.den ln.den=m.den:=by omega
      have h4:=h3 w rfl
      have h5:=hn P w
      unfold Builtin.copy_
      simp only [ht,List.getElem?_toArray,List.getElem?_cons_zero,List.getElem?_cons_succ,Sem.run_bind,hu,Result.andThen_ok,h5,q3a hi,hs1,hmin,h4]
      rw [Nat.zero_add]
      simp [hst]
     rw [h0'] at hres
     refine fun hb=>⟨.value _,_,_,β,hres _ _ (hcopy _ hrun),rfl,by show some (Value.int .i64 m.toI.den)=_; rw [qzo]; rfl,Eff.turn hbl ?_,?_⟩
     . have hlt:ll.blk<w.heap.size:=(Array.getElem?_eq_some_iff.1 hh).1
       refine ⟨ll,qvb vs a.off.den xs,rest,lo,hi',hbl,h0',hc',by simp [hlt],?_,hw,?_⟩
       . simp only [List.length_append,q6a hle2] at hfz ⊢; exact hfz
       . intro j hj
         have:=hcap j hj
         simp only [List.length_append,q6a hle2] at this ⊢; exact this
     . intro m' e hm'
       simp at hm'
       obtain ⟨rfl,rfl⟩:=hm'
       exact ⟨_,he,rfl⟩
   . trivial
 . trivial
theorem qh6 (hr:HeapRel0 P O w0 β H w) {tys:Array TypeId} {st elem ty:TypeId} {i:TypeInfo} {d x:SV} {dv xv:Value} (hdv:d.den β=some dv) (hx:x.den β=some xv) (ht:tys[0]? = some st) (hd:P.underlying st=some (.slice elem)) (hi:P.info? elem=some i) (hs1:i.size=1)
  {len n:SN} (hn:∀ (P:Program) (w':World),(Builtin.lenOf xv).run P w'=.ok n.den w') (hlen:∀ (P:Program) (w':World),(Builtin.lenOf dv).run P w'=.ok len.den w') {res:Result Next}
  (hres:∀ v w',(Builtin.copy_ tys ty #[dv,xv]).run P w=.ok v w'->res=.ok (.value v) w'):(q81 H d x len n).Sat (qea P H β w base res):=by
 unfold q81
 refine R.Sat.boolC (fun _=>⟨fun hb => ?_,fun hb => ?_⟩) fun _ => ?_
 . exact qsn hr hdv hx ht hd hi hs1 (len:=len) (n:=n) (g:=fun r=>r) (Nat.le_refl _) (fun _ _ h=>h (Nat.min_eq_left (of_decide_eq_true hb))) hn hlen hres
 . have hle:len.den<=n.den:=by have:=of_decide_eq_false hb; omega
   exact qsn hr hdv hx ht hd hi hs1 (len:=len) (n:=n) (g:=fun r=>r) hle (fun _ _ h=>h (Nat.min_eq_right hle)) hn hlen hres
 . exact qsn hr hdv hx ht hd hi hs1 (len:=len) (n:=n) (g:=fun r=>.need (n.den<=len.den) r) (Nat.le_refl _) (fun _ _ h=>fun hle=>h (Nat.min_eq_left hle)) hn hlen hres
theorem qi6 (hr:HeapRel0 P O w0 β H w) {tys:Array TypeId} {ty:TypeId} {d x:SV} {dv xv:Value} (hdv:d.den β=some dv) (hx:x.den β=some xv) {res:Result Next}
  (hres:∀ v w',(Builtin.copy_ tys ty #[dv,xv]).run P w=.ok v w'->res=.ok (.value v) w') :
  (jfc P H tys d x).Sat (qea P H β w base res):=by
 refine R.Sat.opt fun st ht=>R.Sat.opt fun td hd => ?_
 have hu:=qaa (w:=w) hd
 split
 . rename_i elem
   refine R.Sat.opt fun i hi=>qhh hx fun n hn=>qhh hdv fun len hlen => ?_
   split
   . rename_i len n
     refine qon (m:=Nat.min n len) hr hx hn (Nat.min_le_left _ _) fun new xs hnew hfc hxl => ?_
     have hcopy:∀ (bs:Option Addr) (c:Nat) (w':World),dv=.slice bs len c->(match bs with | some a=>storeCells a xs | none=>pure ():Sem Unit).run P w=.ok () w' ->
       (Builtin.copy_ tys ty #[dv,xv]).run P w=.ok (goInt (Nat.min n len:Nat)) w':=by
      intro bs c w' hdv' hst
      subst hdv'
      have h1:=hfc w rfl
      have h2:=hn P w
      simp only [SN.den] at h2
      unfold Builtin.copy_
      simp only [ht,List.getElem?_toArray,List.getElem?_cons_zero,List.getElem?_cons_succ,Sem.run_bind,hu,Result.andThen_ok,h2,q3a hi,h1]
      cases bs with
      | none=>simp at hst; subst hst; simp
      | some a=>simp at hst; simp [hst]
     split
     . simp only [SV.den,Option.some.injEq] at hdv; subst hdv
       have hl0:=q8b hlen P w
       simp only [SN.den] at hl0
       subst hl0
       exact qga (hres _ _ (hcopy none 0 w rfl rfl)) rfl
     . rename_i a ln c
       rw [den_slice] at hdv
       obtain ⟨A,C,hA,hC,_,rfl⟩:=hdv
       have hl0:len=ln.den:=q8b hlen P w
       split
       . rename_i hm0
         have hxs:xs=[]:=List.eq_nil_of_length_eq_zero (by rw [hxl,hm0]; simp)
         subst hxs
         refine qga (x:=goInt (Nat.min n len:Nat)) (hres _ _ (hcopy (some A) C w (by rw [← hl0]) rfl)) ?_
         rw [hm0]; rfl
       . split
         . rename_i hsc
           refine qgb fun e he => ?_
           split
           . rename_i cl wh el
             obtain ⟨ll,vs,rest,lo,hi',hbl,h0',hc,hh,hfz,hw,hcap⟩:=hr.entries _ _ he
             obtain ⟨l',hl',rfl⟩:=SA.den_some hA
             rw [hbl] at hl'; cases hl'
             refine qfk hc hnew fun c' hc' hle => ?_
             have hrun:=qlc (P:=P) xs (vs++rest) (ll.off+a.off.den) 0 w hh (q0l hnew hsc) hfz.at (by rw [h0']; simp; omega)
             rw [Nat.add_zero,h0',Nat.zero_add,q5e hle] at hrun
             refine fun hb=>⟨.value _,_,_,β,hres _ _ (hcopy _ C _ (by rw [← hl0]) (by rw [h0',Nat.zero_add]; exact hrun)),rfl,rfl,Eff.turn hbl ?_,?_⟩
             . have hlt:ll.blk<w.heap.size:=(Array.getElem?_eq_some_iff.1 hh).1
               refine ⟨ll,qvb vs a.off.den xs,rest,lo,hi',hbl,h0',hc',by simp [hlt],?_,hw,?_⟩
               . simp only [List.length_append,q6a hle] at hfz ⊢; exact hfz
               . intro j hj
                 have:=hcap j hj
                 simp only [List.length_append,q6a hle] at this ⊢; exact this
             . intro m e hm
               simp at hm
               obtain ⟨rfl,rfl⟩:=hm
               exact ⟨_,he,rfl⟩
           . trivial
         . trivial
     . trivial
   . exact R.Sat.boolC (fun hs1=>qh6 (ty:=ty) hr hdv hx ht hd hi (Nat.eq_of_beq_eq_true hs1) hn hlen hres) fun _=>trivial
 . trivial
theorem qec {P:Program} {b:Builtin} {tys:Array TypeId} {ty:TypeId} {cs:Array Bool} {args:Array Value} {w w':World} {v:Value} {s:Sem Value} (h:builtin b tys ty cs args=(do pure (.value (← s)):Sem Next)) (hs:s.run P w=.ok v w') :
  (builtin b tys ty cs args).run P w=.ok (.value v) w':=by
 rw [h]; simp [hs]
theorem ql3 (hr:HeapRel0 P O w0 β H w) {b:Builtin} {args:Array Operand} {tys:Array TypeId} (hev:∀ x∈args.toList,(ev x).den β=some (ρ x)) :
  (qj5 b ⟨.builtin b,args,tys⟩ P ev H base).Sat (qea P H β w base ((execOp ρ ⟨dst,.call ⟨.builtin b,args,tys⟩,t,pos,af,g⟩).run P w)):=by
 have hargs:=qud args.toList hev
 have hex:(execOp ρ ⟨dst,.call ⟨.builtin b,args,tys⟩,t,pos,af,g⟩).run P w=(builtin b tys t (args.map fun | .const _=>true | _=>false) (args.toList.map ρ).toArray).run P w:=by
  simp only [execOp,resolve,Sem.run_bind,Sem.run_pure,Result.andThen_ok,invoke]
  congr 2
  simp [← Array.toList_map]
 rw [hex]
 generalize (args.map fun | Operand.const _=>true | _=>false)=cs
 show (qbq P H base b tys (mapN ev args.toList)).Sat _
 generalize hA:mapN ev args.toList=az at hargs
 generalize args.toList.map ρ=vs at hargs
 unfold qbq
 split
 . rename_i x xs
   obtain ⟨y,ys,hy,hys,rfl⟩:=denL_cons.1 hargs
   exact qm9 hr hy (ty:=t) fun n hn=>qec rfl hn
 . rename_i m k
   obtain ⟨y,ys,hy,hys,rfl⟩:=denL_cons.1 hargs
   obtain ⟨z,zs,hz,hzs,rfl⟩:=denL_cons.1 hys
   rw [denL_nil] at hzs; subst hzs
   exact qlz hr hy hz (ty:=t) fun v w' h=>qec rfl h
 . rename_i m
   obtain ⟨y,ys,hy,hys,rfl⟩:=denL_cons.1 hargs
   rw [denL_nil] at hys; subst hys
   exact qh3 hr hy (ty:=t) fun v w' h=>qec rfl h
 . rename_i s x
   obtain ⟨y,ys,hy,hys,rfl⟩:=denL_cons.1 hargs
   obtain ⟨z,zs,hz,hzs,rfl⟩:=denL_cons.1 hys
   rw [denL_nil] at hzs; subst hzs
   exact qoz hr hy hz (ty:=t) fun v w' h=>qec rfl h
 . rename_i d x
   obtain ⟨y,ys,hy,hys,rfl⟩:=denL_cons.1 hargs
   obtain ⟨z,zs,hz,hzs,rfl⟩:=denL_cons.1 hys
   rw [denL_nil] at hzs; subst hzs
   exact qi6 hr hy hz (ty:=t) fun v w' h=>qec rfl h
 . rename_i x y
   obtain ⟨y1,ys,hy,hys,rfl⟩:=denL_cons.1 hargs
   obtain ⟨z,zs,hz,hzs,rfl⟩:=denL_cons.1 hys
   rw [denL_nil] at hzs; subst hzs
   refine (qh9 (P:=P) (w:=w) hy hz).bind fun v ⟨u,hu,hrun⟩=>qga (qec rfl (s:=Builtin.min_ tys t #[y1,z]) ?_) hu
   simp [Builtin.min_,hrun]
 . rename_i x y
   obtain ⟨y1,ys,hy,hys,rfl⟩:=denL_cons.1 hargs
   obtain ⟨z,zs,hz,hzs,rfl⟩:=denL_cons.1 hys
   rw [denL_nil] at hzs; subst hzs
   refine (qi9 (P:=P) (w:=w) hy hz).bind fun v ⟨u,hu,hrun⟩=>qga (qec rfl (s:=Builtin.max_ tys t #[y1,z]) ?_) hu
   simp [Builtin.max_,hrun]
 . trivial
theorem q2g (v:SV):(∃ f xs ys,v=.func f xs ys)\/∀ {γ:Type} (d:γ) (f:SFn->List SV->List SV->γ),v.asFunc d f=d:=by
 cases v <;> first | exact .inl ⟨_,_,_,rfl⟩ | exact .inr fun _ _=>rfl
theorem qj6 {f:SV} {fv:Value} {az:List SV} {vs:List Value} (hf:f.den β=some fv) (has:SV.denL β az=some vs) :
  (callT f az).Sat (qea P H β w base ((do let d ← Deferred.ofValue fv vs.toArray; invoke d.target d.args:Sem Next).run P w)):=by
 unfold callT
 rcases q2g f with ⟨fn,xs,ys,h⟩ | h
 . rw [h] at hf ⊢
   simp only [SV.den,Option.bind_eq_some_iff,Option.map_eq_some_iff] at hf
   obtain ⟨F,hF,x,hx,y,hy,rfl⟩:=hf
   cases fn with
   | yield nm =>
     simp only [SFn.den,Option.map_eq_some_iff] at hF
     obtain ⟨l,hl,rfl⟩:=hF
     refine ⟨l,x++vs,hl,qae hx has,?_⟩
     simp [Deferred.ofValue,invoke]
   | fn fn =>
     simp only [SFn.den,Option.some.injEq] at hF
     subst hF
     cases fn with
     | func g =>
       refine ⟨x++(vs++y),qae hx (qae has hy),?_⟩
       simp [Deferred.ofValue,invoke]
     | method=>trivial
     | methodOf=>trivial
     | via=>trivial
     | yield=>trivial
 . rw [h]; trivial
theorem qwu {path:List FieldStep} {g:FuncId} {az:List SV} {vs:List Value} (has:SV.denL β az=some vs) :
  (viaT P path g az).Sat fun r=>∃ args x xs y xt e,r=.enter g args/\vs=x::xs/\SV.denL β args=some (y::xs)/\(∀ ty,(follow path ty (.val x)).run P w=.ok (xt,.val y) w)/\(underlying xt).run P w=.ok (.pointer e) w/\path.isEmpty=false:=by
 unfold viaT
 split
 . rename_i s l rest
   obtain ⟨x,xs,hx,hxs,rfl⟩:=denL_cons.1 has
   simp only [SV.den,Option.map_eq_some_iff] at hx
   obtain ⟨cs,hcs,rfl⟩:=hx
   split
   . trivial
   . rename_i hd
     refine R.Sat.opt fun d hu => ?_
     split
     . rename_i fs
       refine R.Sat.opt fun f hf=>R.Sat.opt fun d2 hu2 => ?_
       have h1:=qaa (w:=w) hu
       have h2:=qaa (w:=w) hu2
       rw [qca] at hf
       have hf':fs[s.index]? = some f:=by rw [← hf]; simp
       split
       . rename_i e
         refine qhn (w:=w) hcs fun v x hv hpart => ?_
         refine ⟨_,_,_,x,f.type,e,rfl,rfl,denL_cons.2 ⟨x,xs,hv,hxs,rfl⟩,fun ty => ?_,h2,rfl⟩
         simp [follow,h1,hf',hd,hpart]
       . trivial
     . trivial
 . trivial
theorem qp9 {ty:TypeId} {path:Array FieldStep} {g:FuncId} {cap:Array Value} {az:List SV} {vs:List Value} (has:SV.denL β az=some vs) :
  (viaT P path.toList g az).Sat (qea P H β w base ((invoke (.fn (.via ty path g true) cap) vs.toArray:Sem Next).run P w)):=by
 refine R.Sat.mono (qwu (w:=w) has) fun r ⟨args,x,xs,y,xt,e,hr,hvs,hargs,hf,hu,_⟩ => ?_
 subst hr hvs
 refine ⟨y::xs,hargs,?_⟩
 simp [invoke,receiverVia,hf,receiverAt,hu,Place.get]
theorem qpz {ty:TypeId} {name:String} {cap:Array Value} {az:List SV} {vs:List Value} (has:SV.denL β az=some vs) :
  (q7s P ty name az).Sat (qea P H β w base ((invoke (.fn (.methodOf ty name) cap) vs.toArray:Sem Next).run P w)):=by
 unfold q7s
 refine R.Sat.opt fun d hu => ?_
 split
 . rename_i fs
   refine R.Sat.opt fun i hi=>R.Sat.opt fun m hm => ?_
   split
   . rename_i g hmf
     have h1:=qaa (w:=w) hu
     have h2:=q9d (w:=w) hi
     refine R.Sat.mono (qwu (w:=w) has) fun r ⟨args,x,xs,y,xt,e,hr,hvs,hargs,hf,hu,hp⟩ => ?_
     subst hr hvs
     refine ⟨y::xs,hargs,?_⟩
     have hm':(i.methods.find? fun m=>m.name == name)=some m:=hm
     have hmeth:∀ n,(method (n+1) ty x name).run P w=.ok (g,y) w:=fun n=>by
      unfold method
      simp [h2,hm',hmf,hf,receiverAt,hu,Place.get]
     have hm2:(method (P.types.size+Made.depth) ty x name).run P w=.ok (g,y) w:=hmeth (P.types.size+99)
     simp [invoke,h1,callMethod,hm2]
   . trivial
 . trivial
theorem qk6 {f:SV} {fv:Value} {az:List SV} {vs:List Value} (hf:f.den β=some fv) (has:SV.denL β az=some vs) :
  (qg2 P f az).Sat (qea P H β w base ((do let d ← Deferred.ofValue fv vs.toArray; invoke d.target d.args:Sem Next).run P w)):=by
 unfold qg2
 split
 . rename_i ty path g xs ys
   simp only [SV.den,Option.bind_eq_some_iff,Option.map_eq_some_iff] at hf
   obtain ⟨F,hF,x,hx,y,hy,rfl⟩:=hf
   simp only [SFn.den,Option.some.injEq] at hF
   subst hF
   have h:=qp9 (P:=P) (H:=H) (w:=w) (base:=base) (ty:=ty) (path:=path) (g:=g) (cap:=y.toArray) (qae hx has)
   simpa [Deferred.ofValue] using h
 . rename_i ty name xs ys
   simp only [SV.den,Option.bind_eq_some_iff,Option.map_eq_some_iff] at hf
   obtain ⟨F,hF,x,hx,y,hy,rfl⟩:=hf
   simp only [SFn.den,Option.some.injEq] at hF
   subst hF
   have h:=qpz (P:=P) (H:=H) (w:=w) (base:=base) (ty:=ty) (name:=name) (cap:=y.toArray) (qae hx has)
   simpa [Deferred.ofValue] using h
 . exact qj6 hf has
theorem qm3 {f:Operand} {args:Array Operand} {tys:Array TypeId} (hf:(ev f).den β=some (ρ f)) (hev:∀ x∈args.toList,(ev x).den β=some (ρ x)) :
  (qi5 f ⟨.value f,args,tys⟩ P ev H base).Sat (qea P H β w base ((execOp ρ ⟨dst,.call ⟨.value f,args,tys⟩,t,pos,af,g⟩).run P w)):=by
 have hargs:=qud args.toList hev
 have h:=qk6 (P:=P) (H:=H) (w:=w) (base:=base) hf hargs
 have e:(args.toList.map ρ).toArray=args.map ρ:=by simp [← Array.toList_map]
 rw [e] at h
 exact h
theorem qn3 {f:Operand} {args:Array Operand} {tys:Array TypeId} (hf:(ev f).den β=some (ρ f)) (hev:∀ x∈args.toList,(ev x).den β=some (ρ x)) :
  (q6m ⟨.value f,args,tys⟩ P ev H base).Sat (qea P H β w base ((execOp ρ ⟨dst,.defer ⟨.value f,args,tys⟩,t,pos,af,g⟩).run P w)):=by
 have hargs:=qud args.toList hev
 have e:(args.toList.map ρ).toArray=args.map ρ:=by simp [← Array.toList_map]
 show ((ev f).asFunc (R.stuck (α:=OpRes) 342) fun fn first captured=>R.ok (OpRes.defer (.call fn (app first (mapN ev args.toList)) captured))).Sat _
 rcases q2g (ev f) with ⟨fn,xs,ys,h⟩ | h
 . rw [h] at hf ⊢
   simp only [SV.den,Option.bind_eq_some_iff,Option.map_eq_some_iff] at hf
   obtain ⟨F,hF,x,hx,y,hy,hfv⟩:=hf
   refine ⟨{ target:=.fn F y.toArray,args:=(x++args.toList.map ρ).toArray },?_,?_⟩
   . simp only [SD.den,hF,hy,qae hx hargs,Option.bind_some,Option.map_some]
   . simp only [execOp,resolve,← hfv,Deferred.ofValue,Sem.run_bind,Sem.run_pure,Result.andThen_ok,← e]
     simp
 . rw [h]; trivial
theorem qo3 {x:Operand} (hx:(ev x).den β=some (ρ x)) :
  (qyw x P ev H base).Sat (qea P H β w base ((execOp ρ ⟨dst,.panic x,t,pos,af,g⟩).run P w)):=by
 unfold qyw
 split
 . rename_i ty v h
   rw [h] at hx
   refine ⟨ρ x,hx,?_⟩
   simp only [SV.den,Option.map_eq_some_iff] at hx
   obtain ⟨y,_,hy⟩:=hx
   simp [execOp,Instr.panic,← hy,goPanic]
 . trivial
theorem qmf (hr:HeapRel0 P O w0 β H w) (o:Oper) (hev:∀ x∈o.op.operands,(ev x).den β=some (ρ x)) :
  (opS P ev H base o).Sat (qea P H β w base ((execOp ρ o).run P w)):=by
 obtain ⟨dst,op,t,pos,af,g⟩:=o
 show (opD op P ev H base).Sat _
 cases op <;> simp only [Op.operands] at hev
 case move x=>exact (qlu (hev x (by simp))).1
 case assign x=>exact (qlu (hev x (by simp))).2
 case pick c a b=>exact qt5 (hev c (by simp)) (hev a (by simp)) (hev b (by simp))
 case alloc e=>exact qz2 (ev:=ev)
 case box e x=>exact q58 (hev x (by simp))
 case build ty ps=>exact q02 fun x hx=>hev x (by simpa using hx)
 case buildSlice ty n ps=>exact qyr fun x hx=>hev x (by simpa using hx)
 case load ty a=>exact qv5 hr (hev a (by simp))
 case store ty a x=>exact q12 hr (hev a (by simp)) (hev x (by simp))
 case nilCheck x=>exact q78 (hev x (by simp))
 case binOp op ty x y yt=>exact qd9 (hev x (by simp)) (hev y (by simp))
 case unOp op ty x=>exact j5d (hev x (by simp))
 case convert s d x=>exact q45 hr (hev x (by simp))
 case sliceToArrayPointer ty x=>exact qe9 (hev x (by simp))
 case makeInterface ty x=>exact q52 (hev x (by simp))
 case makeFunc fn xs ys=>exact q15 (fun x hx=>hev x (by simp at hx ⊢; exact .inl hx)) (fun x hx=>hev x (by simp at hx ⊢; exact .inr hx))
 case makeSlice ty l c=>exact qjt (hev l (by simp)) (hev c (by simp))
 case slice ty x lo hi mx =>
  have ho:∀ v:Option Operand,(∀ y,v=some y->(ev y).den β=some (ρ y))->ODen β (v.map ev) (v.map ρ):=by
   intro v hv
   cases v with
   | none=>trivial
   | some y=>exact hv y rfl
  exact q92 (hev x (by simp)) (ho lo fun y hy=>hev y (by subst hy; simp)) (ho hi fun y hy=>hev y (by subst hy; simp)) (ho mx fun y hy=>hev y (by subst hy; simp))
 case fieldAddr ty x n=>exact qgt (hev x (by simp))
 case field ty x n=>exact q62 (hev x (by simp))
 case indexAddr ty x i=>exact qht (hev x (by simp)) (hev i (by simp))
 case index ty x i=>exact q72 (hev x (by simp)) (hev i (by simp))
 case extract x n=>exact qjx (hev x (by simp))
 case insert ty m k x=>exact (q5k hr (hev m (by simp)) (hev k (by simp)) (hev x (by simp))).2
 case makeMap ty r=>exact qvx fun x hx=>hev x (by subst hx; simp)
 case lookup ty x k ok=>exact qkz hr (hev x (by simp)) (hev k (by simp))
 case mapUpdate ty m k x=>exact (q5k hr (hev m (by simp)) (hev k (by simp)) (hev x (by simp))).1
 case mapEntry ty m k=>exact qrv hr (hev m (by simp)) (hev k (by simp))
 case entryStore ty m s x=>exact qas hr (hev m (by simp)) (hev s (by simp)) (hev x (by simp))
 case range ty x=>exact qi3 hr (hev x (by simp))
 case next x b=>exact qe6 hr (hev x (by simp))
 case entry x=>exact qj3 hr (hev x (by simp))
 case call c =>
  obtain ⟨callee,args,tys⟩:=c
  simp only [Call.operands] at hev
  cases callee with
  | value f=>exact qm3 (hev f (by simp)) fun x hx=>hev x (by simp at hx ⊢; exact .inr hx)
  | invoke r m=>trivial
  | builtin b=>exact ql3 hr fun x hx=>hev x (by simp at hx ⊢; exact hx)
 case defer c =>
  obtain ⟨callee,args,tys⟩:=c
  simp only [Call.operands] at hev
  cases callee with
  | value f=>exact qn3 (hev f (by simp)) fun x hx=>hev x (by simp at hx ⊢; exact .inr hx)
  | invoke r m=>trivial
  | builtin b=>trivial
 case panic x=>exact qo3 (hev x (by simp))
 all_goals trivial
end
end
noncomputable section
variable {α:Type}
def Tree.Ob (t:Tree) (D:SV->List SO->Prop) (S:SS->Prop):Prop :=
 match t with
 | .done v H=>D v H
 | .stop s=>S s
 | .need p t=>p/\t.Ob D S
 | .fork b t f=>(b=true->t.Ob D S)/\(b=false->f.Ob D S)
 | .stuck _=>False
 | .any k=>∀ z,(k z).Ob D S
theorem R.tree_ob {r:R α} {k:α->Tree} {φ:α->Prop} {D:SV->List SO->Prop} {S:SS->Prop} (h:r.Sat φ) (ho:(r.tree k).Ob D S):∃ a,φ a/\(k a).Ob D S:=by
 induction r with
 | ok a=>exact ⟨a,h,ho⟩
 | need p r ih=>exact ih (h ho.1) ho.2
 | fork b t f iht ihf =>
   cases b with
   | true=>exact iht (h.1 rfl) (ho.1 rfl)
   | false=>exact ihf (h.2 rfl) (ho.2 rfl)
 | stuck n=>exact ho.elim
 | any k ih=>obtain ⟨z,h⟩:=h; exact ih z h (ho z)
def GlobRel (glob:Nat->Option Nat) (β:Val):Prop:=∀ g nm,glob g=some nm->∃ l,β nm=some l/\l.blk=g/\l.off=0
theorem GlobRel.mono {glob:Nat->Option Nat} {β β':Val} (h:GlobRel glob β) (hl:β.le β'):GlobRel glob β':=fun g nm hg=>let ⟨l,a,b⟩:=h g nm hg; ⟨l,hl _ _ a,b⟩
def OpsAt (os:Array Oper):List Nat->List Oper->Prop
 | [],[]=>True
 | i::is,o::l=>os[i]? = some o/\OpsAt os is l
 | _,_=>False
theorem OpsAt.range {os:Array Oper}:∀ {l pre:List Oper},os.toList=pre++l->OpsAt os (List.range' pre.length l.length) l
 | [],_,_=>trivial
 | o::l,pre,h=>by
   rw [List.length_cons,List.range'_succ]
   refine ⟨by rw [← Array.getElem?_toList,h]; simp,?_⟩
   have:=OpsAt.range (os:=os) (l:=l) (pre:=pre++[o]) (by rw [h]; simp)
   simpa using this
theorem OpsAt.all (os:Array Oper):OpsAt os (List.range os.size) os.toList:=by
 have:=OpsAt.range (os:=os) (l:=os.toList) (pre:=[]) rfl
 rw [List.range_eq_range']
 simpa using this
theorem OpsAt.drop (os:Array Oper) (s:Nat):OpsAt os (List.range' s (os.size - s)) (os.toList.drop s):=by
 rcases Nat.lt_or_ge os.size s with h | h
 . rw [show os.size - s=0 from by omega,List.drop_eq_nil_of_le (by simp; omega)]; trivial
 . have:=OpsAt.range (os:=os) (l:=os.toList.drop s) (pre:=os.toList.take s) (List.take_append_drop _ _).symm
   rw [List.length_take,List.length_drop,Array.length_toList,Nat.min_eq_left h] at this
   exact this
def ItemRel (β:Val):SItem->Item->Prop
 | .code c,.code c'=>c'=c
 | .inBlock i,.inBlock j=>j=i
 | .inLoop c,.inLoop c'=>c'=c
 | .inLoop c,.code x=>x=.loop c
 | .inScope c,.inScope c'=>c'=c
 | .ops os l,.inRegion os' idx=>os'=os/\OpsAt os idx l
 | .inRF n,.inRangeFunc b=>∃ l,β n=some l/\b=l.blk
 | .endRF n,.endRangeFunc b=>∃ l,β n=some l/\b=l.blk
 | .beginRound,.beginRound=>True
 | _,_=>False
def TodoRel (β:Val):List SItem->List Item->Prop
 | [],[]=>True
 | x::k,y::k'=>ItemRel β x y/\TodoRel β k k'
 | _,_=>False
theorem ItemRel.mono {β β':Val} (hl:β.le β') {x:SItem} {y:Item} (h:ItemRel β x y):ItemRel β' x y:=by
 cases x <;> cases y <;> first
  | exact h
  | (obtain ⟨l,a,b⟩:=h; exact ⟨l,hl _ _ a,b⟩)
theorem TodoRel.mono {β β':Val} (hl:β.le β'):∀ {x:List SItem} {y:List Item},TodoRel β x y->TodoRel β' x y
 | [],[],_=>trivial
 | _::_,_::_,h=>⟨h.1.mono hl,TodoRel.mono hl h.2⟩
 | [],_::_,h=>h.elim
 | _::_,[],h=>h.elim
def RoundRel (β:Val):Option Nat->Option Nat->Prop
 | none,none=>True
 | some n,some b=>∃ l,β n=some l/\b=l.blk
 | _,_=>False
theorem RoundRel.mono {β β':Val} (hl:β.le β') {x y:Option Nat} (h:RoundRel β x y):RoundRel β' x y:=by
 cases x <;> cases y <;> first | exact h | (obtain ⟨l,a,b⟩:=h; exact ⟨l,hl _ _ a,b⟩)
structure FrameRel (β:Val) (s:SF) (f:Frame):Prop where
 fn:f.fn=s.fn
 tmps:SV.denL β s.tmps=some f.tmps.toList
 todo:TodoRel β s.todo f.todo
 defers:SD.denL β s.defers=some f.defers
 mode:f.mode=.run
 kind:f.kind=.normal
 round:RoundRel β s.roundOf f.roundOf
theorem FrameRel.mono {β β':Val} (hl:β.le β') {s:SF} {f:Frame} (h:FrameRel β s f):FrameRel β' s f :=
 ⟨h.fn,SV.denL_mono hl _ h.tmps,h.todo.mono hl,SD.denL_mono hl h.defers,h.mode,h.kind,h.round.mono hl⟩
def FramesRel (β:Val):List SF->List Frame->Prop
 | [],[]=>True
 | s::r,f::r'=>FrameRel β s f/\FramesRel β r r'
 | _,_=>False
theorem FramesRel.mono {β β':Val} (hl:β.le β'):∀ {x:List SF} {y:List Frame},FramesRel β x y->FramesRel β' x y
 | [],[],_=>trivial
 | _::_,_::_,h=>⟨h.1.mono hl,FramesRel.mono hl h.2⟩
 | [],_::_,h=>h.elim
 | _::_,[],h=>h.elim
theorem qqb {f:Frame} (h:f.mode=.run):f=f.atR ⟨f.tmps,f.defers⟩ f.todo:=by
 cases f; simp only [Frame.atR] at *; subst h; rfl
structure Base where
 P:Program
 glob:Nat->Option Nat
 O:Nat->Prop
 w0:World
 cs:List Frame
 fn0:FuncId
 fix:Val
structure BRel (B:Base) (β:Val):Prop where
 glob:GlobRel B.glob β
 fix:B.fix.le β
theorem BRel.mono {B:Base} {β β':Val} (h:BRel B β) (hl:β.le β'):BRel B β':=⟨h.glob.mono hl,Val.le_trans h.fix hl⟩
structure MRel (B:Base) (s:SS) (m:Machine):Prop where
 ex:∃ β fr frs w,m=lone fr (frs++B.cs) w/\FramesRel β s.frames (fr::frs)/\HeapRel B.P B.O B.w0 β s.heap w/\BRel B β/\((fr::frs).getLast?).map (·.fn)=some B.fn0
structure DoneRel (B:Base) (v:SV) (H:List SO) (m:Machine):Prop where
 ex:∃ β fr v' w,m=lone fr B.cs w/\fr.fn=B.fn0/\fr.leaving B.P w (.returned v')/\v.den β=some v'/\HeapRel B.P B.O B.w0 β H w/\BRel B β
def After (B:Base) (go:SS->Tree) (D:SV->List SO->Prop) (S:SS->Prop) (m:Machine):Prop :=
 ∃ m',Steps B.P m m'/\((∃ s',(go s').Ob D S/\MRel B s' m')\/(∃ v H,D v H/\DoneRel B v H m'))
theorem After.of_steps {B:Base} {go:SS->Tree} {D:SV->List SO->Prop} {S:SS->Prop} {m m1:Machine} (h:Steps B.P m m1) (h':After B go D S m1):After B go D S m :=
 let ⟨m',a,b⟩:=h'; ⟨m',h.trans a,b⟩
theorem After.step {B:Base} {go:SS->Tree} {D:SV->List SO->Prop} {S:SS->Prop} {m m1:Machine} (h:step B.P m=.next m1) (h':After B go D S m1):After B go D S m:=h'.of_steps (.one h)
section
variable {B:Base} {go:SS->Tree} {D:SV->List SO->Prop} {S:SS->Prop}
theorem qwe {glob:Nat->Option Nat} {β:Val} {T:List SV} {a:Act} (hT:SV.denL β T=some a.tmps.toList) (hg:GlobRel glob β) (x:Operand):(evS glob T x).den β=some (a.eval x):=by
 cases x with
 | tmp t =>
   show (optC (nth T t) qua fun v=>v).den β=some (a.tmps.getD t undef)
   rw [qca]
   cases h:T[t]? with
   | none =>
     have hlen:=qva hT
     have:a.tmps.size<=t:=by
      rw [List.getElem?_eq_none_iff] at h
      simp at hlen; omega
     rw [Array.getD_eq_getD_getElem?,Array.getElem?_eq_none this]; rfl
   | some v =>
     obtain ⟨x,hx,hd⟩:=qed hT h
     rw [Array.getD_eq_getD_getElem?,show a.tmps[t]? = some x from by rw [← hx]; simp]
     exact hd
 | const v=>exact q0g β v
 | global g =>
   show (qwg g glob T).den β=_
   unfold qwg
   split
   . rename_i nm h
     obtain ⟨l,h1,h2,h3⟩:=hg g nm h
     simp [SV.den,SA.den,h1,h2,h3,SN.den,Act.eval]
   . rfl
 | func f=>rfl
theorem qq9 {β:Val} {T:List SV} {a:Act} (hT:SV.denL β T=some a.tmps.toList) (dst:Option Tmp) {v:SV} {x:Value} (hv:v.den β=some x):SV.denL β (putT T dst v)=some (a.put dst x).tmps.toList:=by
 cases dst with
 | none=>exact hT
 | some d =>
   show SV.denL β (setN T d v)=_
   rw [que]
   simp only [Act.put,Array.toList_setIfInBounds]
   exact qeq hT hv
theorem FrameRel.to {β:Val} {s:SF} {f:Frame} (h:FrameRel β s f) {k:List SItem} {k':List Item} (hk:TodoRel β k k'):FrameRel β (s.to k) (f.atR ⟨f.tmps,f.defers⟩ k') :=
 ⟨h.fn,h.tmps,hk,h.defers,rfl,h.kind,h.round⟩
theorem q5b {f f':Frame} {frs:List Frame} (h:f'.fn=f.fn):((f'::frs).getLast?).map (·.fn)=((f::frs).getLast?).map (·.fn):=by
 cases frs with
 | nil=>simp [h]
 | cons g r=>simp [List.getLast?_cons_cons]
theorem q0c {s:SF} {rest:List SF} {H:List SO} {β:Val} {fr:Frame} {frs:List Frame} {w:World} (hF:FrameRel β s fr) (hR:FramesRel β rest frs) (hH:HeapRel B.P B.O B.w0 β H w) (hG:BRel B β)
  (hl:((fr::frs).getLast?).map (·.fn)=some B.fn0) {k:List SItem} {k':List Item} (hk:TodoRel β k k') (hgo:(go ⟨s.to k::rest,H⟩).Ob D S)
  (hst:step B.P (lone (fr.atR ⟨fr.tmps,fr.defers⟩ fr.todo) (frs++B.cs) w)=.next (lone (fr.atR ⟨fr.tmps,fr.defers⟩ k') (frs++B.cs) w)):After B go D S (lone fr (frs++B.cs) w):=by
 rw [qqb hF.mode]
 exact ⟨_,.one hst,.inl ⟨_,hgo,⟨β,_,frs,w,rfl,⟨hF.to hk,hR⟩,hH,hG,by have:=q5b (f:=fr) (f':=fr.atR ⟨fr.tmps,fr.defers⟩ k') (frs:=frs) rfl; rw [this]; exact hl⟩⟩⟩
theorem qbs {β:Val} (id:Nat):∀ (k:List SItem) (k':List Item),TodoRel β k k'->match qso id k with
  | some r=>∃ r',exitTo id k'=some r'/\TodoRel β r r'
  | none=>exitTo id k'=none
 | [],[],_=>rfl
 | [],_::_,h=>h.elim
 | _::_,[],h=>h.elim
 | x::k,y::k',h=>by
   have ih:=qbs id k k' h.2
   obtain ⟨h1,h2⟩:=h
   cases x <;> cases y <;> first | exact h1.elim | skip
   case inBlock.inBlock i j =>
    have h1':j=i:=h1
    subst h1'
    simp only [qso,exitTo]
    by_cases hj:j=id
    . subst hj; simp; exact h2
    . simp [hj]; exact ih
   all_goals first | exact ih | skip
end
end
end Go.Sim
