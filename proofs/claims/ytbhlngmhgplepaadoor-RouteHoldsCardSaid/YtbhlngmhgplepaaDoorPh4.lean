/-
  zcS behind one another: the symbolic simulator and what it is told of the program.
-/
import Derived.Test.YtbhlngmhgplepaaDoorPh3
import Derived.RangeFuncIn
import Derived.RangeFuncRecord
import Derived.RangeFuncNested
import Derived.Recover
import Derived.Orders
namespace Go.Sim
noncomputable section
variable {α:Type}
section
variable {P:Program} {O:Nat->Prop} {w0:World} {β:Val} {H:List SO} {w:World} {base:Nat}
variable {ev:Operand->SV} {ρ:Operand->Value} {dst:Option Tmp} {t:TypeId} {pos:String} {af:Array Edge} {g:Option (Nat × Bool)}
theorem qqn (hr:HeapRel0 P O w0 β H w) {v:SV} {x:Value} (hv:v.den β=some x) {size m n:Nat} (hn:∀ (P:Program) (w':World),(Builtin.lenOf x).run P w'=.ok n w') (hmn:m<=n) {f:List SV->R α} {φ:α->Prop}
  (hf:∀ l xs,SV.zal β l=some xs->(∀ w':World,w'.heap=w.heap->(Builtin.firstCells size m x).run P w'=.ok xs.toArray w')->xs.length=m * size->(f l).Sat φ):(qhl H size v (.lit m) f).Sat φ:=by
 have hlen:=hn P w;unfold qhl;split
 . simp only [SV.den,Option.some.injEq] at hv; subst hv;simp only [Builtin.lenOf,Sem.run_pure,Result.ok.injEq,and_true] at hlen;exact hf [] [] rfl (fun w' hw'=>qla (w:=w) w' hw' (.inl ⟨0,rfl,rfl⟩)) (by
    have:m=0:=by omega
    rw [this]; simp)
 . rename_i a _ _ n' hm;cases hm;rw [zaf] at hv;obtain ⟨A,C,hA,hC,_,rfl⟩:=hv;exact qyh hr hA fun l xs h1 h2 h3=>hf l xs h1 (fun w' hw'=>qla w' hw' (.inr (.inl ⟨A,_,_,rfl,h2,h3⟩))) h2
 . rename_i a k l0 _ n' hm;cases hm;rw [q1c] at hv;obtain ⟨A,C,hA,hC,hle,rfl⟩:=hv;simp only [Builtin.lenOf,Sem.run_pure,Result.ok.injEq,and_true] at hlen;refine qyh hr (SA.za7 hA k) fun l xs h1 h2 h3=>hf l xs h1 (fun w' hw'=>qla w' hw' (.inr (.inl ⟨_,_,_,rfl,h2,fun j y hy => ?_⟩))) h2;by_cases hC0:C=0
   . have hm0:m=0:=by omega
     rw [hm0,Nat.zero_mul] at h2;rw [List.eq_nil_of_length_eq_zero h2] at hy;simp at hy
   . rw [if_neg hC0]; exact h3 j y hy
 . rename_i s n' hm;cases hm;simp only [SV.den,Option.some.injEq] at hv; subst hv;simp only [Builtin.lenOf,Sem.run_pure,Result.ok.injEq,and_true] at hlen;refine R.Sat.zab (fun h1 => ?_) fun _=>trivial;have h:=Nat.eq_of_beq_eq_true h1;rw [qsc];refine hf _ _ (q3t β _) (fun w' hw'=>qla (w:=w) w' hw' (.inr (.inr ⟨s,rfl,rfl⟩))) ?_
   rw [h]; simp; have:s.size=s.data.size:=rfl;simp only [za8.den] at hlen; omega
 . rename_i l n' hm;cases hm;simp only [SV.den,Option.some.injEq] at hv; subst hv;simp only [Builtin.lenOf,Sem.run_pure,Result.ok.injEq,and_true] at hlen;have hsz:(za8.bytes l).den.size=l.length:=by
    show (l.map fun i=>UInt8.ofNat i.den.toNat).toArray.size=_;simp
   refine R.Sat.zab (fun h1 => ?_) fun _=>trivial;have h:=Nat.eq_of_beq_eq_true h1;intro zhI;rw [qsc,qxa];refine hf _ _ (qmn β _) (fun w' hw'=>qla (w:=w) w' hw' (.inr (.inr ⟨(za8.bytes l).den,rfl,?_⟩))) ?_
   . simp only [za8.den,qfc,← List.map_take,List.map_map];refine List.map_congr_left fun i hi => ?_
     have:=zhI i (List.mem_of_mem_take hi);simp only [Function.comp,UInt8.toNat_ofNat'];rw [Nat.mod_eq_of_lt (by omega)]
     congr 1; omega
   . rw [h]; simp; omega
 . trivial
structure zeV (P:Program) (w:World) (tys:Array TypeId) (st elem:TypeId) (i:TypeInfo) (z:Value) (x:Value) (xs:List Value) (n:Nat) (Y:Nat->BitVec 8):Prop where
 ht:tys[0]? = some st
 hd:P.underlying st=some (.slice elem)
 hi:P.info? elem=some i
 hz:i.zero=some z
 hzl:z.cells.size=i.size
 hm:qve P tys=true
 hn:(Builtin.lenOf x).run P w=.ok n w
 hx:∀ w':World,w'.heap=w.heap->(Builtin.firstCells 1 n x).run P w'=.ok xs.toArray w'
 hxl:xs.length=n
 hY:∀ j,j<n->xs[j]? = some (.int .u8 ((Y j).toNat:Int))
theorem qrn (hr:HeapRel0 P O w0 β H w) {tys:Array TypeId} {st elem ty:TypeId} {i:TypeInfo} {z x:Value} {xs:List Value} {n len c:SN} {Y:Nat->BitVec 8} (S:zeV P w tys st elem i z x xs n.den Y) {s:SV} {A:Addr} (hs:s.den β=some (.slice (some A) len.den c.den)) {res:Result Next}
  (hres:∀ v w',(Builtin.append_ tys ty #[.slice (some A) len.den c.den,x]).run P w=.ok v w'->res=.ok (.value v) w') :
  (q0p H base elem i.size i.bytes s c len n Y).Sat (qea P H β w base res):=by
 refine qrr hr hs (n:=len) rfl fun X os h1 h2 h3 => ?_
 rintro ⟨hgt,⟨hb1,hb2⟩,hs1⟩;obtain ⟨cap,hcap,hrun⟩:=qfb (ty:=ty) (bs:=some A) (sLen:=len.den) (sCap:=c.den) (os:=os) (xs:=xs) S.ht S.hd S.hi S.hz S.hm S.hn (by rw [hs1]; exact S.hx) (by rw [hs1]; exact h3) hgt hb1 hb2
 refine qnf (c:=.fn (qdh (zgx X len.den Y)) (len.den+n.den)) (vs:=os++xs) (len:=len.den+n.den) S.hi S.hzl (qv1 h1 S.hxl h2 S.hY) (by rw [hs1,List.length_append,h1,S.hxl,Nat.mul_one]) hcap (SN.zaZ _ _) (hres _ _ ?_)
 rw [hrun]; congr 3; simp
theorem qhv (hr:HeapRel0 P O w0 β H w) {tys:Array TypeId} {st elem ty:TypeId} {i:TypeInfo} {z x:Value} {xs:List Value} {n len:SN} {Y:Nat->BitVec 8} (S:zeV P w tys st elem i z x xs n.den Y) {a:SA} {A:Addr} {nm k C:Nat} (hA:a.den β=some A) (hC:(SC.rest nm k).den β=some C) {res:Result Next}
  (hres:∀ v w',(Builtin.append_ tys ty #[.slice (some A) len.den C,x]).run P w=.ok v w'->res=.ok (.value v) w') :
  (qnt H base elem i.size i.bytes a nm k len n Y).Sat (qea P H β w base res):=by
 refine R.Sat.zab (fun hnm=>R.Sat.zab (fun hk=>SN.zaT (fun o ho=>R.Sat.zab (fun ho0=>qkb fun e he => ?_) fun _=>trivial) fun _=>trivial) fun _=>trivial) fun _=>trivial;obtain rfl:=Nat.eq_of_beq_eq_true hnm;obtain rfl:=Nat.eq_of_beq_eq_true hk;obtain rfl:=Nat.eq_of_beq_eq_true ho0;cases e with
 | row=>trivial
 | loop=>trivial
 | deferred=>trivial
 | gone=>trivial
 | mem=>trivial
 | obj=>trivial
 | own cl wh el =>
   refine R.Sat.zab (fun hel => ?_) fun _=>trivial;obtain rfl:=Nat.eq_of_beq_eq_true hel;obtain ⟨ll,vs,rest,lo,hi,hbl,h0',hc,hh,hfz,hw,hcap⟩:=hr.entries _ _ he;obtain ⟨l',hl',hAe⟩:=SA.zaB hA;rw [hbl] at hl'; cases hl';have zd0:A=⟨ll.blk,0,none⟩:=by rw [hAe,h0',ho]; rfl
   have hCe:C=ll.cap:=by
    simp only [SC.den,hbl,Option.map_some,Option.some.injEq] at hC; omega
   refine qxh hc fun X hle hX => ?_
   rw [Nat.zero_add] at hle;rintro ⟨⟨hb1,hb2⟩,hs1⟩;have hol:(vs.take len.den).length=len.den:=by rw [List.length_take]; omega
   have hos:∀ j,j<len.den->(vs.take len.den)[j]? = some (.int .u8 ((X j).toNat:Int)):=by
    intro j hj;rw [List.getElem?_take,if_pos hj];have:=hX j hj;rw [Nat.zero_add] at this; exact this
   have hcells:∀ (j:Nat) (y:Value),(vs.take len.den)[j]? = some y->w.cell? (A.add j)=some y:=by
    intro j y hy;rw [zd0,q9a,cell?_of hh,Nat.zero_add];rw [List.getElem?_take] at hy;split at hy
    . have:=(List.getElem?_eq_some_iff.1 hy).1;simp [List.getElem?_append_left this,hy]
    . cases hy
   have zcP:zaj β (.fn (qdh (zgx X len.den Y)) (len.den+n.den)) (vs.take len.den++xs):=qv1 hol S.hxl hos S.hY;rcases Nat.lt_or_ge C (len.den+n.den) with hgt | hfit
   . obtain ⟨cap,zdW,hrun⟩:=qfb (ty:=ty) (bs:=some A) (sLen:=len.den) (sCap:=C) (os:=vs.take len.den) (xs:=xs) S.ht S.hd S.hi S.hz S.hm S.hn (by rw [hs1]; exact S.hx)
      (fun w' hw'=>qla w' hw' (.inr (.inl ⟨A,len.den,C,rfl,by rw [hol,hs1,Nat.mul_one],hcells⟩))) hgt hb1 hb2
     exact qkh (c:=.fn _ _) he rfl S.hi S.hzl zcP (by rw [hs1,List.length_append,hol,S.hxl,Nat.mul_one]) zdW (SN.zaZ _ _) (hres _ _ (by rw [hrun]; congr 3; simp))
   . have hroom:len.den+xs.length<=(vs++rest).length:=by
      have h1:=hcap i S.hi;rw [hs1,Nat.mul_one] at h1;rw [S.hxl]; rw [← hCe] at h1; omega
     have hsc:∀ y∈xs,y.oneCell'=true:=by
      intro y hy;obtain ⟨j,hj⟩:=List.getElem?_of_mem hy;have hlt:=(List.getElem?_eq_some_iff.1 hj).1;rw [S.hY j (by rw [← S.hxl]; exact hlt)] at hj
      cases hj; rfl
     have hrun:=q5b (P:=P) xs (vs++rest) (0+len.den) 0 w hh hsc hfz.at (by omega)
     rw [Nat.add_zero,Nat.zero_add] at hrun;have zaX:=qab (ty:=ty) (bs:=some A) (sLen:=len.den) (sCap:=C) S.ht S.hd S.hi S.hm S.hn (by rw [hs1]; exact S.hx w rfl) hfit (by rw [zd0,hs1,Nat.mul_one]; simp only [q9a,Nat.zero_add]; exact hrun)
     have hover:qib (vs++rest) len.den xs=(vs.take len.den++xs)++(vs++rest).drop (len.den+xs.length):=by
      unfold qib; rw [List.take_append_of_le_length hle]
     have hlt:ll.blk<w.heap.size:=(Array.getElem?_eq_some_iff.1 hh).1;have hlen':((vs.take len.den++xs)++(vs++rest).drop (len.den+xs.length)).length=(vs++rest).length:=by
      rw [← hover,q4a hroom]
     refine fun hb=>⟨.value _,_,_,β.upd base ll,hres _ _ zaX,rfl,?_,?_,?_⟩
     . rw [zaf];refine ⟨⟨ll.blk,0,none⟩,C,by simp [SA.den,Val.upd_same,h0',SN.den],by simp [SC.den,Val.upd_same,hCe],by rw [SN.zaZ]; exact hfit,by rw [zd0,SN.zaZ]⟩
     . refine ⟨Val.zbh hb.hd,rfl,rfl,rfl,Nat.le_refl _,by simp,?_,?_,?_,?_,?_,?_⟩
       . intro m hm;unfold Val.upd;rw [if_neg]; simp at hm; omega
       . intro b _ hn;have:=hn a.nm .gone ll (by simp) hbl
         simp [this]
       . intro m e1 e2 h1 h2; simp at h1 h2; rw [h1.2,h2.2]
       . intro m e h1; simp at h1; rw [h1.2]; trivial
       . intro j e hj;cases j with
         | succ j=>simp at hj
         | zero =>
           simp at hj; subst hj;refine ⟨rfl,⟨ll,_,(vs++rest).drop (len.den+xs.length),lo,hi,Val.upd_same _ _ _,h0',zcP.mono (Val.zbh hb.hd),?_,?_,by simp,?_⟩,ll,Val.upd_same _ _ _,.inr ⟨a.nm,ll,by simp,hbl,rfl⟩⟩
           . rw [← hover]; simp [hlt]
           . rw [hlen']; exact hfz
           . intro j hj; rw [hlen']; exact hcap j hj
       . intro j k l l' hjk hj hk; simp at hj hk; omega
     . intro m e hm;simp at hm;obtain ⟨rfl,rfl⟩:=hm;exact ⟨_,he,rfl,.not⟩
theorem qsn (hr:HeapRel0 P O w0 β H w) {tys:Array TypeId} {st elem ty:TypeId} {i:TypeInfo} {z xv:Value} {n len l:SN} {x:SV} (hx:x.den β=some xv) (ht:tys[0]? = some st) (hd:P.underlying st=some (.slice elem)) (hi:P.info? elem=some i) (hz:i.zero=some z) (hzl:z.cells.size=i.size) (hm:qve P tys=true) (hn:(Builtin.lenOf xv).run P w=.ok n.den w)
  {a:SA} {c:SC} {sv:Value} (hs:(SV.slice a l c).den β=some sv) (hlen:∀ (P:Program) (w':World),(Builtin.lenOf sv).run P w'=.ok len.den w') {res:Result Next}
  (hres:∀ v w',(Builtin.append_ tys ty #[sv,xv]).run P w=.ok v w'->res=.ok (.value v) w') :
  (qxv H base elem i.size i.bytes a l c len n x).Sat (qea P H β w base res):=by
 refine qrr hr hx hn fun Y xs h1 h2 h3 => ?_
 have S:zeV P w tys st elem i z xv xs n.den Y:=⟨ht,hd,hi,hz,hzl,hm,hn,h3,h1,h2⟩;have hs0:=hs;rw [zaf] at hs;obtain ⟨A,C,hA,hC,hLC,rfl⟩:=hs;have hl0:len.den=l.den:=q6b hlen P w;rw [← hl0] at hres hs0 hLC;cases c with
 | lit c' =>
   simp only [SC.den,Option.some.injEq] at hC;subst hC;exact qrn (c:=.lit c') (ty:=ty) hr S hs0 hres
 | sym c' =>
   simp only [SC.den,Option.some.injEq] at hC;subst hC;exact qrn (c:=.sym c') (ty:=ty) hr S hs0 hres
 | rest nm k=>exact qhv (ty:=ty) hr S hA hC hres
theorem q3x {γ:Type} {g:Value->γ} (hr:HeapRel0 P O w0 β H w) {y:Value} {n size:Nat} (hn:(Builtin.lenOf y).run P w=.ok n w) {f:(Nat->γ)->R α} {φ:α->Prop}
  (hf:∀ (X:Nat->Value) (xs:List Value),xs.length=n * size->(∀ j,j<n * size->xs[j]? = some (X j))->(∀ w':World,w'.heap=w.heap->(Builtin.firstCells size n y).run P w'=.ok xs.toArray w')->(f fun j=>g (X j)).Sat φ) :
  (zah (qci H) (R.stuck 907) fun m=>R.need (zcH y/\(zez y=none->zaL y=0)/\∀ j,j<n * size->(m.cell ((zaV y).add j)).isSome=true) (f fun j=>g (zcY m (zaV y) j))).Sat φ:=by
 cases hm:qci H with
 | none=>trivial
 | some m =>
   obtain ⟨k,hk⟩:=qld hm;have hmem:=hr.zcG k m hk;rintro ⟨hs,h0,ht⟩;have hl:zaL y=n:=by
    have hs:y=.slice (zez y) (zaL y) (zbY y):=hs;rw [hs] at hn;simp only [Builtin.lenOf,Sem.run_pure,Result.ok.injEq,and_true] at hn;exact hn
   have hcell:∀ j,j<n * size->w.cell? ((zaV y).add j)=some (zcY m (zaV y) j):=fun j hj=>by
    have h1:=ht j hj;cases hc:m.cell ((zaV y).add j) with
    | none=>rw [hc] at h1; cases h1
    | some z =>
      rw [(hmem.told _ _ hc).1];unfold zcY;rw [hc]; rfl
   refine hf (zcY m (zaV y)) ((List.range (n * size)).map (zcY m (zaV y))) (by simp) (fun j hj=>by simp [hj]) fun w' hw' => ?_
   cases ho:zez y with
   | none =>
     have hz:=h0 ho;have hn0:n=0:=by omega
     refine qla w' hw' (.inl ⟨zbY y,?_,by rw [hn0]; simp⟩)
     have hs:y=.slice (zez y) (zaL y) (zbY y):=hs;rw [ho,hz] at hs;exact hs
   | some A =>
     have hs:y=.slice (zez y) (zaL y) (zbY y):=hs;rw [ho] at hs;have hA:zaV y=A:=by rw [hs]; rfl
     refine qla w' hw' (.inr (.inl ⟨A,zaL y,zbY y,hs,by simp,fun j z hz => ?_⟩))
     rw [List.getElem?_map] at hz;cases hj:(List.range (n * size))[j]? with
     | none=>rw [hj] at hz; cases hz
     | some q =>
       rw [hj] at hz;obtain ⟨hlt,hq⟩:=List.getElem?_eq_some_iff.1 hj;rw [List.getElem_range] at hq;subst hq;rw [← hA,hcell j (by simpa using hlt)]
       exact hz
theorem qdu {β:Val} {c:Cells} {vs:List Value} (hc:zaj β c vs) {off n:Nat} {f:(Nat->SV)->R α} {φ:α->Prop}
  (hf:∀ X:Nat->SV,off+n<=vs.length->(∀ j,j<n->∃ y,vs[off+j]? = some y/\(X j).den β=some y)->(f X).Sat φ):(q0q c off n f).Sat φ:=by
 cases c with
 | lst l =>
   intro hn;rw [qha] at hn;have hl:vs.length=l.length:=qra hc;refine hf _ (by omega) fun j hj => ?_
   have hlt:off+j<l.length:=by omega
   obtain ⟨y,hy,hd⟩:=qlc hc (List.getElem?_eq_getElem hlt);refine ⟨y,hy,?_⟩;show ((nth l (off+j)).getD qsa).den β=some y;rw [qda,List.getElem?_eq_getElem hlt];exact hd
 | fn g m =>
   intro hn;obtain ⟨h1,h2⟩:=hc;refine hf _ (by omega) fun j hj => ?_
   have hlt:off+j<vs.length:=by omega
   exact ⟨_,List.getElem?_eq_getElem hlt,h2 _ _ (List.getElem?_eq_getElem hlt)⟩
 | raw V m =>
   intro hn;obtain ⟨h1,h2⟩:=hc;refine hf _ (by omega) fun j hj => ?_
   have hlt:off+j<vs.length:=by omega
   exact ⟨_,List.getElem?_eq_getElem hlt,congrArg some (h2 _ _ (List.getElem?_eq_getElem hlt)).symm⟩
theorem jha (hr:HeapRel0 P O w0 β H w) {v:SV} {x:Value} (hv:v.den β=some x) {n size:Nat} (hn:(Builtin.lenOf x).run P w=.ok n w) {f:(Nat->SV)->R α} {φ:α->Prop}
  (hf:∀ (X:Nat->SV) (xs:List Value),xs.length=n * size->(∀ j,j<n * size->∃ y,xs[j]? = some y/\(X j).den β=some y)->(∀ w':World,w'.heap=w.heap->(Builtin.firstCells size n x).run P w'=.ok xs.toArray w')->(f X).Sat φ):(zjo H v (n * size) f).Sat φ:=by
 unfold zjo;split
 . rename_i a l c;rw [zaf] at hv;obtain ⟨A,C,hA,hC,_,rfl⟩:=hv;refine qkb fun e he => ?_
   have key:∀ cl:Cells,e.cells? = some cl->(q0q cl a.off.den (n * size) f).Sat φ:=by
    intro cl hcl;obtain ⟨ll,vs,hl,hcr,hcell⟩:=q1b hr he hcl;obtain ⟨l',hl',rfl⟩:=SA.zaB hA;rw [hl] at hl'; cases hl';refine qdu hcr fun X hle hX=>hf X ((vs.drop a.off.den).take (n * size)) (by simp; omega) (fun j hj => ?_) fun w' hw' => ?_
    . rw [List.getElem?_take,if_pos hj,List.getElem?_drop]; exact hX j hj
    . refine qla w' hw' (.inr (.inl ⟨_,_,_,rfl,by simp; omega,fun j y hy => ?_⟩))
      rw [List.getElem?_take] at hy;split at hy
      . rw [List.getElem?_drop] at hy;rw [q9a,Nat.add_assoc]; exact hcell _ _ hy
      . cases hy
   cases e with
   | own c w el=>exact key c rfl
   | row c=>exact key c rfl
   | loop=>trivial
   | deferred=>trivial
   | gone=>trivial
   | mem=>trivial
   | obj=>trivial
 . rename_i y;obtain rfl:y=x:=Option.some.inj hv;exact q3x (g:=SV.val) hr hn fun X xs h1 h2 h3=>hf _ xs h1 (fun j hj=>⟨_,h2 j hj,rfl⟩) h3
 . trivial
theorem q5l (hr:HeapRel0 P O w0 β H w) {v:SV} {x:Value} (hv:v.den β=some x) {n size:Nat} (hn:(Builtin.lenOf x).run P w=.ok n w) {f:(Nat->Value)->R α} {φ:α->Prop}
  (hf:∀ (X:Nat->Value) (xs:List Value),xs.length=n * size->(∀ j,j<n * size->xs[j]? = some (X j))->(∀ w':World,w'.heap=w.heap->(Builtin.firstCells size n x).run P w'=.ok xs.toArray w')->(f X).Sat φ):(zgk H v (n * size) f).Sat φ:=by
 unfold zgk;split
 . simp only [SV.den,Option.some.injEq] at hv; subst hv;simp only [Builtin.lenOf,Sem.run_pure,Result.ok.injEq,and_true] at hn;have hz:n=0:=hn.symm;subst hz;refine hf _ [] (by simp) (fun j hj=>by simp at hj) fun w' hw'=>qla (w:=w) w' hw' (.inl ⟨0,rfl,rfl⟩)
 . rename_i a l c;rw [zaf] at hv;obtain ⟨A,C,hA,hC,_,rfl⟩:=hv;refine qkb fun e he => ?_
   have key:∀ cl:Cells,e.cells? = some cl->(qno cl a.off.den (n * size) f).Sat φ:=by
    intro cl hcl;obtain ⟨ll,vs,hl,hcr,hcell⟩:=q1b hr he hcl;obtain ⟨l',hl',rfl⟩:=SA.zaB hA;rw [hl] at hl'; cases hl';refine qbn hcr fun X hle hX=>hf X ((vs.drop a.off.den).take (n * size)) (by simp; omega) (fun j hj => ?_) fun w' hw' => ?_
    . rw [List.getElem?_take,if_pos hj,List.getElem?_drop]; exact hX j hj
    . refine qla w' hw' (.inr (.inl ⟨_,_,_,rfl,by simp; omega,fun j y hy => ?_⟩))
      rw [List.getElem?_take] at hy;split at hy
      . rw [List.getElem?_drop] at hy;rw [q9a,Nat.add_assoc]; exact hcell _ _ hy
      . cases hy
   cases e with
   | own c w el=>exact key c rfl
   | row c=>exact key c rfl
   | loop=>trivial
   | deferred=>trivial
   | gone=>trivial
   | mem=>trivial
   | obj=>trivial
 . rename_i a k l c;rw [q1c] at hv;obtain ⟨A,C,hA,hC,hle,rfl⟩:=hv;simp only [Builtin.lenOf,Sem.run_pure,Result.ok.injEq,and_true] at hn;refine qkb fun e he => ?_
   have key:∀ cl:Cells,e.cells? = some cl->(qno cl (a.off.den+k.den) (n * size) f).Sat φ:=by
    intro cl hcl;obtain ⟨ll,vs,hl,hcr,hcell⟩:=q1b hr he hcl;obtain ⟨l',hl',rfl⟩:=SA.zaB hA;rw [hl] at hl'; cases hl';refine qbn hcr fun X hle' hX=>hf X ((vs.drop (a.off.den+k.den)).take (n * size)) (by simp; omega) (fun j hj => ?_) fun w' hw' => ?_
    . rw [List.getElem?_take,if_pos hj,List.getElem?_drop]; exact hX j hj
    . refine qla w' hw' (.inr (.inl ⟨_,_,_,rfl,by simp; omega,fun j y hy => ?_⟩))
      rw [List.getElem?_take] at hy;split at hy
      . rename_i hj;rw [List.getElem?_drop] at hy;have hC0:¬ C=0:=by
         intro hC0;have:n=0:=by omega
         rw [this,Nat.zero_mul] at hj; omega
        rw [if_neg hC0,q9a,q9a,Nat.add_assoc,Nat.add_assoc];have:=hcell _ _ hy;rw [Nat.add_assoc] at this;exact this
      . cases hy
   cases e with
   | own c w el=>exact key c rfl
   | row c=>exact key c rfl
   | loop=>trivial
   | deferred=>trivial
   | gone=>trivial
   | mem=>trivial
   | obj=>trivial
 . rename_i y;obtain rfl:y=x:=Option.some.inj hv;exact q3x (g:=fun v=>v) (size:=size) (f:=f) hr hn hf
 . trivial
theorem q6l {X Y:Nat->Value} {os xs:List Value} {l n:Nat} (h1:os.length=l) (h2:xs.length=n) (hX:∀ j,j<l->os[j]? = some (X j)) (hY:∀ j,j<n->xs[j]? = some (Y j)) {N:Nat} (hN:N=l+n) :
  zaj β (.raw (zc5 X l Y) N) (os++xs):=by
 subst hN;refine ⟨by simp [h1,h2],fun i y hy => ?_⟩
 unfold zc5;by_cases hi:i<l
 . rw [if_pos hi];rw [List.getElem?_append_left (by omega),hX i hi] at hy
   exact (Option.some.inj hy).symm
 . rw [if_neg hi];rw [List.getElem?_append_right (by omega),h1] at hy
   have hlt:=(List.getElem?_eq_some_iff.1 hy).1;rw [hY (i - l) (by omega)] at hy
   exact (Option.some.inj hy).symm
structure zcV (P:Program) (w:World) (tys:Array TypeId) (st elem:TypeId) (i:TypeInfo) (z:Value) (x:Value) (xs:List Value) (n:Nat) (Y:Nat->Value):Prop extends zeW P w tys st elem i z x xs n where
 hY:∀ j,j<n * i.size->xs[j]? = some (Y j)
theorem zcV.one {tys:Array TypeId} {st elem:TypeId} {i:TypeInfo} {z x:Value} {xs:List Value} {n:Nat} {Y:Nat->Value} (S:zcV P w tys st elem i z x xs n Y) (h:∀ j,j<n * i.size->(Y j).oneCell'=true):∀ y∈xs,y.oneCell'=true:=by
 intro y hy;obtain ⟨j,hj⟩:=List.getElem?_of_mem hy;have hlt:=(List.getElem?_eq_some_iff.1 hj).1;rw [S.hxl] at hlt;rw [S.hY j hlt] at hj;cases hj;exact h j hlt
theorem qiv (hr:HeapRel0 P O w0 β H w) {tys:Array TypeId} {st elem ty:TypeId} {i:TypeInfo} {z x:Value} {xs:List Value} {n len:SN} {Y:Nat->Value} (S:zcV P w tys st elem i z x xs n.den Y) {a:SA} {A:Addr} {nm k C:Nat} (hA:a.den β=some A) (hC:(SC.rest nm k).den β=some C) {res:Result Next}
  (hres:∀ v w',(Builtin.append_ tys ty #[.slice (some A) len.den C,x]).run P w=.ok v w'->res=.ok (.value v) w') :
  (qpt H base elem i.size i.bytes a nm k len n Y).Sat (qea P H β w base res):=by
 refine R.Sat.zab (fun hnm=>R.Sat.zab (fun hk=>SN.zaT (fun o ho=>R.Sat.zab (fun ho0=>qkb fun e he => ?_) fun _=>trivial) fun _=>trivial) fun _=>trivial) fun _=>trivial;obtain rfl:=Nat.eq_of_beq_eq_true hnm;obtain rfl:=Nat.eq_of_beq_eq_true hk;obtain rfl:=Nat.eq_of_beq_eq_true ho0;cases e with
 | row=>trivial
 | loop=>trivial
 | deferred=>trivial
 | gone=>trivial
 | mem=>trivial
 | obj=>trivial
 | own cl wh el =>
   refine R.Sat.zab (fun hel => ?_) fun _=>trivial;obtain rfl:=Nat.eq_of_beq_eq_true hel;obtain ⟨ll,vs,rest,lo,hi,hbl,h0',hc,hh,hfz,hw,hcap⟩:=hr.entries _ _ he;obtain ⟨l',hl',hAe⟩:=SA.zaB hA;rw [hbl] at hl'; cases hl';have zd0:A=⟨ll.blk,0,none⟩:=by rw [hAe,h0',ho]; rfl
   have hCe:C=ll.cap:=by
    simp only [SC.den,hbl,Option.map_some,Option.some.injEq] at hC; omega
   refine qbn hc fun X hle hX => ?_
   rw [Nat.zero_add] at hle;rintro ⟨⟨hb1,hb2⟩,hone⟩;have hol:(vs.take (len.den * i.size)).length=len.den * i.size:=by rw [List.length_take]; omega
   have hos:∀ j,j<len.den * i.size->(vs.take (len.den * i.size))[j]? = some (X j):=by
    intro j hj;rw [List.getElem?_take,if_pos hj];have:=hX j hj;rw [Nat.zero_add] at this; exact this
   have hcells:∀ (j:Nat) (y:Value),(vs.take (len.den * i.size))[j]? = some y->w.cell? (A.add j)=some y:=by
    intro j y hy;rw [zd0,q9a,cell?_of hh,Nat.zero_add];rw [List.getElem?_take] at hy;split at hy
    . have:=(List.getElem?_eq_some_iff.1 hy).1;simp [List.getElem?_append_left this,hy]
    . cases hy
   have hN:(len.den+n.den) * i.size=len.den * i.size+n.den * i.size:=Nat.add_mul _ _ _;have zcP:zaj β (.raw (zc5 X (len.den * i.size) Y) ((len.den+n.den) * i.size)) (vs.take (len.den * i.size)++xs):=q6l hol S.hxl hos S.hY hN;have zeN:(vs.take (len.den * i.size)++xs).length=(len.den+n.den) * i.size:=by rw [List.length_append,hol,S.hxl,hN]
   rcases Nat.lt_or_ge C (len.den+n.den) with hgt | hfit
   . obtain ⟨cap,zdW,hrun⟩:=qfb (ty:=ty) (bs:=some A) (sLen:=len.den) (sCap:=C) (os:=vs.take (len.den * i.size)) (xs:=xs) S.ht S.hd S.hi S.hz S.hm S.hn S.hx
      (fun w' hw'=>qla w' hw' (.inr (.inl ⟨A,len.den,C,rfl,hol,hcells⟩))) hgt hb1 hb2
     exact qkh (c:=.raw _ _) he rfl S.hi S.hzl zcP zeN zdW (SN.zaZ _ _) (hres _ _ (by rw [hrun]; congr 3; simp))
   . have hroom:len.den * i.size+xs.length<=(vs++rest).length:=by
      have h1:=hcap i S.hi;rw [S.hxl,← hN];refine Nat.le_trans (Nat.mul_le_mul_right _ hfit) ?_
      rw [hCe]; exact h1
     have hrun:=q5b (P:=P) xs (vs++rest) (0+len.den * i.size) 0 w hh (S.one hone) hfz.at (by omega)
     rw [Nat.add_zero,Nat.zero_add] at hrun;have zaX:=qab (ty:=ty) (bs:=some A) (sLen:=len.den) (sCap:=C) S.ht S.hd S.hi S.hm S.hn (S.hx w rfl) hfit (by rw [zd0]; simp only [q9a,Nat.zero_add]; exact hrun)
     have hover:qib (vs++rest) (len.den * i.size) xs=(vs.take (len.den * i.size)++xs)++(vs++rest).drop (len.den * i.size+xs.length):=by
      unfold qib; rw [List.take_append_of_le_length hle]
     have hlt:ll.blk<w.heap.size:=(Array.getElem?_eq_some_iff.1 hh).1;have hlen':((vs.take (len.den * i.size)++xs)++(vs++rest).drop (len.den * i.size+xs.length)).length=(vs++rest).length:=by
      rw [← hover,q4a hroom]
     refine fun hb=>⟨.value _,_,_,β.upd base ll,hres _ _ zaX,rfl,?_,?_,?_⟩
     . rw [zaf];refine ⟨⟨ll.blk,0,none⟩,C,by simp [SA.den,Val.upd_same,h0',SN.den],by simp [SC.den,Val.upd_same,hCe],by rw [SN.zaZ]; exact hfit,by rw [zd0,SN.zaZ]⟩
     . refine ⟨Val.zbh hb.hd,rfl,rfl,rfl,Nat.le_refl _,by simp,?_,?_,?_,?_,?_,?_⟩
       . intro m hm;unfold Val.upd;rw [if_neg]; simp at hm; omega
       . intro b _ hn;have:=hn a.nm .gone ll (by simp) hbl
         simp [this]
       . intro m e1 e2 h1 h2; simp at h1 h2; rw [h1.2,h2.2]
       . intro m e h1; simp at h1; rw [h1.2]; trivial
       . intro j e hj;cases j with
         | succ j=>simp at hj
         | zero =>
           simp at hj; subst hj;refine ⟨rfl,⟨ll,_,(vs++rest).drop (len.den * i.size+xs.length),lo,hi,Val.upd_same _ _ _,h0',zcP.mono (Val.zbh hb.hd),?_,?_,by simp,?_⟩,ll,Val.upd_same _ _ _,.inr ⟨a.nm,ll,by simp,hbl,rfl⟩⟩
           . rw [← hover]; simp [hlt]
           . rw [hlen']; exact hfz
           . intro j hj; rw [hlen']; exact hcap j hj
       . intro j k l l' hjk hj hk; simp at hj hk; omega
     . intro m e hm;simp at hm;obtain ⟨rfl,rfl⟩:=hm;exact ⟨_,he,rfl,.not⟩
theorem jia {v:SV} {x:Value} (h:zfd v) (hv:v.den β=some x):x.oneCell'=true:=by
 cases v with
 | val y=>obtain rfl:y=x:=Option.some.inj hv; exact h
 | _=>exact qwb (show qrh _=true from h) hv
theorem jja {X Y:Nat->SV} {os xs:List Value} {l n:Nat} (h1:os.length=l) (h2:xs.length=n) (hX:∀ j,j<l->∃ y,os[j]? = some y/\(X j).den β=some y) (hY:∀ j,j<n->∃ y,xs[j]? = some y/\(Y j).den β=some y) {N:Nat} (hN:N=l+n) :
  zaj β (.fn (zfA X l Y) N) (os++xs):=by
 subst hN;refine ⟨by simp [h1,h2],fun i y hy => ?_⟩
 unfold zfA;by_cases hi:i<l
 . rw [if_pos hi];obtain ⟨z,h3,h4⟩:=hX i hi;rw [List.getElem?_append_left (by omega),h3] at hy
   cases hy; exact h4
 . rw [if_neg hi];rw [List.getElem?_append_right (by omega),h1] at hy
   have hlt:=(List.getElem?_eq_some_iff.1 hy).1;obtain ⟨z,h3,h4⟩:=hY (i - l) (by omega)
   rw [h3] at hy;cases hy; exact h4
theorem qjv (hr:HeapRel0 P O w0 β H w) {tys:Array TypeId} {st elem ty:TypeId} {i:TypeInfo} {z x:Value} {n len:SN} (ht:tys[0]? = some st) (hd:P.underlying st=some (.slice elem)) (hi0:P.info? elem=some i) (hz:i.zero=some z) (hzl:z.cells.size=i.size) (hm:qve P tys=true) (hn:(Builtin.lenOf x).run P w=.ok n.den w) {sx:SV} (hx:sx.den β=some x) {a:SA} {A:Addr} {nm k C:Nat} (hA:a.den β=some A) (hC:(SC.rest nm k).den β=some C) {res:Result Next}
  (hres:∀ v w',(Builtin.append_ tys ty #[.slice (some A) len.den C,x]).run P w=.ok v w'->res=.ok (.value v) w') :
  (qot H base elem i.size i.bytes a nm k len n sx).Sat (qea P H β w base res):=by
 refine jha hr hx hn fun Y xs hxl hY hfc => ?_
 have S:zeW P w tys st elem i z x xs n.den:=⟨ht,hd,hi0,hz,hzl,hm,hn,hfc,hxl⟩;refine R.Sat.zab (fun hnm=>R.Sat.zab (fun hk=>SN.zaT (fun o ho=>R.Sat.zab (fun ho0=>qkb fun e he => ?_) fun _=>trivial) fun _=>trivial) fun _=>trivial) fun _=>trivial;obtain rfl:=Nat.eq_of_beq_eq_true hnm;obtain rfl:=Nat.eq_of_beq_eq_true hk;obtain rfl:=Nat.eq_of_beq_eq_true ho0;cases e with
 | row=>trivial
 | loop=>trivial
 | deferred=>trivial
 | gone=>trivial
 | mem=>trivial
 | obj=>trivial
 | own cl wh el =>
   refine R.Sat.zab (fun hel => ?_) fun _=>trivial;obtain rfl:=Nat.eq_of_beq_eq_true hel;obtain ⟨ll,vs,rest,lo,hi,hbl,h0',hc,hh,hfz,hw,hcap⟩:=hr.entries _ _ he;obtain ⟨l',hl',hAe⟩:=SA.zaB hA;rw [hbl] at hl'; cases hl';have zd0:A=⟨ll.blk,0,none⟩:=by rw [hAe,h0',ho]; rfl
   have hCe:C=ll.cap:=by
    simp only [SC.den,hbl,Option.map_some,Option.some.injEq] at hC; omega
   refine qdu hc fun X hle hX => ?_
   rw [Nat.zero_add] at hle;rintro ⟨⟨hb1,hb2⟩,hone⟩;have hol:(vs.take (len.den * i.size)).length=len.den * i.size:=by rw [List.length_take]; omega
   have hone':∀ y∈xs,y.oneCell'=true:=by
    intro y hy;obtain ⟨j,hj⟩:=List.getElem?_of_mem hy;have hlt:=(List.getElem?_eq_some_iff.1 hj).1;rw [hxl] at hlt;obtain ⟨y',h1,h2⟩:=hY j hlt;rw [hj] at h1; cases h1;exact jia (hone j hlt) h2
   have hos:∀ j,j<len.den * i.size->∃ y,(vs.take (len.den * i.size))[j]? = some y/\(X j).den β=some y:=by
    intro j hj;rw [List.getElem?_take,if_pos hj];have:=hX j hj;rw [Nat.zero_add] at this; exact this
   have hcells:∀ (j:Nat) (y:Value),(vs.take (len.den * i.size))[j]? = some y->w.cell? (A.add j)=some y:=by
    intro j y hy;rw [zd0,q9a,cell?_of hh,Nat.zero_add];rw [List.getElem?_take] at hy;split at hy
    . have:=(List.getElem?_eq_some_iff.1 hy).1;simp [List.getElem?_append_left this,hy]
    . cases hy
   have hN:(len.den+n.den) * i.size=len.den * i.size+n.den * i.size:=Nat.add_mul _ _ _;have zcP:zaj β (.fn (zfA X (len.den * i.size) Y) ((len.den+n.den) * i.size)) (vs.take (len.den * i.size)++xs):=jja hol S.hxl hos hY hN;have zeN:(vs.take (len.den * i.size)++xs).length=(len.den+n.den) * i.size:=by rw [List.length_append,hol,S.hxl,hN]
   rcases Nat.lt_or_ge C (len.den+n.den) with hgt | hfit
   . obtain ⟨cap,zdW,hrun⟩:=qfb (ty:=ty) (bs:=some A) (sLen:=len.den) (sCap:=C) (os:=vs.take (len.den * i.size)) (xs:=xs) S.ht S.hd S.hi S.hz S.hm S.hn S.hx
      (fun w' hw'=>qla w' hw' (.inr (.inl ⟨A,len.den,C,rfl,hol,hcells⟩))) hgt hb1 hb2
     exact qkh (c:=.fn _ _) he rfl S.hi S.hzl zcP zeN zdW (SN.zaZ _ _) (hres _ _ (by rw [hrun]; congr 3; simp))
   . have hroom:len.den * i.size+xs.length<=(vs++rest).length:=by
      have h1:=hcap i S.hi;rw [S.hxl,← hN];refine Nat.le_trans (Nat.mul_le_mul_right _ hfit) ?_
      rw [hCe]; exact h1
     have hrun:=q5b (P:=P) xs (vs++rest) (0+len.den * i.size) 0 w hh hone' hfz.at (by omega)
     rw [Nat.add_zero,Nat.zero_add] at hrun;have zaX:=qab (ty:=ty) (bs:=some A) (sLen:=len.den) (sCap:=C) S.ht S.hd S.hi S.hm S.hn (S.hx w rfl) hfit (by rw [zd0]; simp only [q9a,Nat.zero_add]; exact hrun)
     have hover:qib (vs++rest) (len.den * i.size) xs=(vs.take (len.den * i.size)++xs)++(vs++rest).drop (len.den * i.size+xs.length):=by
      unfold qib; rw [List.take_append_of_le_length hle]
     have hlt:ll.blk<w.heap.size:=(Array.getElem?_eq_some_iff.1 hh).1;have hlen':((vs.take (len.den * i.size)++xs)++(vs++rest).drop (len.den * i.size+xs.length)).length=(vs++rest).length:=by
      rw [← hover,q4a hroom]
     refine fun hb=>⟨.value _,_,_,β.upd base ll,hres _ _ zaX,rfl,?_,?_,?_⟩
     . rw [zaf];refine ⟨⟨ll.blk,0,none⟩,C,by simp [SA.den,Val.upd_same,h0',SN.den],by simp [SC.den,Val.upd_same,hCe],by rw [SN.zaZ]; exact hfit,by rw [zd0,SN.zaZ]⟩
     . refine ⟨Val.zbh hb.hd,rfl,rfl,rfl,Nat.le_refl _,by simp,?_,?_,?_,?_,?_,?_⟩
       . intro m hm;unfold Val.upd;rw [if_neg]; simp at hm; omega
       . intro b _ hn;have:=hn a.nm .gone ll (by simp) hbl
         simp [this]
       . intro m e1 e2 h1 h2; simp at h1 h2; rw [h1.2,h2.2]
       . intro m e h1; simp at h1; rw [h1.2]; trivial
       . intro j e hj;cases j with
         | succ j=>simp at hj
         | zero =>
           simp at hj; subst hj;refine ⟨rfl,⟨ll,_,(vs++rest).drop (len.den * i.size+xs.length),lo,hi,Val.upd_same _ _ _,h0',zcP.mono (Val.zbh hb.hd),?_,?_,by simp,?_⟩,ll,Val.upd_same _ _ _,.inr ⟨a.nm,ll,by simp,hbl,rfl⟩⟩
           . rw [← hover]; simp [hlt]
           . rw [hlen']; exact hfz
           . intro j hj; rw [hlen']; exact hcap j hj
       . intro j k l l' hjk hj hk; simp at hj hk; omega
     . intro m e hm;simp at hm;obtain ⟨rfl,rfl⟩:=hm;exact ⟨_,he,rfl,.not⟩
theorem qtn (hr:HeapRel0 P O w0 β H w) {tys:Array TypeId} {st elem ty:TypeId} {i:TypeInfo} {z x:Value} {xs:List Value} {n len l:SN} {sc:SC} {Y:Nat->Value} (S:zcV P w tys st elem i z x xs n.den Y) {a:SA} {A:Addr} {c:Nat} (hA:a.den β=some A) (hC:sc.den β=some c) (hl:len.den=l.den) (hlc:l.den<=c) {res:Result Next}
  (hres:∀ v w',(Builtin.append_ tys ty #[.slice (some A) len.den c,x]).run P w=.ok v w'->res=.ok (.value v) w') :
  (q1p H base elem i.size i.bytes a l sc c len n Y).Sat (qea P H β w base res):=by
 refine ⟨fun hle=>qkb fun e he => ?_,fun hgt => ?_⟩
 . have hle':len.den+n.den<=c:=of_decide_eq_true hle;cases e with
   | row=>trivial
   | loop=>trivial
   | deferred=>trivial
   | gone=>trivial
   | mem=>trivial
   | obj=>trivial
   | own cl wh el =>
     obtain ⟨ll,vs,rest,lo,hi,hbl,h0',hc,hh,hfz,hw,hcap⟩:=hr.entries _ _ he;obtain ⟨l',hl',rfl⟩:=SA.zaB hA;rw [hbl] at hl'; cases hl';refine qlx hc S.hxl S.hY fun c' hc' hle2 => ?_
     intro hone;have hoff:a.off.den+len.den * i.size+xs.length<=vs.length:=hle2;have hrun:=q5b (P:=P) xs (vs++rest) (ll.off+a.off.den+len.den * i.size) 0 w hh (S.one hone) hfz.at (by rw [h0']; simp; omega)
     rw [Nat.add_zero,h0',Nat.zero_add,qye hoff] at hrun;have zaX:=qab (ty:=ty) (bs:=some ⟨ll.blk,ll.off+a.off.den,none⟩) (sLen:=len.den) (sCap:=c) S.ht S.hd S.hi S.hm S.hn (S.hx w rfl) hle' (by simp only [q9a]; rw [h0',Nat.zero_add]; exact hrun)
     refine fun hb=>⟨.value _,_,_,β,hres _ _ zaX,rfl,?_,Eff.turn hbl ?_,?_⟩
     . rw [zaf];exact ⟨_,c,hA,hC,by rw [SN.zaZ]; exact hle',by rw [SN.zaZ]⟩
     . have hlt:ll.blk<w.heap.size:=(Array.getElem?_eq_some_iff.1 hh).1;refine ⟨ll,_,rest,lo,hi,hbl,h0',hc',by simp [hlt],?_,hw,?_⟩
       . simp only [List.length_append,q4a hle2] at hfz ⊢; exact hfz
       . intro j hj;have:=hcap j hj;simp only [List.length_append,q4a hle2] at this ⊢; exact this
     . intro m e hm;simp at hm;obtain ⟨rfl,rfl⟩:=hm;exact ⟨_,he,rfl,.not⟩
 . have zg6:c<len.den+n.den:=by have:=of_decide_eq_false hgt; omega
   have hs:(SV.slice a l sc).den β=some (.slice (some A) len.den c):=by
    rw [zaf]; exact ⟨A,c,hA,hC,hlc,by rw [hl]⟩
   refine q5l hr hs (n:=len.den) rfl fun X os h1 h2 h3 => ?_
   rintro ⟨hb1,hb2⟩;obtain ⟨cap,hcap,hrun⟩:=qfb (ty:=ty) (bs:=some A) (sLen:=len.den) (sCap:=c) (os:=os) (xs:=xs) S.ht S.hd S.hi S.hz S.hm S.hn S.hx h3 zg6 hb1 hb2;have hN:(len.den+n.den) * i.size=len.den * i.size+n.den * i.size:=Nat.add_mul _ _ _;refine qnf (c:=.raw (zc5 X (len.den * i.size) Y) ((len.den+n.den) * i.size)) (vs:=os++xs) (len:=len.den+n.den) S.hi S.hzl (q6l h1 S.hxl h2 S.hY hN) (by rw [List.length_append,h1,S.hxl,hN]) hcap (SN.zaZ _ _) (hres _ _ ?_)
   rw [hrun]; congr 3; simp
theorem qu4 (hr:HeapRel0 P O w0 β H w) {tys:Array TypeId} {st elem ty:TypeId} {i:TypeInfo} {z x:Value} {xs:List Value} {n len l:SN} {Y:Nat->Value} (S:zcV P w tys st elem i z x xs n.den Y) {a:SA} {A:Addr} (hA:a.den β=some A) (hl:len.den=l.den) (hlc:l.den<=0) {res:Result Next}
  (hres:∀ v w',(Builtin.append_ tys ty #[.slice (some A) len.den 0,x]).run P w=.ok v w'->res=.ok (.value v) w') :
  (qh6 H base elem i.size i.bytes a l len n Y).Sat (qea P H β w base res):=by
 refine ⟨fun hle => ?_,fun hgt => ?_⟩
 . have hle':len.den+n.den<=0:=of_decide_eq_true hle;have hn0:n.den=0:=by omega
   have hl0:len.den=0:=by omega
   have hxs:xs=[]:=List.eq_nil_of_length_eq_zero (by rw [S.hxl,hn0]; simp)
   have zaX:=qab (ty:=ty) (bs:=some A) (sLen:=len.den) (sCap:=0) (w':=w) S.ht S.hd S.hi S.hm S.hn (S.hx w rfl) hle' (by rw [hxs]; rfl)
   refine qga (hres _ _ zaX) ?_
   rw [zaf];exact ⟨A,0,hA,rfl,Nat.le_refl _,by rw [hn0,hl0]; rfl⟩
 . have zg6:0<len.den+n.den:=by have:=of_decide_eq_false hgt; omega
   have hs:(SV.slice a l (.lit 0)).den β=some (.slice (some A) len.den 0):=by
    rw [zaf]; exact ⟨A,0,hA,rfl,hlc,by rw [hl]⟩
   refine q5l hr hs (n:=len.den) rfl fun X os h1 h2 h3 => ?_
   rintro ⟨hb1,hb2⟩;obtain ⟨cap,hcap,hrun⟩:=qfb (ty:=ty) (bs:=some A) (sLen:=len.den) (sCap:=0) (os:=os) (xs:=xs) S.ht S.hd S.hi S.hz S.hm S.hn S.hx h3 zg6 hb1 hb2;have hN:(len.den+n.den) * i.size=len.den * i.size+n.den * i.size:=Nat.add_mul _ _ _;refine qnf (c:=.raw (zc5 X (len.den * i.size) Y) ((len.den+n.den) * i.size)) (vs:=os++xs) (len:=len.den+n.den) S.hi S.hzl (q6l h1 S.hxl h2 S.hY hN) (by rw [List.length_append,h1,S.hxl,hN]) hcap (SN.zaZ _ _) (hres _ _ ?_)
   rw [hrun]; congr 3; simp
theorem qv4 {H:List SO} {p:Nat × Mem} (h:qb3 H=some p):H[p.1]? = some (.mem p.2):=by
 have key:∀ (H:List SO) (i:Nat),(List.rec (motive:=fun _=>Nat->Option (Nat × Mem)) (fun _=>none) (fun e _ ih i=>q1m e i (ih (Nat.succ i))) H i:Option (Nat × Mem))=some p->∃ k,p.1=i+k/\H[k]? = some (.mem p.2):=by
  intro H;induction H with
  | nil=>intro i h; cases h
  | cons e H ih =>
    intro i h;have h:q1m e i (List.rec (motive:=fun _=>Nat->Option (Nat × Mem)) (fun _=>none) (fun e _ ih i=>q1m e i (ih (Nat.succ i))) H (i+1):Option (Nat × Mem))=some p:=h;have next:(List.rec (motive:=fun _=>Nat->Option (Nat × Mem)) (fun _=>none) (fun e _ ih i=>q1m e i (ih (Nat.succ i))) H (i+1):Option (Nat × Mem))=some p->∃ k,p.1=i+k/\(e::H)[k]? = some (.mem p.2):=fun h=>by
     obtain ⟨k,h1,h2⟩:=ih (i+1) h;exact ⟨k+1,by omega,by simpa using h2⟩
    cases e with
    | mem m=>cases h; exact ⟨0,rfl,rfl⟩
    | own=>exact next h
    | row=>exact next h
    | loop=>exact next h
    | deferred=>exact next h
    | gone=>exact next h
    | obj=>exact next h
 obtain ⟨k,h1,h2⟩:=key H 0 h;rw [Nat.zero_add] at h1;rw [h1]; exact h2
theorem j3e (hr:HeapRel0 P O w0 β H w) {j:Nat} {m:Mem} (hj:H[j]? = some (.mem m)) {b k cap:Nat} {el:TypeId} (hb:m.own b=some (k,cap,el)) {vs:List Value} {lo hi:Nat} (hh:w.heap[b]? = some (.cells vs.toArray el (lo,hi))) {o n:Nat} {xs:List Value} {Y:Nat->Value} (hx:xs.length=n) (hY:∀ i,i<n->xs[i]? = some (Y i)) (hroom:o+n<=vs.length) :
  Eff P β w base [(j,.mem (m.put b o n Y))] [] β { w with heap:=w.heap.setIfInBounds b (.cells (qib vs o xs).toArray el (lo,hi)) }:=by
 have hlt:b<w.heap.size:=(Array.getElem?_eq_some_iff.1 hh).1;have hm:=hr.zcG j m hj;subst hx;have hlen:=q4a hroom;have hself:(w.heap.setIfInBounds b (.cells (qib vs o xs).toArray el (lo,hi)))[b]? = some (.cells (qib vs o xs).toArray el (lo,hi)):=by simp [hlt]
 have hother:∀ b',b'≠b->(w.heap.setIfInBounds b (.cells (qib vs o xs).toArray el (lo,hi)))[b']? = w.heap[b']? := fun b' hne=>by simp [Ne.symm hne]
 have hcell:∀ a x,(m.put b o xs.length Y).cell a=some x->World.cell? { w with heap:=w.heap.setIfInBounds b (.cells (qib vs o xs).toArray el (lo,hi)) } a=some x:=fun a x ha=>by
  have ha:(if a.block=b/\a.spot=none/\o<=a.off/\a.off<o+xs.length then some (Y (a.off - o)) else m.cell a)=some x:=ha
  by_cases hc:a.block=b/\a.spot=none/\o<=a.off/\a.off<o+xs.length
  . rw [if_pos hc] at ha;obtain ⟨h1,h2,h3,h4⟩:=hc;have e:a=⟨b,a.off,none⟩:=by cases a; cases h1; cases h2; rfl
    rw [e,cell?_of hself];rw [List.getElem?_toArray,q8d hroom,if_pos ⟨h3,h4⟩,hY _ (by omega)]
    exact ha
  . rw [if_neg hc] at ha;obtain ⟨h1,_⟩:=hm.told a x ha;by_cases hab:a.block=b
    . unfold World.cell? at h1 ⊢;rw [hab] at h1 ⊢;simp only [hh,hself] at h1 ⊢;split at h1
      . cases h1
      . rename_i hsp;rw [if_neg hsp];rw [List.getElem?_toArray] at h1 ⊢;rw [q8d hroom,if_neg]
        . exact h1
        . rintro ⟨h3,h4⟩;exact hc ⟨hab,by cases hs:a.spot with
           | none=>rfl
           | some _=>rw [hs] at hsp; simp at hsp,h3,h4⟩
    . rw [qgr (hother _ hab)];exact h1
 refine ⟨Val.le_refl β,rfl,rfl,rfl,Nat.le_refl _,by simp,fun _ _=>rfl,fun b' _ _ hs => ?_,fun i e e' h1 h2 => ?_,fun i e hi' => ?_,by simp,by simp⟩
 . refine hother b' fun e => ?_
   have:=hs j (m.put b o xs.length Y) (by simp)
   have:m.own b'=none:=this;rw [e,hb] at this; cases this
 . simp at h1 h2; rw [h1.2,h2.2]
 . simp at hi';obtain ⟨rfl,rfl⟩:=hi';refine ⟨hr.entries i _ hj,hcell,fun b' k' cap' el' hb' => ?_⟩;replace hb':m.own b'=some (k',cap',el'):=hb';obtain ⟨_,_,vs',rest',lo',hi',h5,h6,h7,h8,h9⟩:=hm.own b' k' cap' el' hb';by_cases hbb:b'=b
   . subst hbb;rw [hb] at hb'; cases hb';rw [hh] at h5;simp only [Option.some.injEq,Obj.cells.injEq] at h5;obtain ⟨h5,h51,h52⟩:=h5;have h5:vs=vs'++rest':=by have:=congrArg Array.toList h5; simpa using this
     cases h52;refine ⟨(qib vs o xs).take k,(qib vs o xs).drop k,lo,hi,?_,?_,?_,fun i hi0 => ?_,fun i x hx => ?_⟩
     . rw [List.take_append_drop]; exact hself
     . rw [List.length_take,hlen,h5,List.length_append]; omega
     . rw [List.take_append_drop,hlen,h5]; exact h7
     . rw [List.take_append_drop,hlen,h5]; exact h8 i hi0
     . rw [List.getElem?_take] at hx;split at hx
       . rename_i hik;rw [q8d hroom] at hx;show (if (b':Nat)=b'/\(none:Option _)=none/\o<=i/\i<o+xs.length then some (Y (i - o)) else m.cell _)=some x
         by_cases hc:o<=i/\i<o+xs.length
         . rw [if_pos hc,hY _ (by omega)] at hx
           rw [if_pos ⟨rfl,rfl,hc⟩]; exact hx
         . rw [if_neg hc,h5,List.getElem?_append_left (by omega)] at hx
           rw [if_neg (fun h=>hc h.2.2)];exact h9 i x hx
       . cases hx
   . refine ⟨vs',rest',lo',hi',(hother b' hbb).trans h5,h6,h7,h8,fun i x hx => ?_⟩;show (if b'=b/\_ then _ else m.cell _)=some x
     rw [if_neg (fun h=>hbb h.1)];exact h9 i x hx
theorem qq7 {H:List SO} {j:Nat} {m:Mem} (hj:H[j]? = some (.mem m)) {b o n:Nat} {Y:Nat->Value} {p:Nat × Nat × TypeId} (hb:m.own b=some p):∀ i e,(i,e)∈[(j,SO.mem (m.put b o n Y))]->qhh H i e:=by
 intro i e h;simp at h;obtain ⟨rfl,rfl⟩:=h;refine ⟨_,hj,rfl,fun m' hm'=>⟨m,rfl,?_⟩⟩;cases hm';refine ⟨rfl,rfl,fun a x ha => ?_⟩;have ha:(if a.block=b/\a.spot=none/\o<=a.off/\a.off<o+n then some (Y (a.off - o)) else m.cell a)=some x:=ha
 split at ha
 . rename_i hc;exact .inr ⟨p,by rw [hc.1]; exact hb⟩
 . exact .inl ⟨x,ha⟩
theorem qo0 (hr:HeapRel0 P O w0 β H w) {tys:Array TypeId} {st elem ty:TypeId} {i:TypeInfo} {z x:Value} {xs:List Value} {n:SN} {Y:Nat->Value} (S:zcV P w tys st elem i z x xs n.den Y) {y:Value} (hfit:zaL y+n.den<=zbY y) {res:Result Next}
  (hres:∀ v w',(Builtin.append_ tys ty #[.slice (some (zaV y)) (zaL y) (zbY y),x]).run P w=.ok v w'->res=.ok (.value v) w') :
  (qts H elem i.size y n Y).Sat (qea P H β w base res):=by
 unfold qts;cases hp:qb3 H with
 | none=>trivial
 | some p =>
   rintro ⟨⟨k,cap,hown,hcap⟩,hadr,hone⟩;have hj:=qv4 hp;obtain ⟨_,_,vs,rest,lo,hi,hh,hk,hfz,hcp,_⟩:=(hr.zcG _ _ hj).own _ _ _ _ hown;have hroom:zaL y * i.size+n.den * i.size<=(vs++rest).length:=by
    rw [← Nat.add_mul];refine Nat.le_trans (Nat.mul_le_mul_right _ (Nat.le_trans hfit hcap)) (hcp i S.hi)
   have hrun:=q5b (P:=P) xs (vs++rest) (zaL y * i.size) 0 w hh (S.one hone) hfz.at (by rw [S.hxl]; omega)
   rw [Nat.add_zero] at hrun;have zaX:=qab (ty:=ty) (bs:=some (zaV y)) (sLen:=zaL y) (sCap:=zbY y) S.ht S.hd S.hi S.hm S.hn (S.hx w rfl) hfit (by rw [hadr]; simp only [q9a,Nat.zero_add]; exact hrun)
   refine fun hb=>⟨.value _,_,_,β,hres _ _ zaX,rfl,rfl,j3e hr hj hown hh S.hxl S.hY hroom,qq7 hj hown⟩
theorem qr7 {P:Program} {w:World} {a:Option Addr} {l c n:Nat} (h:(Builtin.lenOf (.slice a l c)).run P w=.ok n w):l=n:=by
 simp only [Builtin.lenOf,Sem.run_pure,Result.ok.injEq,and_true] at h;exact h
theorem q6f (hr:HeapRel0 P O w0 β H w) {tys:Array TypeId} {st elem ty:TypeId} {i:TypeInfo} {z xv sv:Value} {n len:SN} {s x:SV} (hs:s.den β=some sv) (hx:x.den β=some xv) (ht:tys[0]? = some st) (hd:P.underlying st=some (.slice elem)) (hi:P.info? elem=some i) (hz:i.zero=some z) (hzl:z.cells.size=i.size) (hm:qve P tys=true) (hn:(Builtin.lenOf xv).run P w=.ok n.den w)
  (hlen:∀ (P:Program) (w':World),(Builtin.lenOf sv).run P w'=.ok len.den w') {res:Result Next}
  (hres:∀ v w',(Builtin.append_ tys ty #[sv,xv]).run P w=.ok v w'->res=.ok (.value v) w') :
  (qil H base elem i.size i.bytes len n s x).Sat (qea P H β w base res):=by
 refine q5l hr hx hn fun Y xs h1 h2 h3 => ?_
 have S:zcV P w tys st elem i z xv xs n.den Y:=⟨⟨ht,hd,hi,hz,hzl,hm,hn,h3,h1⟩,h2⟩;split
 . simp only [SV.den,Option.some.injEq] at hs; subst hs;refine ⟨fun h0 => ?_,fun h0 => ?_⟩
   . have hn0:n.den=0:=of_decide_eq_true h0;have hxs:xs=[]:=List.eq_nil_of_length_eq_zero (by rw [h1,hn0]; simp)
     subst hxs;exact qga (hres _ _ (qab (ty:=ty) (bs:=none) (sLen:=0) (sCap:=0) (w':=w) (xs:=[]) ht hd hi hm hn (h3 w rfl) (by omega) rfl)) (by rw [hn0]; rfl)
   . have hpos:¬ n.den=0:=of_decide_eq_false h0;rintro ⟨hr1,hr2⟩;obtain ⟨cap,hcap,hrun⟩:=qfb (ty:=ty) (bs:=none) (sLen:=0) (sCap:=0) (os:=[]) (xs:=xs) ht hd hi hz hm hn h3 (fun w' _=>rfl) (by omega) (by simpa using hr1) (by simpa using hr2)
     refine qnf (c:=.raw Y (n.den * i.size)) (vs:=xs) (len:=n.den) hi hzl ⟨h1,fun j y hj => ?_⟩ h1 (by simpa using hcap) rfl (hres _ _ ?_)
     . have hlt:=(List.getElem?_eq_some_iff.1 hj).1;rw [h2 j (by omega)] at hj
       exact (Option.some.inj hj).symm
     . rw [hrun]; simp
 . rename_i a l nm k;rw [zaf] at hs;obtain ⟨A,C,hA,hC,hLC,rfl⟩:=hs;have hl0:len.den=l.den:=q6b hlen P w;rw [← hl0] at hres;exact qiv (ty:=ty) hr S hA hC hres
 . rename_i a l c;rw [zaf] at hs;obtain ⟨A,C,hA,hC,hLC,rfl⟩:=hs;have hl0:len.den=l.den:=q6b hlen P w;have hC':C=c:=(Option.some.inj hC).symm;subst hC';rw [← hl0] at hres;refine R.Sat.zab (fun hb => ?_) fun _=>qtn (ty:=ty) hr S hA rfl hl0 hLC hres;have hb:=Nat.eq_of_beq_eq_true hb;subst hb;exact qu4 (ty:=ty) hr S hA hl0 hLC hres
 . rename_i a l c;rw [zaf] at hs;obtain ⟨A,C,hA,hC,hLC,rfl⟩:=hs;have hl0:len.den=l.den:=q6b hlen P w;have hC':C=c:=(Option.some.inj hC).symm;subst hC';rw [← hl0] at hres;exact qtn (ty:=ty) hr S hA rfl hl0 hLC hres
 . rename_i y;obtain rfl:y=sv:=Option.some.inj hs;intro hsl;have hsl:y=.slice (some (zaV y)) (zaL y) (zbY y):=hsl;have hl0:len.den=zaL y:=by
    have:=hlen P w;rw [hsl] at this;exact (qr7 this).symm
   refine ⟨fun hfit => ?_,fun hgt => ?_⟩
   . have hfit:=of_decide_eq_true hfit;rw [hl0] at hfit;rw [hsl] at hres;exact qo0 (ty:=ty) hr S hfit hres
   have hgt:zbY y<len.den+n.den:=by have:=of_decide_eq_false hgt; omega
   refine q5l hr (v:=.val y) hs (n:=len.den) (hlen P w) fun X os k1 k2 k3 => ?_
   rintro ⟨hb1,hb2⟩;rw [hsl,← hl0] at hres;obtain ⟨cap,hcap,hrun⟩:=qfb (ty:=ty) (bs:=some (zaV y)) (sLen:=len.den) (sCap:=zbY y) (os:=os) (xs:=xs) S.ht S.hd S.hi S.hz S.hm S.hn S.hx (fun w' hw'=>by have:=k3 w' hw'; rw [hsl,← hl0] at this; exact this) hgt hb1 hb2
   have hN:(len.den+n.den) * i.size=len.den * i.size+n.den * i.size:=Nat.add_mul _ _ _;refine qnf (c:=.raw (zc5 X (len.den * i.size) Y) ((len.den+n.den) * i.size)) (vs:=os++xs) (len:=len.den+n.den) S.hi S.hzl (q6l k1 S.hxl k2 S.hY hN) (by rw [List.length_append,k1,S.hxl,hN]) hcap (SN.zaZ _ _) (hres _ _ ?_)
   rw [hrun]; congr 3; simp
 . trivial
theorem qtp (hr:HeapRel0 P O w0 β H w) {tys:Array TypeId} {ty:TypeId} {s x:SV} {sv xv:Value} (hs:s.den β=some sv) (hx:x.den β=some xv) {res:Result Next}
  (hres:∀ v w',(Builtin.append_ tys ty #[sv,xv]).run P w=.ok v w'->res=.ok (.value v) w') :
  (qni P H base tys s x).Sat (qea P H β w base res):=by
 refine R.Sat.opt fun st ht=>R.Sat.opt fun d hd=>q9p (fun elem hde => ?_) trivial;subst hde;refine R.Sat.opt fun i hi=>R.Sat.zab (fun hm=>R.Sat.opt fun z hz=>R.Sat.zab (fun hzl=>q2g hx fun n hn=>q2g hs fun len hlen => ?_) fun _=>trivial) fun _=>trivial;obtain ⟨i',zv,hi',hzv,hden⟩:=q9d hz;rw [hi] at hi'; cases hi';have zdj:zv.cells.size=i.size:=by
  have h1:=qra (hden β);have h2:=Nat.eq_of_beq_eq_true hzl;rw [qha] at h2; simp at h1; omega
 split
 . rename_i len n;refine R.Sat.zab (fun hb1=>R.Sat.zab (fun hb2 => ?_) fun _=>trivial) fun _=>trivial;have hb1:=qnn hb1;have hb2:=qnn hb2;refine qqn hr hx hn (Nat.le_refl n) fun new xs hnew hfc hxl => ?_
   have S:zeW P w tys st elem i zv xv xs n:=⟨ht,hd,hi,hzv,zdj,hm,hn P w,hfc,hxl⟩;unfold qg1;split
   . simp only [SV.den,Option.some.injEq] at hs; subst hs;have hl0:len=0:=q6b hlen P w;subst hl0;refine R.Sat.zab (fun h0 => ?_) fun h0 => ?_
     . have hn0:n=0:=Nat.eq_of_beq_eq_true h0;subst hn0;have hxs:xs=[]:=List.eq_nil_of_length_eq_zero (by rw [hxl]; simp)
       subst hxs;exact qga (hres _ _ (qab (ty:=ty) (bs:=none) (sLen:=0) (sCap:=0) (w':=w) ht hd hi hm (hn P w) (hfc w rfl) (by simp [SN.den]) rfl)) rfl
     . have hn0:0<n:=by
        rcases Nat.eq_zero_or_pos n with h | h
        . subst h; cases h0
        . exact h
       obtain ⟨cap,hcap,hrun⟩:=qfb (ty:=ty) (bs:=none) (sLen:=0) (sCap:=0) (os:=[]) ht hd hi hzv hm (hn P w) hfc (fun w' _=>rfl) (by simp [SN.den]; exact hn0) (by simpa [SN.den] using hb1) (by simpa [SN.den] using hb2)
       refine qnf (c:=.lst new) (vs:=xs) (len:=n) hi zdj hnew hxl (by simpa [SN.den] using hcap) rfl (hres _ _ ?_)
       rw [hrun]; simp [SN.den]
   . rename_i a ln c;rw [zaf] at hs;obtain ⟨A,C,hA,hC,hLC,rfl⟩:=hs;have hl0:len=ln.den:=q6b hlen P w;simp only [SC.den,Option.some.injEq] at hC;subst hC;refine qi7 (ty:=ty) hr S hnew hA (by omega) hb1 hb2 (fun v w' h=>hres v w' ?_)
     rw [← hl0]; exact h
   . rename_i a ln nm k;rw [zaf] at hs;obtain ⟨A,C,hA,hC,hLC,rfl⟩:=hs;have hl0:len=ln.den:=q6b hlen P w;refine qm4 (ty:=ty) hr S hnew hA hC (by omega) hb1 hb2 (fun v w' h=>hres v w' ?_)
     rw [← hl0]; exact h
   . trivial
 . unfold j5c;split
   . exact R.Sat.zab (fun _=>qsn (ty:=ty) hr hx ht hd hi hzv zdj hm (hn P w) hs hlen hres) fun _=>q6f (ty:=ty) hr hs hx ht hd hi hzv zdj hm (hn P w) hlen hres
   . exact R.Sat.zab (fun _=>R.Sat.zab (fun _=>q6f (ty:=ty) hr hs hx ht hd hi hzv zdj hm (hn P w) hlen hres) fun _=>qsn (ty:=ty) hr hx ht hd hi hzv zdj hm (hn P w) hs hlen hres) fun _=>q6f (ty:=ty) hr hs hx ht hd hi hzv zdj hm (hn P w) hlen hres
   . refine R.Sat.zab (fun _=>qsn (ty:=ty) hr hx ht hd hi hzv zdj hm (hn P w) hs hlen hres) fun _=>R.Sat.zab (fun _ => ?_) fun _=>q6f (ty:=ty) hr hs hx ht hd hi hzv zdj hm (hn P w) hlen hres;have hs0:=hs;rw [zaf] at hs0;obtain ⟨A,C,hA,hC,hLC,rfl⟩:=hs0;refine qjv (ty:=ty) hr ht hd hi hzv zdj hm (hn P w) hx hA hC (fun v w' h=>hres v w' ?_);rw [q6b hlen P w] at h;exact h
   . exact q6f (ty:=ty) hr hs hx ht hd hi hzv zdj hm (hn P w) hlen hres
   rename_i hno1 hno2 hno3 hno4;clear hno1 hno2 hno3 hno4;refine R.Sat.zab (fun _=>q6f (ty:=ty) hr hs hx ht hd hi hzv zdj hm (hn P w) hlen hres) fun _ => ?_
   refine jba hr hx fun g hg => ?_
   obtain ⟨xs,hxl,hgd,hfc⟩:=hg n.den (fun w'=>hn P w');unfold apFn;split
   . simp only [SV.den,Option.some.injEq] at hs; subst hs;have hl0:=q6b hlen P w;refine ⟨fun h0=>fun hs1 => ?_,fun h0 => ?_⟩
     . have hn0:n.den=0:=of_decide_eq_true h0;have hxs:xs=[]:=List.eq_nil_of_length_eq_zero (by rw [hxl,hn0])
       subst hxs;exact qga (hres _ _ (qab (ty:=ty) (bs:=none) (sLen:=0) (sCap:=0) (w':=w) (xs:=[]) ht hd hi hm (hn P w) (by rw [hs1]; exact hfc w rfl) (by omega) rfl)) (by rw [hn0]; rfl)
     have hpos:¬ n.den=0:=of_decide_eq_false h0;rintro ⟨⟨hr1,hr2⟩,hs1⟩;obtain ⟨cap,hcap,hrun⟩:=qfb (ty:=ty) (bs:=none) (sLen:=0) (sCap:=0) (os:=[]) (xs:=xs) ht hd hi hzv hm (hn P w) (by rw [hs1]; exact hfc) (fun w' _=>rfl) (by omega) (by simpa using hr1) (by simpa using hr2)
     refine qnf (c:=.fn g n.den) (vs:=xs) (len:=n.den) hi zdj ⟨hxl,hgd⟩ (by rw [hs1,hxl]; simp) (by simpa using hcap) rfl (hres _ _ ?_)
     rw [hrun]; simp
   . rename_i a ln;rw [zaf] at hs;obtain ⟨A,C,hA,hC,hLC,rfl⟩:=hs;simp only [SC.den,Option.some.injEq] at hC;subst hC;have hl0:=q6b hlen P w;have hln:ln.den=0:=by omega
     rw [hln] at hres;refine ⟨fun h0=>fun hs1 => ?_,fun h0 => ?_⟩
     . have hn0:n.den=0:=of_decide_eq_true h0;have hxs:xs=[]:=List.eq_nil_of_length_eq_zero (by rw [hxl,hn0])
       subst hxs;refine qga (hres _ _ (qab (ty:=ty) (bs:=some A) (sLen:=0) (sCap:=0) (w':=w) (xs:=[]) ht hd hi hm (hn P w) (by rw [hs1]; exact hfc w rfl) (by omega) rfl)) ?_
       rw [zaf];exact ⟨A,0,hA,rfl,Nat.le_refl _,by rw [hn0]; rfl⟩
     have hpos:¬ n.den=0:=of_decide_eq_false h0;rintro ⟨⟨hr1,hr2⟩,hs1⟩;obtain ⟨cap,hcap,hrun⟩:=qfb (ty:=ty) (bs:=some A) (sLen:=0) (sCap:=0) (os:=[]) (xs:=xs) ht hd hi hzv hm (hn P w) (by rw [hs1]; exact hfc)
      (fun w' hw'=>qla (w:=w) w' hw' (.inr (.inl ⟨A,0,0,rfl,by simp,by simp⟩))) (by omega) (by simpa using hr1) (by simpa using hr2)
     refine qnf (c:=.fn g n.den) (vs:=xs) (len:=n.den) hi zdj ⟨hxl,hgd⟩ (by rw [hs1,hxl]; simp) (by simpa using hcap) rfl (hres _ _ ?_)
     rw [hrun]; simp
   . trivial
theorem q4x (n:Nat):(q1d n).size=n:=by simp [q1d,ByteArray.size]
theorem qp0 (n:Nat):((q1d n).extract 0 n).data.map (fun b=>Value.int .u8 (b.toNat:Int))=Array.replicate n (.int .u8 0):=by
 apply Array.ext';simp [q1d,ByteArray.data_extract]
theorem q5x {z:Array Value} (hz:z = #[.int .u8 0]) (n:Nat):Builtin.zeroCells z n=Array.replicate n (.int .u8 0):=by
 subst hz;apply Array.ext
 . simp [Builtin.zeroCells]
 . intro i h1 h2;simp [Builtin.zeroCells,Nat.mod_one]
theorem q6x {tys:Array TypeId} {st tn elem ty:TypeId} {i:TypeInfo} {z:Value} {k kn:IntKind} {bs:Option Addr} {sLen sCap n:Nat} (ht:tys[0]? = some st) (ht1:tys[1]? = some tn) (hd:P.underlying st=some (.slice elem)) (htn:P.underlying tn=some (.int kn))
  (hi:P.info? elem=some i) (hz:i.zero=some z) (hzc:z.cells = #[.int .u8 0]) (h1:i.size=1) (hb:(sLen+n) * i.bytes<140737488355328) (hb2:sLen+n<140737488355328) :
  (Builtin.append_ tys ty #[.slice bs sLen sCap,.int k n]).run P w=(Builtin.append_ #[st] ty #[.slice bs sLen sCap,.string (q1d n)]).run P w:=by
 have hu:=fun w=>qba (P:=P) (w:=w) hd;have hu2:=fun w=>qba (P:=P) (w:=w) htn;have hs:=fun w=>qya (P:=P) (w:=w) hi;have hti:=fun w=>q3d (P:=P) (w:=w) hi;have hzv:=fun w=>qzc (P:=P) (w:=w) hi hz;have hw:IntKind.i64.wrap (n:Int)=n:=by rw [IntKind.wrap_i64]; omega
 have hneg:¬ ((n:Int)<0):=by omega
 have hnb:n * i.bytes<=(sLen+n) * i.bytes:=Nat.mul_le_mul_right _ (by omega)
 have h48i:¬ (281474976710656<(n:Int) * (i.bytes:Int)):=by
  rw [← Int.natCast_mul]; omega
 have hzz:=fun m=>q5x hzc m;have hstr:∀ w':World,(Builtin.firstCells i.size n (.string (q1d n))).run P w'=.ok (Array.replicate n (.int .u8 0)) w':=by
  intro w';simp only [Builtin.firstCells,Sem.run_pure];rw [qp0]
 have hlen:(Builtin.lenOf (.string (q1d n))).run P w=.ok n w:=by
  simp only [Builtin.lenOf,Sem.run_pure,q4x]
 by_cases hle:sLen+n<=sCap
 . simp only [Builtin.append_,ht,ht1];by_cases hn:n=0
   . have hns:n * i.size=0:=by rw [hn,Nat.zero_mul]
     have hrep:Array.replicate n (Value.int .u8 0) = #[]:=by rw [hn]; rfl
     rw [hrep] at hstr;simp [hu,hu2,hs,hti,asInt,asIntOf,hw,hneg,h48i,hle,hlen,hns,hstr]
   . have hns:¬ (n * i.size=0):=by rw [h1]; omega
     simp [hu,hu2,hs,hti,hzv,asInt,asIntOf,hw,hneg,h48i,hle,hlen,hns,hzz,hstr]
 . have hsmall:¬ (281474976710656<Builtin.nextslicecap (sLen+n) sCap * i.bytes):=by
    have h2:=Nat.mul_le_mul_right i.bytes (qnp (Nat.lt_of_not_le hle));rw [Nat.mul_assoc] at h2;omega
   have h63':¬ (9223372036854775807<((sLen:Int)+(n:Int))):=by omega
   simp only [Builtin.append_,ht,ht1];by_cases hn:n=0
   . have hns:n * i.size=0:=by rw [hn,Nat.zero_mul]
     have hrep:Array.replicate n (Value.int .u8 0) = #[]:=by rw [hn]; rfl
     rw [hrep] at hstr;simp [hu,hu2,hs,hti,asInt,asIntOf,hw,hneg,h48i,hle,hlen,hns,hstr,hsmall,h63']
   . have hns:¬ (n * i.size=0):=by rw [h1]; omega
     simp [hu,hu2,hs,hti,hzv,asInt,asIntOf,hw,hneg,h48i,hle,hlen,hns,hzz,hstr,hsmall,h63']
theorem qs7 {z:List SV} (h:zhC z=true):z=[.int .u8 (.lit 0)]:=by
 unfold zhC at h;split at h
 . rfl
 . cases h
theorem qq0 {t:TypeId} (h:qrw P t=true):∃ k,P.underlying t=some (.int k):=by
 unfold qrw at h;cases hd:P.underlying t with
 | none=>rw [hd] at h; cases h
 | some d =>
   rw [hd] at h;cases d <;> first | exact ⟨_,rfl⟩ | cases h
theorem qt7 {α:Type} {x:SI} {d:R α} {f:Int->R α} {φ:α->Prop} (h:∀ n,x=.lit n->(f n).Sat φ) (hd:d.Sat φ):(x.za6 d f).Sat φ:=by
 cases x with
 | lit n=>exact h n rfl
 | _=>exact hd
theorem qr0 (hr:HeapRel0 P O w0 β H w) {tys:Array TypeId} {ty:TypeId} {s x:SV} {sv xv:Value} (hs:s.den β=some sv) (hx:x.den β=some xv) {res:Result Next}
  (hres:∀ v w',(Builtin.append_ tys ty #[sv,xv]).run P w=.ok v w'->res=.ok (.value v) w') :
  (qi1 P H base tys s x).Sat (qea P H β w base res):=by
 refine R.Sat.zab (fun _=>qtp hr hs hx hres) fun _ => ?_
 refine R.Sat.opt fun st ht=>R.Sat.opt fun tn ht1=>R.Sat.zab (fun hint=>R.Sat.opt fun d hd=>q9p (fun elem hde => ?_) trivial) fun _=>trivial;subst hde;refine R.Sat.opt fun i hi=>R.Sat.opt fun z hz=>R.Sat.zab (fun hz1=>R.Sat.zab (fun hsz=>q2g hs fun len hlen => ?_) fun _=>trivial) fun _=>trivial;obtain ⟨kn,htn⟩:=qq0 hint;obtain ⟨i',zv,hi',hzv,hden⟩:=q9d hz;rw [hi] at hi'; cases hi';have h1:i.size=1:=Nat.eq_of_beq_eq_true hsz;have hzc:zv.cells = #[.int .u8 0]:=by
  have:=hden β;rw [qs7 hz1] at this;apply Array.ext';exact (Option.some.inj this).symm
 rcases qle x with ⟨k,n,rfl⟩ | hno
 . show (qh1 P H base st i.bytes s len n).Sat _;have hxv:xv=.int k n.den:=(Option.some.inj hx).symm;subst hxv;have key:∀ (m:Nat) (x':SV),n.den=m->q7e (len.den+m) i.bytes->x'.den β=some (.string (q1d m))->(qni P H base #[st] s x').Sat (qea P H β w base res):=by
    intro m x' hm hro hx';refine qtp (ty:=ty) hr hs hx' fun v w' h=>hres v w' ?_
    rw [hm];have hsl:∃ bs c,sv=.slice bs len.den c:=by
     have:=hlen P w;cases sv <;> simp [Builtin.lenOf] at this
     case slice bs l c=>exact ⟨bs,c,by rw [this]⟩
     case string str =>
      exfalso;simp [Builtin.append_,qba hd] at h
    obtain ⟨bs,c,rfl⟩:=hsl;rw [q6x ht ht1 hd htn hi hzv hzc h1 hro.1 hro.2];exact h
   refine qt7 (fun m hm => ?_) ?_
   . cases m with
     | negSucc m=>trivial
     | ofNat m =>
       have hn:n.den=(m:Nat):=by rw [hm]; rfl
       refine SN.zaT (fun l hl=>R.Sat.zab (fun hb1=>R.Sat.zab (fun hb2=>key m _ hn ?_ rfl) fun _=>trivial) fun _=>trivial) fun _=>fun hro=>key m _ hn hro rfl;rw [hl];exact ⟨qnn hb1,qnn hb2⟩
   . exact fun hp=>key n.den.toNat _ (by omega) hp.2 rfl
 . rw [hno]; trivial
theorem qun (hr:HeapRel0 P O w0 β H w) {tys:Array TypeId} {st elem ty:TypeId} {i:TypeInfo} {d x:SV} {dv xv:Value} (hdv:d.den β=some dv) (hx:x.den β=some xv) (ht:tys[0]? = some st) (hd:P.underlying st=some (.slice elem)) (hi:P.info? elem=some i) (hs1:i.size=1)
  {len n m:SN} (hmL:m.den<=n.den) {g:R zai->R zai} (hg:∀ (r:R zai) (φ:zai->Prop),(min n.den len.den=m.den->r.Sat φ)->(g r).Sat φ) (hn:∀ (P:Program) (w':World),(Builtin.lenOf xv).run P w'=.ok n.den w') (hlen:∀ (P:Program) (w':World),(Builtin.lenOf dv).run P w'=.ok len.den w') {res:Result Next}
  (hres:∀ v w',(Builtin.copy_ tys ty #[dv,xv]).run P w=.ok v w'->res=.ok (.value v) w'):(q1q H d x m g).Sat (qea P H β w base res):=by
 unfold q1q;split
 . rename_i a ln c;rw [zaf] at hdv;obtain ⟨A,C,hA,hC,_,rfl⟩:=hdv;have hl0:len.den=ln.den:=q6b hlen P w;refine qh0 hr hx (hn P w) hmL fun Y xs h1 h2 h3=>hg _ _ fun hm=>qkb fun e he => ?_
   split
   . rename_i cl wh el;obtain ⟨ll,vs,rest,lo,hi',hbl,h0',hc,hh,hfz,hw,hcap⟩:=hr.entries _ _ he;obtain ⟨l',hl',rfl⟩:=SA.zaB hA;rw [hbl] at hl'; cases hl';have hsc:∀ y∈xs,y.oneCell'=true:=by
      intro y hy;obtain ⟨j,hj⟩:=List.getElem?_of_mem hy;have hlt:=(List.getElem?_eq_some_iff.1 hj).1;rw [h2 j (by omega)] at hj
      cases hj; rfl
     refine qkx hc h1 h2 fun c' hc' hle2 => ?_
     have hrun:=q5b (P:=P) xs (vs++rest) (ll.off+a.off.den) 0 w hh hsc hfz.at (by rw [h0']; simp; omega)
     rw [Nat.add_zero,h0',Nat.zero_add,qye hle2] at hrun;have hu:=qba (w:=w) hd;have hcopy:∀ W',(storeCells ⟨ll.blk,a.off.den,none⟩ xs).run P w=.ok () W'->(Builtin.copy_ tys ty #[.slice (some ⟨ll.blk,0+a.off.den,none⟩) ln.den C,xv]).run P w=.ok (goInt (m.den:Nat)) W':=by
      intro W' hst;have hmin:min n.den ln.den=m.den:=by omega
      have h4:=h3 w rfl;have h5:=hn P w;unfold Builtin.copy_;simp only [ht,List.getElem?_toArray,List.getElem?_cons_zero,List.getElem?_cons_succ,Sem.run_bind,hu,Result.andThen_ok,h5,qya hi,hs1,hmin,h4];rw [Nat.zero_add];simp [hst]
     rw [h0'] at hres;refine fun hb=>⟨.value _,_,_,β,hres _ _ (hcopy _ hrun),rfl,by show some (Value.int .i64 m.toI.den)=_; rw [q0o]; rfl,Eff.turn hbl ?_,?_⟩
     . have hlt:ll.blk<w.heap.size:=(Array.getElem?_eq_some_iff.1 hh).1;refine ⟨ll,qib vs a.off.den xs,rest,lo,hi',hbl,h0',hc',by simp [hlt],?_,hw,?_⟩
       . simp only [List.length_append,q4a hle2] at hfz ⊢; exact hfz
       . intro j hj;have:=hcap j hj;simp only [List.length_append,q4a hle2] at this ⊢; exact this
     . intro m' e hm';simp at hm';obtain ⟨rfl,rfl⟩:=hm';exact ⟨_,he,rfl,.not⟩
   . trivial
 . trivial
theorem qu7 (hr:HeapRel0 P O w0 β H w) {tys:Array TypeId} {st elem ty:TypeId} {i:TypeInfo} {d x:SV} {dv xv:Value} (hdv:d.den β=some dv) (hx:x.den β=some xv) (ht:tys[0]? = some st) (hd:P.underlying st=some (.slice elem)) (hi:P.info? elem=some i) (hs1:i.size=1)
  {len n:SN} (hn:∀ (P:Program) (w':World),(Builtin.lenOf xv).run P w'=.ok n.den w') (hlen:∀ (P:Program) (w':World),(Builtin.lenOf dv).run P w'=.ok len.den w') {res:Result Next}
  (hres:∀ v w',(Builtin.copy_ tys ty #[dv,xv]).run P w=.ok v w'->res=.ok (.value v) w'):(qh3 H d x len n).Sat (qea P H β w base res):=by
 unfold qh3;refine R.Sat.zab (fun _=>⟨fun hb => ?_,fun hb => ?_⟩) fun _ => ?_
 . exact qun hr hdv hx ht hd hi hs1 (len:=len) (n:=n) (g:=fun r=>r) (Nat.le_refl _) (fun _ _ h=>h (Nat.min_eq_left (of_decide_eq_true hb))) hn hlen hres
 . have hle:len.den<=n.den:=by have:=of_decide_eq_false hb; omega
   exact qun hr hdv hx ht hd hi hs1 (len:=len) (n:=n) (g:=fun r=>r) hle (fun _ _ h=>h (Nat.min_eq_right hle)) hn hlen hres
 . exact qun hr hdv hx ht hd hi hs1 (len:=len) (n:=n) (g:=fun r=>.need (n.den<=len.den) r) (Nat.le_refl _) (fun _ _ h=>fun hle=>h (Nat.min_eq_left hle)) hn hlen hres
theorem qv7 (hr:HeapRel0 P O w0 β H w) {tys:Array TypeId} {ty:TypeId} {d x:SV} {dv xv:Value} (hdv:d.den β=some dv) (hx:x.den β=some xv) {res:Result Next}
  (hres:∀ v w',(Builtin.copy_ tys ty #[dv,xv]).run P w=.ok v w'->res=.ok (.value v) w') :
  (j6c P H tys d x).Sat (qea P H β w base res):=by
 refine R.Sat.opt fun st ht=>R.Sat.opt fun td hd => ?_
 have hu:=qba (w:=w) hd;split
 . rename_i elem;refine R.Sat.opt fun i hi=>q2g hx fun n hn=>q2g hdv fun len hlen => ?_
   split
   . rename_i len n;refine qqn (m:=Nat.min n len) hr hx hn (Nat.min_le_left _ _) fun new xs hnew hfc hxl => ?_
     have hcopy:∀ (bs:Option Addr) (c:Nat) (w':World),dv=.slice bs len c->(match bs with | some a=>storeCells a xs | none=>pure ():Sem Unit).run P w=.ok () w' ->
       (Builtin.copy_ tys ty #[dv,xv]).run P w=.ok (goInt (Nat.min n len:Nat)) w':=by
      intro bs c w' hdv' hst;subst hdv';have h1:=hfc w rfl;have h2:=hn P w;simp only [SN.den] at h2;unfold Builtin.copy_;simp only [ht,List.getElem?_toArray,List.getElem?_cons_zero,List.getElem?_cons_succ,Sem.run_bind,hu,Result.andThen_ok,h2,qya hi,h1];cases bs with
      | none=>simp at hst; subst hst; simp
      | some a=>simp at hst; simp [hst]
     split
     . simp only [SV.den,Option.some.injEq] at hdv; subst hdv;have hl0:=q6b hlen P w;simp only [SN.den] at hl0;subst hl0;exact qga (hres _ _ (hcopy none 0 w rfl rfl)) rfl
     . rename_i a ln c;rw [zaf] at hdv;obtain ⟨A,C,hA,hC,_,rfl⟩:=hdv;have hl0:len=ln.den:=q6b hlen P w;split
       . rename_i hm0;have hxs:xs=[]:=List.eq_nil_of_length_eq_zero (by rw [hxl,hm0]; simp)
         subst hxs;refine qga (x:=goInt (Nat.min n len:Nat)) (hres _ _ (hcopy (some A) C w (by rw [← hl0]) rfl)) ?_
         rw [hm0]; rfl
       . split
         . rename_i hsc;refine qkb fun e he => ?_
           split
           . rename_i cl wh el;obtain ⟨ll,vs,rest,lo,hi',hbl,h0',hc,hh,hfz,hw,hcap⟩:=hr.entries _ _ he;obtain ⟨l',hl',rfl⟩:=SA.zaB hA;rw [hbl] at hl'; cases hl';refine q8j hc hnew fun c' hc' hle => ?_
             have hrun:=q5b (P:=P) xs (vs++rest) (ll.off+a.off.den) 0 w hh (q8p hnew hsc) hfz.at (by rw [h0']; simp; omega)
             rw [Nat.add_zero,h0',Nat.zero_add,qye hle] at hrun;refine fun hb=>⟨.value _,_,_,β,hres _ _ (hcopy _ C _ (by rw [← hl0]) (by rw [h0',Nat.zero_add]; exact hrun)),rfl,rfl,Eff.turn hbl ?_,?_⟩
             . have hlt:ll.blk<w.heap.size:=(Array.getElem?_eq_some_iff.1 hh).1;refine ⟨ll,qib vs a.off.den xs,rest,lo,hi',hbl,h0',hc',by simp [hlt],?_,hw,?_⟩
               . simp only [List.length_append,q4a hle] at hfz ⊢; exact hfz
               . intro j hj;have:=hcap j hj;simp only [List.length_append,q4a hle] at this ⊢; exact this
             . intro m e hm;simp at hm;obtain ⟨rfl,rfl⟩:=hm;exact ⟨_,he,rfl,.not⟩
           . trivial
         . trivial
     . trivial
   . exact R.Sat.zab (fun hs1=>qu7 (ty:=ty) hr hdv hx ht hd hi (Nat.eq_of_beq_eq_true hs1) hn hlen hres) fun _=>trivial
 . trivial
theorem qmc {P:Program} {b:Builtin} {tys:Array TypeId} {ty:TypeId} {cs:Array Bool} {args:Array Value} {w w':World} {v:Value} {s:Sem Value} (h:builtin b tys ty cs args=(do pure (.value (← s)):Sem Next)) (hs:s.run P w=.ok v w') :
  (builtin b tys ty cs args).run P w=.ok (.value v) w':=by
 rw [h]; simp [hs]
theorem qw4 (hr:HeapRel0 P O w0 β H w) {b:Builtin} {args:Array Operand} {tys:Array TypeId} (hev:∀ x∈args.toList,(ev x).den β=some (ρ x)) :
  (qs6 b ⟨.builtin b,args,tys⟩ P ev H base).Sat (qea P H β w base ((execOp ρ ⟨dst,.call ⟨.builtin b,args,tys⟩,t,pos,af,g⟩).run P w)):=by
 have hargs:=qmd args.toList hev;have hex:(execOp ρ ⟨dst,.call ⟨.builtin b,args,tys⟩,t,pos,af,g⟩).run P w=(builtin b tys t (args.map fun | .const _=>true | _=>false) (args.toList.map ρ).toArray).run P w:=by
  simp only [execOp,resolve,Sem.run_bind,Sem.run_pure,Result.andThen_ok,invoke];congr 2;simp [← Array.toList_map]
 rw [hex];generalize (args.map fun | Operand.const _=>true | _=>false)=cs;show (q4p P H base b tys (zas ev args.toList)).Sat _;generalize hA:zas ev args.toList=az at hargs;generalize args.toList.map ρ=vs at hargs;unfold q4p;split
 . rename_i x xs;obtain ⟨y,ys,hy,hys,rfl⟩:=zae.1 hargs;exact jea hr hy (ty:=t) fun n hn=>qmc rfl hn
 . rename_i m k;obtain ⟨y,ys,hy,hys,rfl⟩:=zae.1 hargs;obtain ⟨z,zs,hz,hzs,rfl⟩:=zae.1 hys;rw [zaN] at hzs; subst hzs;exact qn0 hr hy hz (ty:=t) fun v w' h=>qmc rfl h
 . rename_i m;obtain ⟨y,ys,hy,hys,rfl⟩:=zae.1 hargs;rw [zaN] at hys; subst hys;exact qr4 hr hy (ty:=t) fun v w' h=>qmc rfl h
 . rename_i s x;obtain ⟨y,ys,hy,hys,rfl⟩:=zae.1 hargs;obtain ⟨z,zs,hz,hzs,rfl⟩:=zae.1 hys;rw [zaN] at hzs; subst hzs;exact qr0 hr hy hz (ty:=t) fun v w' h=>qmc rfl h
 . rename_i d x;obtain ⟨y,ys,hy,hys,rfl⟩:=zae.1 hargs;obtain ⟨z,zs,hz,hzs,rfl⟩:=zae.1 hys;rw [zaN] at hzs; subst hzs;exact qv7 hr hy hz (ty:=t) fun v w' h=>qmc rfl h
 . rename_i x y;obtain ⟨y1,ys,hy,hys,rfl⟩:=zae.1 hargs;obtain ⟨z,zs,hz,hzs,rfl⟩:=zae.1 hys;rw [zaN] at hzs; subst hzs;refine (q99 (P:=P) (w:=w) hy hz).bind fun v ⟨u,hu,hrun⟩=>qga (qmc rfl (s:=Builtin.min_ tys t #[y1,z]) ?_) hu;simp [Builtin.min_,hrun]
 . rename_i x y;obtain ⟨y1,ys,hy,hys,rfl⟩:=zae.1 hargs;obtain ⟨z,zs,hz,hzs,rfl⟩:=zae.1 hys;rw [zaN] at hzs; subst hzs;refine (jaa (P:=P) (w:=w) hy hz).bind fun v ⟨u,hu,hrun⟩=>qga (qmc rfl (s:=Builtin.max_ tys t #[y1,z]) ?_) hu;simp [Builtin.max_,hrun]
 . trivial
theorem qpg (v:SV):(∃ f xs ys,v=.func f xs ys)\/∀ {γ:Type} (d:γ) (f:SFn->List SV->List SV->γ),v.zed d f=d:=by
 cases v <;> first | exact .inl ⟨_,_,_,rfl⟩ | exact .inr fun _ _=>rfl
theorem qw7 {f:SV} {fv:Value} {az:List SV} {vs:List Value} (hf:f.den β=some fv) (has:SV.zal β az=some vs) :
  (qtj f az).Sat (qea P H β w base ((do let d ← Deferred.ofValue fv vs.toArray; invoke d.target d.args:Sem Next).run P w)):=by
 unfold qtj;rcases qpg f with ⟨fn,xs,ys,h⟩ | h
 . rw [h] at hf ⊢;simp only [SV.den,Option.bind_eq_some_iff,Option.map_eq_some_iff] at hf;obtain ⟨F,hF,x,hx,y,hy,rfl⟩:=hf;cases fn with
   | yield nm =>
     simp only [SFn.den,Option.map_eq_some_iff] at hF;obtain ⟨l,hl,rfl⟩:=hF;refine ⟨l,x++vs,hl,q4d hx has,?_⟩;simp [Deferred.ofValue,invoke]
   | fn fn =>
     simp only [SFn.den,Option.some.injEq] at hF;subst hF;cases fn with
     | func g =>
       refine ⟨x++(vs++y),q4d hx (q4d has hy),?_⟩;simp [Deferred.ofValue,invoke]
     | method=>trivial
     | methodOf=>trivial
     | via=>trivial
     | yield=>trivial
 . rw [h]; trivial
theorem qeu {path:List FieldStep} {g:FuncId} {az:List SV} {vs:List Value} (has:SV.zal β az=some vs) :
  (zgF P path g az).Sat fun r=>∃ args x xs y xt e,r=.enter g args/\vs=x::xs/\SV.zal β args=some (y::xs)/\(∀ ty,(follow path ty (.val x)).run P w=.ok (xt,.val y) w)/\(underlying xt).run P w=.ok (.pointer e) w/\path.isEmpty=false:=by
 unfold zgF;split
 . rename_i s l rest;obtain ⟨x,xs,hx,hxs,rfl⟩:=zae.1 has;simp only [SV.den,Option.map_eq_some_iff] at hx;obtain ⟨cs,hcs,rfl⟩:=hx;split
   . trivial
   . rename_i hd;refine R.Sat.opt fun d hu => ?_
     split
     . rename_i fs;refine R.Sat.opt fun f hf=>R.Sat.opt fun d2 hu2 => ?_
       have h1:=qba (w:=w) hu;have h2:=qba (w:=w) hu2;rw [qda] at hf;have hf':fs[s.index]? = some f:=by rw [← hf]; simp
       split
       . rename_i e;refine qin (w:=w) hcs fun v x hv hpart => ?_
         refine ⟨_,_,_,x,f.type,e,rfl,rfl,zae.2 ⟨x,xs,hv,hxs,rfl⟩,fun ty => ?_,h2,rfl⟩;simp [follow,h1,hf',hd,hpart]
       . trivial
     . trivial
 . trivial
theorem jka {ty:TypeId} {path:Array FieldStep} {g:FuncId} {cap:Array Value} {az:List SV} {vs:List Value} (has:SV.zal β az=some vs) :
  (zgF P path.toList g az).Sat (qea P H β w base ((invoke (.fn (.via ty path g true) cap) vs.toArray:Sem Next).run P w)):=by
 refine R.Sat.mono (qeu (w:=w) has) fun r ⟨args,x,xs,y,xt,e,hr,hvs,hargs,hf,hu,_⟩ => ?_
 subst hr hvs;refine ⟨y::xs,hargs,?_⟩;simp [invoke,receiverVia,hf,receiverAt,hu,Place.get]
theorem qs0 {ty:TypeId} {name:String} {cap:Array Value} {az:List SV} {vs:List Value} (has:SV.zal β az=some vs) :
  (qus P ty name az).Sat (qea P H β w base ((invoke (.fn (.methodOf ty name) cap) vs.toArray:Sem Next).run P w)):=by
 unfold qus;refine R.Sat.opt fun d hu => ?_
 split
 . rename_i fs;refine R.Sat.opt fun i hi=>R.Sat.opt fun m hm => ?_
   split
   . rename_i g hmf;have h1:=qba (w:=w) hu;have h2:=q3d (w:=w) hi;refine R.Sat.mono (qeu (w:=w) has) fun r ⟨args,x,xs,y,xt,e,hr,hvs,hargs,hf,hu,hp⟩ => ?_
     subst hr hvs;refine ⟨y::xs,hargs,?_⟩;have hm':(i.methods.find? fun m=>m.name == name)=some m:=hm;have zjP:∀ n,(method (n+1) ty x name).run P w=.ok (g,y) w:=fun n=>by
      unfold method;simp [h2,hm',hmf,hf,receiverAt,hu,Place.get]
     have hm2:(method (P.types.size+Made.depth) ty x name).run P w=.ok (g,y) w:=zjP (P.types.size+99);simp [invoke,h1,callMethod,hm2]
   . trivial
 . trivial
theorem qx7 {f:SV} {fv:Value} {az:List SV} {vs:List Value} (hf:f.den β=some fv) (has:SV.zal β az=some vs) :
  (qp3 P f az).Sat (qea P H β w base ((do let d ← Deferred.ofValue fv vs.toArray; invoke d.target d.args:Sem Next).run P w)):=by
 unfold qp3;split
 . rename_i ty path g xs ys;simp only [SV.den,Option.bind_eq_some_iff,Option.map_eq_some_iff] at hf;obtain ⟨F,hF,x,hx,y,hy,rfl⟩:=hf;simp only [SFn.den,Option.some.injEq] at hF;subst hF;have h:=jka (P:=P) (H:=H) (w:=w) (base:=base) (ty:=ty) (path:=path) (g:=g) (cap:=y.toArray) (q4d hx has);simpa [Deferred.ofValue] using h
 . rename_i ty name xs ys;simp only [SV.den,Option.bind_eq_some_iff,Option.map_eq_some_iff] at hf;obtain ⟨F,hF,x,hx,y,hy,rfl⟩:=hf;simp only [SFn.den,Option.some.injEq] at hF;subst hF;have h:=qs0 (P:=P) (H:=H) (w:=w) (base:=base) (ty:=ty) (name:=name) (cap:=y.toArray) (q4d hx has);simpa [Deferred.ofValue] using h
 . exact qw7 hf has
theorem qx4 {f:Operand} {args:Array Operand} {tys:Array TypeId} (hf:(ev f).den β=some (ρ f)) (hev:∀ x∈args.toList,(ev x).den β=some (ρ x)) :
  (qr6 f ⟨.value f,args,tys⟩ P ev H base).Sat (qea P H β w base ((execOp ρ ⟨dst,.call ⟨.value f,args,tys⟩,t,pos,af,g⟩).run P w)):=by
 have hargs:=qmd args.toList hev;have h:=qx7 (P:=P) (H:=H) (w:=w) (base:=base) hf hargs;have e:(args.toList.map ρ).toArray=args.map ρ:=by simp [← Array.toList_map]
 rw [e] at h;exact h
theorem qy4 {f:Operand} {args:Array Operand} {tys:Array TypeId} (hf:(ev f).den β=some (ρ f)) (hev:∀ x∈args.toList,(ev x).den β=some (ρ x)) :
  (q5m ⟨.value f,args,tys⟩ P ev H base).Sat (qea P H β w base ((execOp ρ ⟨dst,.defer ⟨.value f,args,tys⟩,t,pos,af,g⟩).run P w)):=by
 have hargs:=qmd args.toList hev;have e:(args.toList.map ρ).toArray=args.map ρ:=by simp [← Array.toList_map]
 show ((ev f).zed (R.stuck (α:=zai) 342) fun fn first captured=>R.ok (zai.defer (.call fn (app first (zas ev args.toList)) captured))).Sat _
 rcases qpg (ev f) with ⟨fn,xs,ys,h⟩ | h
 . rw [h] at hf ⊢;simp only [SV.den,Option.bind_eq_some_iff,Option.map_eq_some_iff] at hf;obtain ⟨F,hF,x,hx,y,hy,hfv⟩:=hf;refine ⟨{ target:=.fn F y.toArray,args:=(x++args.toList.map ρ).toArray },?_,?_⟩
   . simp only [SD.den,hF,hy,q4d hx hargs,Option.bind_some,Option.map_some]
   . simp only [execOp,resolve,← hfv,Deferred.ofValue,Sem.run_bind,Sem.run_pure,Result.andThen_ok,← e];simp
 . rw [h]; trivial
theorem qz4 {x:Operand} (hx:(ev x).den β=some (ρ x)) :
  (qvw x P ev H base).Sat (qea P H β w base ((execOp ρ ⟨dst,.panic x,t,pos,af,g⟩).run P w)):=by
 unfold qvw;split
 . rename_i ty v h;rw [h] at hx;refine ⟨ρ x,hx,?_⟩;simp only [SV.den,Option.map_eq_some_iff] at hx;obtain ⟨y,_,hy⟩:=hx;simp [execOp,Instr.panic,← hy,goPanic]
 . trivial
theorem qdf (hr:HeapRel0 P O w0 β H w) (o:Oper) (hev:∀ x∈o.op.operands,(ev x).den β=some (ρ x)) :
  (opS P ev H base o).Sat (qea P H β w base ((execOp ρ o).run P w)):=by
 obtain ⟨dst,op,t,pos,af,g⟩:=o;show (opD op P ev H base).Sat _;cases op <;> simp only [Op.operands] at hev
 case move x=>exact (q1t (hev x (by simp))).1
 case assign x=>exact (q1t (hev x (by simp))).2
 case pick c a b=>exact q46 (hev c (by simp)) (hev a (by simp)) (hev b (by simp))
 case alloc e=>exact q93 (ev:=ev)
 case box e x=>exact qx9 (hev x (by simp))
 case build ty ps=>exact qa4 fun x hx=>hev x (by simpa using hx)
 case buildSlice ty n ps=>exact qmr fun x hx=>hev x (by simpa using hx)
 case load ty a=>exact q66 hr (hev a (by simp))
 case store ty a x=>exact qb4 hr (hev a (by simp)) (hev x (by simp))
 case nilCheck x=>exact qz9 (hev x (by simp))
 case binOp op ty x y yt=>exact q59 (hev x (by simp)) (hev y (by simp))
 case unOp op ty x=>exact j2e (hev x (by simp))
 case convert s d x=>exact qg7 hr (hev x (by simp))
 case sliceToArrayPointer ty x=>exact q69 (hev x (by simp))
 case makeInterface ty x=>exact qf4 (hev x (by simp))
 case makeFunc fn xs ys=>exact qd7 (fun x hx=>hev x (by simp at hx ⊢; exact .inl hx)) (fun x hx=>hev x (by simp at hx ⊢; exact .inr hx))
 case makeSlice ty l c=>exact q4s (hev l (by simp)) (hev c (by simp))
 case slice ty x lo hi mx =>
  have ho:∀ v:Option Operand,(∀ y,v=some y->(ev y).den β=some (ρ y))->zgc β (v.map ev) (v.map ρ):=by
   intro v hv;cases v with
   | none=>trivial
   | some y=>exact hv y rfl
  exact qj4 (hev x (by simp)) (ho lo fun y hy=>hev y (by subst hy; simp)) (ho hi fun y hy=>hev y (by subst hy; simp)) (ho mx fun y hy=>hev y (by subst hy; simp))
 case fieldAddr ty x n=>exact q1s (hev x (by simp))
 case field ty x n=>exact qg4 (hev x (by simp))
 case indexAddr ty x i=>exact q2s (hev x (by simp)) (hev i (by simp))
 case index ty x i=>exact qh4 (hev x (by simp)) (hev i (by simp))
 case extract x n=>exact qox (hev x (by simp))
 case insert ty m k x=>exact (qxk hr (hev m (by simp)) (hev k (by simp)) (hev x (by simp))).2
 case makeMap ty r=>exact q0x fun x hx=>hev x (by subst hx; simp)
 case lookup ty x k ok=>exact qm0 hr (hev x (by simp)) (hev k (by simp))
 case mapUpdate ty m k x=>exact (qxk hr (hev m (by simp)) (hev k (by simp)) (hev x (by simp))).1
 case mapEntry ty m k=>exact qfv hr (hev m (by simp)) (hev k (by simp))
 case entryStore ty m s x=>exact qyr hr (hev m (by simp)) (hev s (by simp)) (hev x (by simp))
 case range ty x=>exact qs4 hr (hev x (by simp))
 case next x b=>exact qp7 hr (hev x (by simp))
 case entry x=>exact qt4 hr (hev x (by simp))
 case call c =>
  obtain ⟨callee,args,tys⟩:=c;simp only [Call.operands] at hev;cases callee with
  | value f=>exact qx4 (hev f (by simp)) fun x hx=>hev x (by simp at hx ⊢; exact .inr hx)
  | invoke r m=>trivial
  | builtin b=>exact qw4 hr fun x hx=>hev x (by simp at hx ⊢; exact hx)
 case defer c =>
  obtain ⟨callee,args,tys⟩:=c;simp only [Call.operands] at hev;cases callee with
  | value f=>exact qy4 (hev f (by simp)) fun x hx=>hev x (by simp at hx ⊢; exact .inr hx)
  | invoke r m=>trivial
  | builtin b=>trivial
 case panic x=>exact qz4 (hev x (by simp))
 all_goals trivial
end
end
noncomputable section
variable {α:Type}
def Tree.Ob (t:Tree) (D:SV->List SO->Prop) (S:SS->Prop):Prop :=
 match t with
 | .done v H=>D v H
 | .stop s=>S s
 | .need p t=>p/\t.Ob D S
 | .fork b t f=>(b=true->t.Ob D S)/\(b=false->f.Ob D S)
 | .stuck _=>False
 | .any k=>∀ z,(k z).Ob D S
theorem R.zc7 {r:R α} {k:α->Tree} {φ:α->Prop} {D:SV->List SO->Prop} {S:SS->Prop} (h:r.Sat φ) (ho:(r.tree k).Ob D S):∃ a,φ a/\(k a).Ob D S:=by
 induction r with
 | ok a=>exact ⟨a,h,ho⟩
 | need p r ih=>exact ih (h ho.1) ho.2
 | fork b t f iht ihf =>
   cases b with
   | true=>exact iht (h.1 rfl) (ho.1 rfl)
   | false=>exact ihf (h.2 rfl) (ho.2 rfl)
 | stuck n=>exact ho.elim
 | any k ih=>obtain ⟨z,h⟩:=h; exact ih z h (ho z)
def zaD (glob:Nat->Option Nat) (β:Val):Prop:=∀ g nm,glob g=some nm->∃ l,β nm=some l/\l.blk=g/\l.off=0
theorem zaD.mono {glob:Nat->Option Nat} {β β':Val} (h:zaD glob β) (hl:β.le β'):zaD glob β':=fun g nm hg=>let ⟨l,a,b⟩:=h g nm hg; ⟨l,hl _ _ a,b⟩
def zbX (os:Array Oper):List Nat->List Oper->Prop
 | [],[]=>True
 | i::is,o::l=>os[i]? = some o/\zbX os is l
 | _,_=>False
theorem zbX.range {os:Array Oper}:∀ {l pre:List Oper},os.toList=pre++l->zbX os (List.range' pre.length l.length) l
 | [],_,_=>trivial
 | o::l,pre,h=>by
   rw [List.length_cons,List.range'_succ];refine ⟨by rw [← Array.getElem?_toList,h]; simp,?_⟩
   have:=zbX.range (os:=os) (l:=l) (pre:=pre++[o]) (by rw [h]; simp)
   simpa using this
theorem zbX.all (os:Array Oper):zbX os (List.range os.size) os.toList:=by
 have:=zbX.range (os:=os) (l:=os.toList) (pre:=[]) rfl;rw [List.range_eq_range'];simpa using this
theorem zbX.drop (os:Array Oper) (s:Nat):zbX os (List.range' s (os.size - s)) (os.toList.drop s):=by
 rcases Nat.lt_or_ge os.size s with h | h
 . rw [show os.size - s=0 from by omega,List.drop_eq_nil_of_le (by simp; omega)]; trivial
 . have:=zbX.range (os:=os) (l:=os.toList.drop s) (pre:=os.toList.take s) (List.take_append_drop _ _).symm;rw [List.length_take,List.length_drop,Array.length_toList,Nat.min_eq_left h] at this;exact this
def zb7 (β:Val):zaK->Item->Prop
 | .code c,.code c'=>c'=c
 | .inBlock i,.inBlock j=>j=i
 | .inLoop c,.inLoop c'=>c'=c
 | .inLoop c,.code x=>x=.loop c
 | .inScope c,.inScope c'=>c'=c
 | .ops os l,.inRegion os' idx=>os'=os/\zbX os idx l
 | .ze1 n,.inRangeFunc b=>∃ l,β n=some l/\b=l.blk
 | .zd1 n,.endRangeFunc b=>∃ l,β n=some l/\b=l.blk
 | .beginRound,.beginRound=>True
 | _,_=>False
def za0 (β:Val):List zaK->List Item->Prop
 | [],[]=>True
 | x::k,y::k'=>zb7 β x y/\za0 β k k'
 | _,_=>False
theorem zb7.mono {β β':Val} (hl:β.le β') {x:zaK} {y:Item} (h:zb7 β x y):zb7 β' x y:=by
 cases x <;> cases y <;> first
  | exact h
  | (obtain ⟨l,a,b⟩:=h; exact ⟨l,hl _ _ a,b⟩)
theorem za0.mono {β β':Val} (hl:β.le β'):∀ {x:List zaK} {y:List Item},za0 β x y->za0 β' x y
 | [],[],_=>trivial
 | _::_,_::_,h=>⟨h.1.mono hl,za0.mono hl h.2⟩
 | [],_::_,h=>h.elim
 | _::_,[],h=>h.elim
def zcm (β:Val):Option Nat->Option Nat->Prop
 | none,none=>True
 | some n,some b=>∃ l,β n=some l/\b=l.blk
 | _,_=>False
theorem zcm.mono {β β':Val} (hl:β.le β') {x y:Option Nat} (h:zcm β x y):zcm β' x y:=by
 cases x <;> cases y <;> first | exact h | (obtain ⟨l,a,b⟩:=h; exact ⟨l,hl _ _ a,b⟩)
structure zar (β:Val) (s:SF) (f:Frame):Prop where
 fn:f.fn=s.fn
 tmps:SV.zal β s.tmps=some f.tmps.toList
 todo:za0 β s.todo f.todo
 defers:SD.zal β s.defers=some f.defers
 mode:f.mode=.run
 kind:f.kind=.normal
 round:zcm β s.roundOf f.roundOf
theorem zar.mono {β β':Val} (hl:β.le β') {s:SF} {f:Frame} (h:zar β s f):zar β' s f :=
 ⟨h.fn,SV.zan hl _ h.tmps,h.todo.mono hl,SD.zan hl h.defers,h.mode,h.kind,h.round.mono hl⟩
def zat (β:Val):List SF->List Frame->Prop
 | [],[]=>True
 | s::r,f::r'=>zar β s f/\zat β r r'
 | _,_=>False
theorem zat.mono {β β':Val} (hl:β.le β'):∀ {x:List SF} {y:List Frame},zat β x y->zat β' x y
 | [],[],_=>trivial
 | _::_,_::_,h=>⟨h.1.mono hl,zat.mono hl h.2⟩
 | [],_::_,h=>h.elim
 | _::_,[],h=>h.elim
theorem qvb {f:Frame} (h:f.mode=.run):f=f.atR ⟨f.tmps,f.defers⟩ f.todo:=by
 cases f; simp only [Frame.atR] at *; subst h; rfl
structure Base where
 P:Program
 glob:Nat->Option Nat
 O:Nat->Prop
 w0:World
 cs:List Frame
 fn0:FuncId
 fix:Val
structure zcD (B:Base) (β:Val):Prop where
 glob:zaD B.glob β
 fix:B.fix.le β
theorem zcD.mono {B:Base} {β β':Val} (h:zcD B β) (hl:β.le β'):zcD B β':=⟨h.glob.mono hl,Val.le_trans h.fix hl⟩
structure zdH (B:Base) (s:SS) (m:Machine):Prop where
 ex:∃ β fr frs w,m=lone fr (frs++B.cs) w/\zat β s.frames (fr::frs)/\zac B.P B.O B.w0 β s.heap w/\zcD B β/\((fr::frs).getLast?).map (·.fn)=some B.fn0
structure zdf (B:Base) (v:SV) (H:List SO) (m:Machine):Prop where
 ex:∃ β fr v' w,m=lone fr B.cs w/\fr.fn=B.fn0/\fr.leaving B.P w (.returned v')/\v.den β=some v'/\zac B.P B.O B.w0 β H w/\zcD B β
def After (B:Base) (go:SS->Tree) (D:SV->List SO->Prop) (S:SS->Prop) (m:Machine):Prop :=
 ∃ m',Steps B.P m m'/\((∃ s',(go s').Ob D S/\zdH B s' m')\/(∃ v H,D v H/\zdf B v H m'))
theorem After.of_steps {B:Base} {go:SS->Tree} {D:SV->List SO->Prop} {S:SS->Prop} {m m1:Machine} (h:Steps B.P m m1) (h':After B go D S m1):After B go D S m :=
 let ⟨m',a,b⟩:=h'; ⟨m',h.trans a,b⟩
theorem After.step {B:Base} {go:SS->Tree} {D:SV->List SO->Prop} {S:SS->Prop} {m m1:Machine} (h:step B.P m=.next m1) (h':After B go D S m1):After B go D S m:=h'.of_steps (.one h)
section
variable {B:Base} {go:SS->Tree} {D:SV->List SO->Prop} {S:SS->Prop}
theorem qne {glob:Nat->Option Nat} {β:Val} {T:List SV} {a:Act} (hT:SV.zal β T=some a.tmps.toList) (hg:zaD glob β) (x:Operand):(evS glob T x).den β=some (a.eval x):=by
 cases x with
 | tmp t =>
   show (zah (nth T t) qsa fun v=>v).den β=some (a.tmps.getD t undef);rw [qda];cases h:T[t]? with
   | none =>
     have hlen:=qra hT;have:a.tmps.size<=t:=by
      rw [List.getElem?_eq_none_iff] at h;simp at hlen; omega
     rw [Array.getD_eq_getD_getElem?,Array.getElem?_eq_none this]; rfl
   | some v =>
     obtain ⟨x,hx,hd⟩:=qlc hT h;rw [Array.getD_eq_getD_getElem?,show a.tmps[t]? = some x from by rw [← hx]; simp]
     exact hd
 | const v=>exact qog β v
 | global g =>
   show (qjg g glob T).den β=_;unfold qjg;split
   . rename_i nm h;obtain ⟨l,h1,h2,h3⟩:=hg g nm h;simp [SV.den,SA.den,h1,h2,h3,SN.den,Act.eval]
   . rfl
 | func f=>rfl
theorem jla {β:Val} {T:List SV} {a:Act} (hT:SV.zal β T=some a.tmps.toList) (dst:Option Tmp) {v:SV} {x:Value} (hv:v.den β=some x):SV.zal β (zbU T dst v)=some (a.put dst x).tmps.toList:=by
 cases dst with
 | none=>exact hT
 | some d =>
   show SV.zal β (zbv T d v)=_;rw [quc];simp only [Act.put,Array.toList_setIfInBounds];exact q4i hT hv
theorem zar.to {β:Val} {s:SF} {f:Frame} (h:zar β s f) {k:List zaK} {k':List Item} (hk:za0 β k k'):zar β (s.to k) (f.atR ⟨f.tmps,f.defers⟩ k') :=
 ⟨h.fn,h.tmps,hk,h.defers,rfl,h.kind,h.round⟩
theorem qac {f f':Frame} {frs:List Frame} (h:f'.fn=f.fn):((f'::frs).getLast?).map (·.fn)=((f::frs).getLast?).map (·.fn):=by
 cases frs with
 | nil=>simp [h]
 | cons g r=>simp [List.getLast?_cons_cons]
theorem q2c {s:SF} {rest:List SF} {H:List SO} {β:Val} {fr:Frame} {frs:List Frame} {w:World} (hF:zar β s fr) (hR:zat β rest frs) (hH:zac B.P B.O B.w0 β H w) (hG:zcD B β)
  (hl:((fr::frs).getLast?).map (·.fn)=some B.fn0) {k:List zaK} {k':List Item} (hk:za0 β k k') (hgo:(go ⟨s.to k::rest,H⟩).Ob D S)
  (hst:step B.P (lone (fr.atR ⟨fr.tmps,fr.defers⟩ fr.todo) (frs++B.cs) w)=.next (lone (fr.atR ⟨fr.tmps,fr.defers⟩ k') (frs++B.cs) w)):After B go D S (lone fr (frs++B.cs) w):=by
 rw [qvb hF.mode];exact ⟨_,.one hst,.inl ⟨_,hgo,⟨β,_,frs,w,rfl,⟨hF.to hk,hR⟩,hH,hG,by have:=qac (f:=fr) (f':=fr.atR ⟨fr.tmps,fr.defers⟩ k') (frs:=frs) rfl; rw [this]; exact hl⟩⟩⟩
theorem qzr {β:Val} (id:Nat):∀ (k:List zaK) (k':List Item),za0 β k k'->match qto id k with
  | some r=>∃ r',exitTo id k'=some r'/\za0 β r r'
  | none=>exitTo id k'=none
 | [],[],_=>rfl
 | [],_::_,h=>h.elim
 | _::_,[],h=>h.elim
 | x::k,y::k',h=>by
   have ih:=qzr id k k' h.2;obtain ⟨h1,h2⟩:=h;cases x <;> cases y <;> first | exact h1.elim | skip
   case inBlock.inBlock i j =>
    have h1':j=i:=h1;subst h1';simp only [qto,exitTo];by_cases hj:j=id
    . subst hj; simp; exact h2
    . simp [hj]; exact ih
   all_goals first | exact ih | skip
end
end
noncomputable section
variable {α:Type}
def qtb (P:Program) (H:List SO) (β:Val) (w:World) (base:Nat) (f:FuncId) (vs:List Value) (r:zaH):Prop :=
 (∀ i,i<r.news.length->β (base+i)=none) ->
 (∀ n e,(n,e)∈r.sets->qhh H n e) /\
 (((∃ fn,P.funcs[f]? = some fn/\fn.body.isSome=true)/\Calls P f vs.toArray w fun e w'=>∃ v' β',e=.returned v'/\r.v.den β'=some v'/\Eff P β w base r.sets r.news β' w') \/
   ∃ v' w' β',(callFunc f vs.toArray).run P w=.ok (.value v') w'/\r.v.den β'=some v'/\Eff P β w base r.sets r.news β' w')
def q04 (P:Program) (glob:Nat->Option Nat) (f:FuncId) (s:za3):Prop :=
 ∀ (O:Nat->Prop) (w0:World) (β:Val) (H:List SO) (w:World) (base:Nat) (args:List SV) (vs:List Value),HeapRel0 P O w0 β H w->zaD glob β->SV.zal β args=some vs ->
   (s args H base).Sat (qtb P H β w base f vs)
def qeb (P:Program) (f:FuncId) (s:za3):Prop:=∀ glob,q04 P glob f s
structure zdD (P:Program):Prop where
 noNG:∀ (f:FuncId) (fn:Func),P.funcs[f]? = some fn->fn.body.isSome=true->(fn.name == "runtime.NumGoroutine")=false
 mixed:P.follows .mixedOrders=true
def q7x (P:Program) (H:List SO) (β:Val) (w:World) (base:Nat) (f:FuncId) (vs:List Value) (u:FrameMode) (r:zaH):Prop :=
 (∀ i,i<r.news.length->β (base+i)=none) ->
 (∀ n e,(n,e)∈r.sets->qhh H n e)/\(∃ fn,P.funcs[f]? = some fn/\fn.body.isSome=true) /\
 CallsD P f vs.toArray u w fun e u' w'=>(∃ v',e=.returned v')/\settle u'=.returning/\∃ β',Eff P β w base r.sets r.news β' w'
structure zkQ (P:Program) (glob:Nat->Option Nat) (f:FuncId) (s:za3 × za3):Prop where
 ret:∀ (O:Nat->Prop) (w0:World) (β:Val) (H:List SO) (w:World) (base:Nat) (args:List SV) (vs:List Value),HeapRel0 P O w0 β H w->zaD glob β->SV.zal β args=some vs ->
  (s.1 args H base).Sat (q7x P H β w base f vs .returning)
 pan:∀ (O:Nat->Prop) (w0:World) (β:Val) (H:List SO) (w:World) (base:Nat) (v:SV) (x:Value) (args:List SV) (vs:List Value),HeapRel0 P O w0 β H w->zaD glob β->v.den β=some x->SV.zal β args=some vs ->
  (s.2 (v::args) H base).Sat (q7x P H β w base f vs (.panicking [{ v:=x,recovered:=false }]))
structure zaC (c:Cfg):Prop where
 prog:zdD c.P
 sums:∀ f s,c.sums f=some s->q04 c.P c.glob f s
 zet:∀ f s,c.zet f=some s->zkQ c.P c.glob f s
section
variable {c:Cfg} {B:Base} {go:SS->Tree} {D:SV->List SO->Prop} {S:SS->Prop}
theorem qjd {P:Program} (hP:zdD P) {f:FuncId} {fn:Func} (h:P.funcs[f]? = some fn) (hb:fn.body.isSome=true) (args:Array Value) (w:World):(callFunc f args).run P w=.ok (.enter f args) w:=by
 have hn:fn.body.isNone=false:=by cases hx:fn.body <;> simp [hx] at hb ⊢
 unfold callFunc;simp only [Sem.run_bind,run_program,Result.andThen_ok,h,hP.noNG f fn h hb,hn];rfl
theorem qqg {β:Val} {s s':SF} {f:Frame} (h:zar β s f) {v:SV} {x:Value} (hv:v.den β=some x) (hs:s.finish v=some s'):zar β s' (f.finish x)/\(f.finish x).fn=f.fn:=by
 obtain ⟨fn,T,td,ds,ro⟩:=s;obtain ⟨hfn,hT,htd,hds,hm,hk,hr⟩:=h;have h1:qwo td ⟨fn,T,td,ds,ro⟩ v=some s':=hs;cases td with
 | nil=>cases h1
 | cons x k =>
   have h2:ql1 x k ⟨fn,T,x::k,ds,ro⟩ v=some s':=h1;cases hft:f.todo with
   | nil=>rw [hft] at htd; exact htd.elim
   | cons y k' =>
     rw [hft] at htd;obtain ⟨hxy,hkk⟩:=htd;cases x <;> first | (cases h2; done) | skip
     case ops os l =>
      cases l with
      | nil=>cases h2
      | cons o l =>
        cases y <;> first | exact hxy.elim | skip
        rename_i os' idx;obtain ⟨rfl,hat⟩:=hxy;cases idx with
        | nil=>exact hat.elim
        | cons i is =>
        obtain ⟨ho,hat⟩:=hat;have h3:s'=⟨fn,zbU T o.dst v,.ops os' l::k,ds,ro⟩:=(Option.some.inj h2).symm;subst h3;have hfin:f.finish x=f.atR ((⟨f.tmps,f.defers⟩:Act).put o.dst x) (.inRegion os' is::k'):=by
         have:=Frame.finish_atR f ⟨f.tmps,f.defers⟩ os' i is k' x;rw [ho] at this;rw [← Option.bind_some (f:=fun x:Oper=>x.dst),← this,qvb hm];simp [hft,Frame.atR]
        rw [hfin];refine ⟨⟨hfn,jla (a:=⟨f.tmps,f.defers⟩) hT o.dst hv,⟨⟨rfl,hat⟩,hkk⟩,?_,rfl,hk,hr⟩,rfl⟩;show SD.zal β ds=some (Act.put _ _ _).defers;rw [hds]; cases o.dst <;> rfl
     case ze1 nm =>
      cases y <;> first | exact hxy.elim | skip
      rename_i b;have h3:s'=⟨fn,T,.zd1 nm::k,ds,ro⟩:=(Option.some.inj h2).symm;subst h3;have hfin:f.finish x=f.atR ⟨f.tmps,f.defers⟩ (.endRangeFunc b::k'):=by
       rw [← finish_atR_inRangeFunc b x];congr 1;rw [qvb hm]; simp [hft,Frame.atR]
      rw [hfin];exact ⟨⟨hfn,hT,⟨hxy,hkk⟩,hds,rfl,hk,hr⟩,rfl⟩
theorem qfu {P:Program} {β:Val} {f:FuncId} {args:List SV} {vs:List Value} {s:SF} (h:qge P f args=some s) (ha:SV.zal β args=some vs) :
  zar β s (Frame.enter P f vs.toArray .normal)/\∃ fn,P.funcs[f]? = some fn/\fn.body.isSome=true:=by
 unfold qge at h;rw [qda] at h;have hf:P.funcs.toList[f]? = P.funcs[f]? := by simp
 rw [hf] at h;cases hfn:P.funcs[f]? with
 | none=>rw [hfn] at h; cases h
 | some fn =>
   rw [hfn] at h;simp only [zao] at h;cases hb:fn.body with
   | none=>rw [hb] at h; cases h
   | some c =>
     rw [hb] at h;simp only [zao,Option.some.injEq] at h;subst h;refine ⟨⟨rfl,?_,?_,rfl,rfl,rfl,trivial⟩,fn,rfl,by rw [hb]; rfl⟩
     . have hl:=qra ha;simp only [Frame.enter,hfn,Option.map_some,Option.getD_some];rw [q7a,qp1,qha,← hl];simp only [Array.toList_append,Array.toList_replicate,List.size_toArray];exact qqd ha (qzs (by simp [qsa,SV.den,SV.zal,undef]) _)
     . simp only [Frame.enter,hfn,Option.bind_some,hb,Option.getD_some];exact ⟨rfl,trivial⟩
theorem q2e {f g:Frame} {frs:List Frame}:((f::g::frs).getLast?).map (·.fn)=((g::frs).getLast?).map (·.fn):=by
 rw [List.getLast?_cons_cons]
theorem q14 {rest:List SF} {H:List SO} {v:SV} {x:Value} {β:Val} {fr:Frame} {frs:List Frame} {w:World} (hR:zat β rest frs) (hH:zac B.P B.O B.w0 β H w) (hG:zcD B β) (hv:v.den β=some x)
  (hl:((fr::frs).getLast?).map (·.fn)=some B.fn0) (hleave:fr.leaving B.P w (.returned x)) (hob:(qs3 rest H v go).Ob D S):After B go D S (lone fr (frs++B.cs) w):=by
 unfold qs3 at hob;cases rest with
 | nil =>
   cases frs with
   | cons=>exact hR.elim
   | nil =>
     refine ⟨_,.refl _ _,.inr ⟨v,H,hob,⟨β,fr,x,w,rfl,by simpa using hl,hleave,hv,hH,hG⟩⟩⟩
 | cons s rest =>
   cases frs with
   | nil=>exact hR.elim
   | cons f frs =>
     simp only at hob;cases hs:s.finish v with
     | none=>rw [hs] at hob; exact hob.elim
     | some s' =>
       rw [hs] at hob;obtain ⟨h1,h2⟩:=qqg hR.1 hv hs;refine ⟨_,.one (step_leave_returned hleave),.inl ⟨_,hob,⟨β,_,frs,w,rfl,⟨h1,hR.2⟩,hH,hG,?_⟩⟩⟩;rw [qac h2,← q2e (f:=fr)]; exact hl
theorem qvn (hc:zaC c) (hP:B.P=c.P) (hgl:B.glob=c.glob) {f:FuncId} {args:List SV} {vs:List Value} {s:SF} {rest:List SF} {H:List SO} {β:Val} {fr:Frame} {frs:List Frame} {w:World} (hF:zar β s fr) (hR:zat β rest frs) (hH:zac B.P B.O B.w0 β H w) (hG:zcD B β)
  (hl:((fr::frs).getLast?).map (·.fn)=some B.fn0) (ha:SV.zal β args=some vs) (hob:(qmk c f args s rest H go).Ob D S) {m0:Machine}
  (henter:(callFunc f vs.toArray).run B.P w=.ok (.enter f vs.toArray) w->Steps B.P m0 (lone (Frame.enter B.P f vs.toArray .normal) (fr::(frs++B.cs)) w))
  (hval:∀ v w',(callFunc f vs.toArray).run B.P w=.ok (.value v) w'->Steps B.P m0 (lone (fr.finish v) (frs++B.cs) w')):After B go D S m0:=by
 unfold qmk at hob;cases hs:c.sums f with
 | some sm =>
   rw [hs] at hob;simp only at hob;rw [qha] at hob;obtain ⟨r,hr,hob⟩:=R.zc7 (hc.sums f sm hs B.O B.w0 β H w H.length args vs (hP▸hH.toHeapRel0) (hgl▸hG.glob) ha) hob;cases hfin:s.finish r.v with
   | none=>rw [hfin] at hob; exact hob.elim
   | some s' =>
     rw [hfin] at hob;obtain ⟨hown,hcall⟩:=hr fun i _=>hH.bound _ (Nat.le_add_right _ _);rw [← hP] at hcall;have hend:∀ (v':Value) (β':Val) (w':World),r.v.den β'=some v'->Eff B.P β w H.length r.sets r.news β' w'->Steps B.P m0 (lone (fr.finish v') (frs++B.cs) w')->After B go D S m0:=by
      intro v' β' w' hv hE hst;obtain ⟨h1,h2⟩:=qqg (hF.mono hE.le) hv hfin;exact ⟨_,hst,.inl ⟨_,hob,⟨β',_,frs,w',rfl,⟨h1,hR.mono hE.le⟩,hH.apply hE hown,hG.mono hE.le,by rw [qac h2]; exact hl⟩⟩⟩
     rcases hcall with ⟨⟨fn,hfn,hb⟩,hcall⟩ | ⟨v',w',β',hrun,hv,hE⟩
     . obtain ⟨e,w',fr',⟨v',β',rfl,hv,hE⟩,hcomes,_,hleave⟩:=hcall (fr::(frs++B.cs));refine hend v' β' w' hv hE ((henter (qjd (hP▸hc.prog) hfn hb _ _)).trans (Steps.trans hcomes (.one ?_)));exact step_leave_returned hleave
     . exact hend v' β' w' hv hE (hval v' w' hrun)
 | none =>
   rw [hs] at hob;simp only at hob;rw [← hP] at hob;cases he:qge B.P f args with
   | none=>rw [he] at hob; exact hob.elim
   | some g =>
     rw [he] at hob;obtain ⟨h1,fn,hfn,hb⟩:=qfu he ha;refine ⟨_,henter (qjd (hP▸hc.prog) hfn hb _ _),.inl ⟨_,hob,⟨β,_,fr::frs,w,rfl,⟨h1,hF,hR⟩,hH,hG,?_⟩⟩⟩;rw [q2e]; exact hl
theorem qpf {H:List SO} {nm:Nat} {s p f T ps a b d} (h:q1i H nm=some (s,p,f,T,ps,a,b,d)):H[nm]? = some (.loop s p f T ps a b d):=by
 unfold q1i at h;rw [qda] at h;split at h
 . rename_i he; cases h; exact he
 . cases h
theorem q0h {P:Program} {O:Nat->Prop} {w0:World} {β:Val} {H:List SO} {w:World} (hH:zac P O w0 β H w) {nm:Nat} {s p f T ps a b d} (h:H[nm]? = some (.loop s p f T ps a b d)) :
  ∃ l r,β nm=some l/\w.heap[l.blk]? = some (.loop r)/\r.state=s/\r.pending=p/\r.fn=f/\SV.zal β T=some r.tmps.toList/\r.params=ps/\r.assign=a/\r.body=b/\(∃ ld,β d=some ld/\r.defers=ld.blk) /\
    ∀ s' p',zac P O w0 β (zbv H nm (.loop s' p' f T ps a b d)) (w.putObj l.blk (.loop { r with state:=s',pending:=p' })):=by
 obtain ⟨l,ld,Ts,hl,hd,hT,hh⟩:=hH.entries _ _ h;refine ⟨l,_,hl,hh,rfl,rfl,rfl,by simpa using hT,rfl,rfl,rfl,⟨ld,hd,rfl⟩,fun s' p' => ?_⟩
 have hlt:l.blk<w.heap.size:=(Array.getElem?_eq_some_iff.1 hh).1;refine hH.apply (sets:=[(nm,.loop s' p' f T ps a b d)]) (news:=[]) (Eff.turn hl ?_) ?_
 . exact ⟨l,ld,Ts,hl,hd,hT,by simp [hlt]⟩
 . intro n e hn; simp at hn; obtain ⟨rfl,rfl⟩:=hn; exact ⟨_,h,rfl,.not⟩
theorem qyk {H:List SO} {rest:List SF} {nm:Nat} {jump:Option Code} {β:Val} {fr:Frame} {frs:List Frame} {w:World} (hR:zat β rest frs) (hH:zac B.P B.O B.w0 β H w) (hG:zcD B β)
  (hl:((fr::frs).getLast?).map (·.fn)=some B.fn0) (hob:(quj H rest nm jump go).Ob D S)
  (hst:∀ (l:Loc) (c:Frame) (cs:List Frame) (w':World),β nm=some l->(Instr.endRound l.blk jump).run B.P w=.ok (.bool jump.isNone) w'->step B.P (lone fr (c::cs) w)=.next (lone (c.finish (.bool jump.isNone)) cs w')) :
  After B go D S (lone fr (frs++B.cs) w):=by
 unfold quj at hob;split at hob
 . rename_i st p f T ps a b d s rest' hloop;cases frs with
   | nil=>exact hR.elim
   | cons g frs =>
     cases hs:s.finish (.bool (.lit jump.isNone)) with
     | none=>rw [hs] at hob; exact hob.elim
     | some s' =>
       rw [hs] at hob;obtain ⟨l,r,hb,hh,_,_,_,_,_,_,_,_,hturn⟩:=q0h hH (qpf hloop);obtain ⟨h1,h2⟩:=qqg hR.1 (x:=.bool jump.isNone) rfl hs;refine ⟨_,.one (hst l g _ _ hb (run_endRound jump hh)),.inl ⟨_,hob,⟨β,_,frs,_,rfl,⟨h1,hR.2⟩,hturn _ _,hG,?_⟩⟩⟩;rw [qac h2,← q2e (f:=fr)]; exact hl
 . exact hob.elim
end
end
noncomputable section
variable {α:Type}
section
variable {c:Cfg} {B:Base} {go:SS->Tree} {D:SV->List SO->Prop} {S:SS->Prop}
theorem qy7 {P:Program} {fr:Frame} {cs:List Frame} {w w':World} {b:Nat} {ds calls:List Deferred} (hm:fr.mode=.returning) (hd:fr.defers={ target:=.collected b,args := #[] }::ds) (hr:(Instr.takeDeferred b).run P w=.ok calls w') :
  step P (lone fr cs w)=.next (lone { fr with defers:=calls++ds } cs w') :=
 step_lone_go (by simp [stepG,unwind,hm,hd,Sem.runT_eq,hr,GStep.bare_after])
theorem q8x {P:Program} {O:Nat->Prop} {w0:World} {β:Val} {H:List SO} {w:World} (hr:HeapRel0 P O w0 β H w) {T:List SV} {ts:Array Value} (hT:SV.zal β T=some ts.toList) {φ:α->Prop}:∀ (l:List ResultVar) (k:List SV->R α),
  (∀ svs vs,SV.zal β svs=some vs->(l.mapM (m:=Sem) fun
   | .tmp t=>pure (ts.getD t undef)
   | .cell a t=>do loadVar t (← asAddr (ts.getD a undef))).run P w=.ok vs w->(k svs).Sat φ)->(q0i P H T l k).Sat φ:=by
 have hget:∀ t,((nth T t).getD qsa).den β=some (ts.getD t undef):=by
  intro t;have:=qne (glob:=fun _=>none) (a:=⟨ts,[]⟩) hT (fun _ _ h=>by cases h) (.tmp t)
  have e:evS (fun _=>none) T (.tmp t)=(nth T t).getD qsa:=by
   show zah (nth T t) qsa (fun v=>v)=_;cases nth T t <;> rfl
  rw [e] at this; exact this
 intro l;induction l with
 | nil=>intro k h; exact h [] [] rfl (by simp)
 | cons x l ih =>
   intro k h;cases x with
   | tmp t =>
     refine ih _ fun svs vs h1 h2=>h _ _ (zae.2 ⟨_,_,hget t,h1,rfl⟩) ?_
     rw [List.mapM_cons];simp only [Sem.run_bind,Sem.run_pure,Result.andThen_ok,h2]
   | cell a t =>
     refine q8i (hget a) fun a' A _ hA hx=>qyt hr hA fun v x hv hrun=>ih _ fun svs vs h1 h2=>h _ _ (zae.2 ⟨_,_,hv,h1,rfl⟩) ?_
     have ha:asAddr (ts.getD a undef)=pure A:=by rw [hx]; rfl
     rw [List.mapM_cons];simp only [ha,Sem.run_bind,Sem.run_pure,Result.andThen_ok,hrun,h2]
theorem q24 {β:Val} {svs:List SV} {vs:List Value} (h:SV.zal β svs=some vs):(q6m svs).den β=some (if h:vs.toArray.size=1 then vs.toArray[0] else .tuple vs.toArray):=by
 cases svs with
 | nil=>rw [zaN] at h; subst h; rfl
 | cons a l =>
   obtain ⟨x,xs,hx,hxs,rfl⟩:=zae.1 h;cases l with
   | nil=>rw [zaN] at hxs; subst hxs; simpa [q6m] using hx
   | cons b l =>
     obtain ⟨y,ys,hy,hys,rfl⟩:=zae.1 hxs;have:q6m (a::b::l)=.tuple (a::b::l):=rfl;rw [this,dif_neg (by simp)]
     simp only [SV.den,h]; rfl
theorem qt0 {P:Program} {O:Nat->Prop} {w0:World} {β:Val} {H:List SO} {w:World} (hr:HeapRel0 P O w0 β H w) {T:List SV} {ts:Array Value} (hT:SV.zal β T=some ts.toList) (fn:Func) :
  (q0i P H T fn.results.toList fun l=>.ok (q6m l)).Sat fun v=>∃ x,v.den β=some x/\(results fn ts).run P w=.ok x w:=by
 refine q8x hr hT _ _ fun svs vs h1 h2=>⟨_,q24 h1,?_⟩;unfold results;rw [Array.mapM_eq_mapM_toList];simp only [Sem.run_bind,Sem.run_map,Sem.run_pure];exact congrArg (fun z:Result (List Value)=>(z.andThen fun a w'=>Result.ok a.toArray w').andThen fun a w'=>.ok (if h:a.size=1 then a[0] else .tuple a) w') h2
theorem qwn (hc:zaC c) (hP:B.P=c.P) {fn:SFn} {args captured:List SV} {pick:za3 × za3->za3} {H:List SO} {k:List SO->Tree} {β:Val} {w:World} {fr:Frame} {cs:List Frame} {d:Deferred} {ds:List Deferred} {az:List SV}
  (hH:zac B.P B.O B.w0 β H w) (hG:zcD B β) (hd:fr.defers=d::ds) (hm:fr.mode≠.run) (hden:(SD.call fn args captured).den β=some d)
  (hpick:∀ f s,c.zet f=some s->∀ vs,SV.zal β (app args captured)=some vs->(pick s az H H.length).Sat (q7x c.P H β w H.length f vs fr.mode))
  (hob:(qww c fn az pick H k).Ob D S) :
  ∃ β' H' w',β.le β'/\Steps B.P (lone fr cs w) (lone { fr with defers:=ds,mode:=.returning } cs w')/\zac B.P B.O B.w0 β' H' w'/\zcD B β'/\(k H').Ob D S:=by
 cases fn with
 | yield nm=>exact hob.elim
 | fn g =>
   cases g <;> try exact hob.elim
   rename_i f;simp only [SD.den,SFn.den,Option.bind_some,Option.bind_eq_some_iff,Option.map_eq_some_iff] at hden;obtain ⟨xs,hxs,ys,hys,rfl⟩:=hden;replace hob:(zah (c.zet f) (.stuck 405) fun s=>(pick s az H (zay H)).tree fun r=>k (q3b H r.sets r.news)).Ob D S:=hob;cases hs:c.zet f with
   | none=>rw [hs] at hob; exact hob.elim
   | some s =>
     rw [hs] at hob;simp only [zao] at hob;rw [qha] at hob;obtain ⟨r,hr,hob⟩:=R.zc7 (hpick f s hs (xs++ys) (q4d hxs hys)) hob;obtain ⟨hown,⟨fn,hfn,hb⟩,hcall⟩:=hr fun i _=>hH.bound _ (Nat.le_add_right _ _);rw [← hP] at hcall hfn;have hinv:(invoke (.fn (.func f) ys.toArray) xs.toArray).run B.P w=.ok (.enter f (xs++ys).toArray) w:=by
      have:=qjd (hP▸hc.prog) hfn hb (xs++ys).toArray w;simpa [invoke] using this
     have h1:=step_defer (cs:=cs) hm hd rfl hinv;obtain ⟨e,u',w',frX,⟨⟨v',rfl⟩,hset,β',hE⟩,hcomes,hkX,hgo⟩:=hcall { fr with defers:=ds } cs rfl;have h2:=step_going_returned (c:={ { fr with defers:=ds } with mode:=u' }) (cs:=cs) hkX hgo
     refine ⟨β',_,w',hE.le,Steps.head h1 (Steps.trans hcomes (.one ?_)),hH.apply hE hown,hG.mono hE.le,hob⟩;rw [h2];simp [hset]
theorem qtf (hc:zaC c) (hP:B.P=c.P) (hgl:B.glob=c.glob) {cs:List Frame}:∀ {ds:List SD} {H:List SO} {k:List SO->Tree} {β:Val} {w:World} {fr:Frame},fr.mode=.returning->SD.zal β ds=some fr.defers->zac B.P B.O B.w0 β H w->zcD B β->(qoi c ds H k).Ob D S ->
  ∃ β' H' w',β.le β'/\Steps B.P (lone fr cs w) (lone { fr with defers:=[] } cs w')/\zac B.P B.O B.w0 β' H' w'/\zcD B β'/\(k H').Ob D S
 | [],H,k,β,w,fr,_,hd,hH,hG,hob=>by
   cases hd':fr.defers with
   | nil =>
     have:{ fr with defers:=[] }=fr:=by cases fr; simp at hd'; subst hd'; rfl
     rw [this]; exact ⟨β,H,w,Val.le_refl β,.refl _ _,hH,hG,hob⟩
   | cons=>rw [hd'] at hd; cases hd
 | .call fn args captured::r,H,k,β,w,fr,hm,hd,hH,hG,hob=>by
   simp only [SD.zal,Option.bind_eq_some_iff,Option.map_eq_some_iff] at hd;obtain ⟨d,hd1,ds',hr1,hr2⟩:=hd;obtain ⟨β1,H1,w1,hle1,zjK,hH1,hG1,zjL⟩:=qwn hc hP (cs:=cs) (fr:=fr) (az:=app args captured) (pick:=fun s=>s.1) hH hG hr2.symm (by rw [hm]; simp) hd1
    (fun f s hs vs hvs=>by rw [hm]; exact (hc.zet f s hs).ret B.O B.w0 β H w _ _ vs (hP▸hH.toHeapRel0) (hgl▸hG.glob) hvs) hob
   obtain ⟨β2,H2,w2,hle2,zdT,hH2,hG2,zg2⟩:=qtf hc hP hgl (cs:=cs) (ds:=r) (fr:={ fr with defers:=ds',mode:=.returning }) rfl (SD.zan hle1 hr1) hH1 hG1 zjL;refine ⟨β2,H2,w2,Val.le_trans hle1 hle2,zjK.trans ?_,hH2,hG2,zg2⟩;have e:({ fr with defers:=[],mode:=.returning }:Frame)={ fr with defers:=[] }:=by rw [← hm]
   rw [← e]; exact zdT
 | .coll nm::r,H,k,β,w,fr,hm,hd,hH,hG,hob=>by
   unfold qoi at hob;simp only [SD.zal,SD.den,Option.bind_eq_some_iff,Option.map_eq_some_iff] at hd;obtain ⟨dx,⟨l,hl1,rfl⟩,ds',hr1,hr2⟩:=hd;rw [qda] at hob;split at hob
   . rename_i he;obtain ⟨l',ds2,hb,hd,hh⟩:=hH.entries _ _ he;rw [hl1] at hb; cases hb;have hd':ds2=some []:=by
      simp [SD.zkm,SD.zal] at hd; exact hd.symm
     subst hd';have hlt:l.blk<w.heap.size:=(Array.getElem?_eq_some_iff.1 hh).1;have hH':zac B.P B.O B.w0 β (zbv H nm (.deferred none)) (w.putObj l.blk (.deferred none)):=by
      refine hH.apply (sets:=[(nm,.deferred none)]) (news:=[]) (Eff.turn hl1 ?_) ?_
      . exact ⟨l,none,hl1,rfl,by simp [hlt]⟩
      . intro n e hn; simp at hn; obtain ⟨rfl,rfl⟩:=hn; exact ⟨_,he,rfl,.not⟩
     have hstep:=qy7 (P:=B.P) (fr:=fr) (cs:=cs) (b:=l.blk) (ds:=ds') (calls:=[]) hm hr2.symm (run_takeDeferred hh);obtain ⟨β2,H2,w',hle,hst,hH2,hG2,zg2⟩:=qtf hc hP hgl (ds:=r) (fr:={ fr with defers:=ds' }) (cs:=cs) hm hr1 hH' hG hob;exact ⟨β2,H2,w',hle,(Steps.one hstep).trans hst,hH2,hG2,zg2⟩
   . exact hob.elim
theorem qxn (hP:B.P=c.P) {s:SF} {rest:List SF} {H:List SO} {β:Val} {fr:Frame} {frs:List Frame} {w:World} (hfn:fr.fn=s.fn) (hT:SV.zal β s.tmps=some fr.tmps.toList) (hm:fr.mode=.returning) (hd:fr.defers=[]) (hk:fr.kind=.normal)
  (hR:zat β rest frs) (hH:zac B.P B.O B.w0 β H w) (hG:zcD B β) (hl:((fr::frs).getLast?).map (·.fn)=some B.fn0) (hob:(q4q c s rest H go).Ob D S):After B go D S (lone fr (frs++B.cs) w):=by
 unfold q4q at hob;rw [qda] at hob;have hfn':B.P.funcs.toList[fr.fn]? = B.P.funcs[fr.fn]? := by simp
 rw [← hP,← hfn,hfn'] at hob;cases hfun:B.P.funcs[fr.fn]? with
 | none=>rw [hfun] at hob; exact hob.elim
 | some fn =>
   rw [hfun] at hob;simp only at hob;obtain ⟨v,⟨x,hv,hrun⟩,hob⟩:=R.zc7 (qt0 hH.toHeapRel0 hT fn) hob;exact q14 hR hH hG hv hl ⟨hm,hd,hk,fn,hfun,hrun⟩ hob
theorem qyn (hc:zaC c) (hP:B.P=c.P) (hgl:B.glob=c.glob) {v:SV} {x:Value} {H:List SO} {β:Val} {w:World} (hv:v.den β=some x) (hH:zac B.P B.O B.w0 β H w) (hG:zcD B β) :
  ∀ {ss:List SF} {fr:Frame} {frs:List Frame} {s:SF},zar β s fr->zat β ss frs->((fr::frs).getLast?).map (·.fn)=some B.fn0->(qyw c v H go (s::ss)).Ob D S ->
    After B go D S (lone { fr with mode:=.panicking [{ v:=x,recovered:=false }] } (frs++B.cs) w)
 | ss,fr,frs,s,hF,hR,hl,hob=>by
   replace hob:(qxw c v H go s ss (qyw c v H go ss)).Ob D S:=hob;unfold qxw at hob;split at hob
   . exact hob.elim
   . split at hob
     . rename_i hds;rw [qda] at hob;have hfn':B.P.funcs.toList[fr.fn]? = B.P.funcs[fr.fn]? := by simp
       rw [← hP,← hF.fn,hfn'] at hob;have hd:=hF.defers;rw [hds] at hd;have hd0:fr.defers=[]:=by simpa [SD.zal] using hd.symm
       cases hfun:B.P.funcs[fr.fn]? with
       | none=>rw [hfun] at hob; exact hob.elim
       | some fn =>
         rw [hfun] at hob;simp only [zao] at hob;cases ss with
         | nil=>exact hob.elim
         | cons s2 ss =>
           cases frs with
           | nil=>exact hR.elim
           | cons f2 frs =>
             have hlv:({ fr with mode:=.panicking [{ v:=x,recovered:=false }] }:Frame).leaving B.P w (.panicked [{ v:=x,recovered:=false }]):=⟨rfl,hd0,fn,hfun⟩
             have hst:=step_leave_panicked (c:=f2) (cs:=frs++B.cs) hlv;rw [Frame.raise_mode,hR.1.mode] at hst;refine .step hst (qyn hc hP hgl hv hH hG hR.1 hR.2 ?_ hob);rw [← q2e (f:=fr)]; exact hl
     . rename_i fn args captured ds hds;have hd:=hF.defers;rw [hds] at hd;simp only [SD.zal,Option.bind_eq_some_iff,Option.map_eq_some_iff] at hd;obtain ⟨d,hd1,ds',hr1,hr2⟩:=hd;obtain ⟨β1,H1,w1,hle1,zjK,hH1,hG1,zjL⟩:=qwn hc hP (cs:=frs++B.cs) (fr:={ fr with mode:=.panicking [{ v:=x,recovered:=false }] }) (az:=v::app args captured) (pick:=fun s=>s.2) hH hG hr2.symm (by simp) hd1
        (fun f s hs vs hvs=>(hc.zet f s hs).pan B.O B.w0 β H w _ v x _ vs (hP▸hH.toHeapRel0) (hgl▸hG.glob) hv hvs) hob
       obtain ⟨β2,H2,w2,hle2,zdT,hH2,hG2,zg2⟩:=qtf hc hP hgl (cs:=frs++B.cs) (fr:={ fr with defers:=ds',mode:=.returning }) rfl (SD.zan hle1 hr1) hH1 hG1 zjL;refine .of_steps (zjK.trans zdT) (qxn hP (fr:={ fr with defers:=[],mode:=.returning }) hF.fn (SV.zan (Val.le_trans hle1 hle2) _ hF.tmps) rfl rfl hF.kind (hR.mono (Val.le_trans hle1 hle2)) hH2 hG2 ?_ zg2)
       exact (qac (f:=fr) (f':={ fr with defers:=[],mode:=.returning }) (frs:=frs) rfl).trans hl
     . exact hob.elim
theorem qwm (hc:zaC c) (hP:B.P=c.P) (hgl:B.glob=c.glob) {s:SF} {rest:List SF} {H:List SO} {β:Val} {fr:Frame} {frs:List Frame} {w:World} (hF:zar β s fr) (hR:zat β rest frs) (hH:zac B.P B.O B.w0 β H w) (hG:zcD B β)
  (hl:((fr::frs).getLast?).map (·.fn)=some B.fn0) (htd:s.todo=[]\/∃ k,s.todo=.code .ret::k) (hob:(qxo c s rest H go).Ob D S):After B go D S (lone fr (frs++B.cs) w):=by
 unfold qxo at hob;have zbf:fr.todo=[]\/∃ k,fr.todo=.code .ret::k:=by
  have:=hF.todo;rcases htd with h | ⟨k,h⟩
  . rw [h] at this;cases hf:fr.todo with
    | nil=>exact .inl rfl
    | cons y k'=>rw [hf] at this; exact this.elim
  . rw [h] at this;cases hf:fr.todo with
    | nil=>rw [hf] at this; exact this.elim
    | cons y k' =>
      rw [hf] at this;obtain ⟨h1,_⟩:=this;cases y <;> first | exact h1.elim | skip
      exact .inr ⟨k',by rw [show _=Code.ret from h1]⟩
 cases hro:s.roundOf with
 | some nm =>
   rw [hro] at hob;simp only at hob;have zaE:=hF.round;rw [hro] at zaE;cases hfr:fr.roundOf with
   | none=>rw [hfr] at zaE; exact zaE.elim
   | some bl =>
     rw [hfr] at zaE;obtain ⟨l0,hl0,rfl⟩:=zaE;refine qyk hR hH hG hl hob fun l cc cs w' hb hrun => ?_
     rw [hl0] at hb; cases hb;rw [qvb hF.mode];rcases htd with h | ⟨k,h⟩
     . have ht:fr.todo=[]:=by
        rcases zbf with h' | ⟨k',h'⟩
        . exact h'
        . have:=hF.todo; rw [h,h'] at this; exact this.elim
       rw [h] at hrun ⊢;rw [ht];exact stepR_round_end hfr hF.kind hrun
     . obtain ⟨k',ht⟩:∃ k',fr.todo=.code .ret::k':=by
        rcases zbf with h' | h'
        . have:=hF.todo; rw [h,h'] at this; exact this.elim
        . exact h'
       rw [h] at hrun ⊢;rw [ht];exact stepR_round_ret hfr hF.kind hrun
 | none =>
   rw [hro] at hob;simp only at hob;have zaE:=hF.round;rw [hro] at zaE;have hfr:fr.roundOf=none:=by
    cases hfr:fr.roundOf with
    | none=>rfl
    | some bl=>rw [hfr] at zaE; exact zaE.elim
   have hstep:step B.P (lone fr (frs++B.cs) w)=.next (lone { fr.atR ⟨fr.tmps,fr.defers⟩ fr.todo with mode:=.returning } (frs++B.cs) w):=by
    rw [qvb hF.mode];rcases zbf with h' | ⟨k',h'⟩
    . rw [h']; exact stepR_end hfr
    . rw [h']; exact stepR_ret hfr
   refine .step hstep ?_
   obtain ⟨β',H',w',hle,hst,hH',hG',hob⟩:=qtf hc hP hgl (fr:={ fr.atR ⟨fr.tmps,fr.defers⟩ fr.todo with mode:=.returning }) (cs:=frs++B.cs) rfl hF.defers hH hG hob;refine .of_steps hst (qxn hP (fr:={ ({ fr.atR ⟨fr.tmps,fr.defers⟩ fr.todo with mode:=.returning }:Frame) with defers:=[] }) hF.fn (SV.zan hle _ hF.tmps) rfl rfl hF.kind (hR.mono hle) hH' hG' ((qac (f:=fr) (f':={ ({ fr.atR ⟨fr.tmps,fr.defers⟩ fr.todo with mode:=.returning }:Frame) with defers:=[] }) (frs:=frs) rfl).trans hl) hob)
end
end
noncomputable section
variable {α:Type}
section
variable {c:Cfg} {B:Base} {go:SS->Tree} {D:SV->List SO->Prop} {S:SS->Prop}
theorem qbj (v:SV):(∃ b,v=.bool b)\/∀ {γ:Type} (d:γ) (f:SB->γ),v.asBool d f=d:=by
 cases v <;> first | exact .inl ⟨_,rfl⟩ | exact .inr fun _ _=>rfl
theorem qxm (v:SV):(∃ b,v=.tuple b)\/∀ {γ:Type} (d:γ) (f:List SV->γ),v.asTuple d f=d:=by
 cases v <;> first | exact .inl ⟨_,rfl⟩ | exact .inr fun _ _=>rfl
theorem jma {β:Val} {o:Oper} {os:Array Oper} {T:List SV} {ts:Array Value} (hT:SV.zal β T=some ts.toList) {yes:List SV->Tree} {no:Tree} (hob:(q6q o.guard os T yes no).Ob D S) :
  (Region.wanted o (yielded os ts)=true/\∃ T',SV.zal β T'=some ts.toList/\(yes T').Ob D S)\/(Region.wanted o (yielded os ts)=false/\no.Ob D S):=by
 cases hg:o.guard with
 | none =>
   rw [hg] at hob;exact .inl ⟨by simp [Region.wanted,hg],T,hT,hob⟩
 | some p =>
   obtain ⟨j,want⟩:=p;rw [hg] at hob;replace hob:(zah (qeh os j) no fun d=>zah (nth T d) (.stuck 410) fun v=>v.asBool (qnk v no) fun b=>q5q b want T d yes no).Ob D S:=hob;have hdst:qeh os j=(os[j]?).bind (·.dst):=by
    unfold qeh;rw [qda,show os.toList[j]? = os[j]? from by simp]
    cases os[j]? <;> rfl
   rw [hdst] at hob;have hw:Region.wanted o (yielded os ts)=(yielded os ts j == some want):=by simp [Region.wanted,hg]
   rw [hw];cases hd:(os[j]?).bind (·.dst) with
   | none =>
     rw [hd] at hob;exact .inr ⟨by simp [yielded,hd],hob⟩
   | some d =>
     rw [hd] at hob;simp only [zao] at hob;rw [qda] at hob;cases hv:T[d]? with
     | none=>rw [hv] at hob; exact hob.elim
     | some v =>
       rw [hv] at hob;simp only [zao] at hob;obtain ⟨x,hx,hden⟩:=qlc hT hv;have hx':ts[d]? = some x:=by rw [← hx]; simp
       rcases qbj v with ⟨b,rfl⟩ | hnb
       . simp only [SV.den,Option.some.injEq] at hden;subst hden;have hy:yielded os ts j=some b.den:=by simp [yielded,hd,hx']
         rw [hy];replace hob:(q5q b want T d yes no).Ob D S:=hob;cases b with
         | lit b =>
           cases b <;> cases want <;> first
            | exact .inl ⟨rfl,T,hT,hob⟩
            | exact .inr ⟨rfl,hob⟩
         | sym b =>
           have hset:∀ q:Bool,b=q->SV.zal β (zbv T d (.bool (.lit q)))=some ts.toList:=by
            intro q hq;rw [quc];have h1:=q4i hT (n:=d) (v:=.bool (.lit q)) (x:=.bool b) (by simp [SV.den,SB.den,hq])
            rw [h1];congr 1;apply List.ext_getElem?;intro i;rw [List.getElem?_set];split
            . rename_i hi; subst hi;split
              . rw [hx]; rfl
              . rename_i hlt; rw [List.getElem?_eq_none (by omega)]
            . rfl
           cases b with
           | true =>
             have:=hob.1 rfl;cases want
             . exact .inr ⟨rfl,this⟩
             . exact .inl ⟨rfl,_,hset true rfl,this⟩
           | false =>
             have:=hob.2 rfl;cases want
             . exact .inl ⟨rfl,_,hset false rfl,this⟩
             . exact .inr ⟨rfl,this⟩
       . rw [hnb] at hob;rcases qxm v with ⟨l,rfl⟩ | hnt
         . cases l with
           | cons=>exact hob.elim
           | nil =>
             simp only [SV.den,SV.zal,Option.map_some,Option.some.injEq] at hden;subst hden;exact .inr ⟨by simp [yielded,hd,hx'],hob⟩
         . unfold qnk at hob;rw [hnt] at hob;exact hob.elim
theorem q7f {P:Program} {f:Frame} (hm:f.mode=.run) {os:Array Oper} {i:Nat} {rest:List Nat} {k:List Item} (htd:f.todo=.inRegion os (i::rest)::k) {o:Oper} (ho:os[i]? = some o) (hw:Region.wanted o (yielded os f.tmps)=true)
  (hnd:∀ c,o.op≠.defer c) {cs:List Frame} {w:World} :
  stepG P true { frame:=f,callers:=cs,status:=.running,dying:=none } w=stepG.apply P true f cs none (execOp (Act.eval ⟨f.tmps,f.defers⟩) o) w:=by
 have h:=stepGR_op (P:=P) (b:=f) (a:=⟨f.tmps,f.defers⟩) (k:=k) (cs:=cs) (w:=w) (rest:=rest) ho hw;rw [Oper.semAt_eq _ _ _ hnd,← htd,← qvb hm] at h;exact h
theorem qrd {P:Program} {f:Frame} {s:Sem Next} {cs:List Frame} {w w':World} {nx:Next} {v:Value}
  (h:stepG P true { frame:=f,callers:=cs,status:=.running,dying:=none } w=stepG.apply P true f cs none s w) (hr:s.run P w=.ok nx w') (hv:q1g nx=some v) :
  step P (lone f cs w)=.next (lone (f.finish v) cs w'):=by
 refine step_lone_go ?_
 rw [h];cases nx <;> simp [q1g] at hv <;> subst hv <;> simp [stepG.apply,Sem.runT_eq,hr,GStep.bare_after]
theorem q7l {P:Program} {f:Frame} {s:Sem Next} {cs:List Frame} {w w':World} {g:FuncId} {args:Array Value} (hk:∀ d a b c r,f.todo≠.call d a b c::r)
  (h:stepG P true { frame:=f,callers:=cs,status:=.running,dying:=none } w=stepG.apply P true f cs none s w) (hr:s.run P w=.ok (.enter g args) w') :
  step P (lone f cs w)=.next (lone (Frame.enter P g args .normal) (f::cs) w'):=by
 refine step_lone_go ?_
 rw [h];have:(match f.todo with | .call _ true _ _::_=>CallKind.wrapped | _=>CallKind.normal)=.normal:=by
  split
  . rename_i h'; exact absurd h' (hk _ _ _ _ _)
  . rfl
 simp [stepG.apply,Sem.runT_eq,hr,GStep.bare_after];exact congrArg (Frame.enter P g args) this
theorem q34 {P:Program} {f:Frame} {s:Sem Next} {cs:List Frame} {w w':World} {l:Nat} {g:FuncId} {ts:Array Value} {a b:Code}
  (h:stepG P true { frame:=f,callers:=cs,status:=.running,dying:=none } w=stepG.apply P true f cs none s w) (hr:s.run P w=.ok (.round l g ts a b) w') :
  step P (lone f cs w)=.next (lone (Frame.round l g ts a b .normal) (f::cs) w'):=by
 refine step_lone_go ?_
 rw [h];simp [stepG.apply,Sem.runT_eq,hr,GStep.bare_after]
theorem qz7 {β:Val}:∀ (ps:List Tmp) (T args:List SV) (ts:Array Value) (vs:List Value),SV.zal β T=some ts.toList->SV.zal β args=some vs ->
  SV.zal β (qyo T ps args)=some ((ps.zip vs).foldl (fun (ts:Array Value) (x:Tmp × Value)=>ts.setIfInBounds x.1 x.2) ts).toList:=by
 intro ps;induction ps with
 | nil=>intro T args ts vs hT _; simpa [qyo] using hT
 | cons p ps ih =>
   intro T args ts vs hT ha;cases args with
   | nil=>rw [zaN] at ha; subst ha; simpa [qyo] using hT
   | cons a args =>
     obtain ⟨x,xs,hx,hxs,rfl⟩:=zae.1 ha;simp only [qyo,List.zip_cons_cons,List.foldl_cons];refine ih _ _ _ _ ?_ hxs;rw [quc,Array.toList_setIfInBounds];exact q4i hT hx
theorem qfi {P:Program} {ev:Operand->SV} {H:List SO} {base:Nat} {o:Oper} {cc:Call} (hd:o.op=.defer cc):(∃ n,opS P ev H base o=.stuck n)\/∃ d,opS P ev H base o=.ok (.defer d):=by
 show (∃ n,opD o.op P ev H base=_)\/∃ d,opD o.op P ev H base=_;rw [hd];show (∃ n,q5m cc P ev H base=_)\/∃ d,q5m cc P ev H base=_;unfold q5m;split
 . rename_i f _;rcases qpg (ev f) with ⟨fn,xs,ys,h⟩ | h
   . rw [h]; exact .inr ⟨_,rfl⟩
   . rw [h]; exact .inl ⟨_,rfl⟩
 . exact .inl ⟨_,rfl⟩
theorem q07 (hc:zaC c) (hP:B.P=c.P) (hgl:B.glob=c.glob) {o:Oper} {l:List Oper} {os:Array Oper} {k:List zaK} {s:SF} {rest:List SF} {H:List SO} {β:Val} {fr:Frame} {frs:List Frame} {w:World} (hF:zar β s fr) (hR:zat β rest frs) (hH:zac B.P B.O B.w0 β H w) (hG:zcD B β)
  (hl:((fr::frs).getLast?).map (·.fn)=some B.fn0) (htd:s.todo=.ops os (o::l)::k) (hob:(opT o l os k s rest c H go).Ob D S):After B go D S (lone fr (frs++B.cs) w):=by
 have zbf:=hF.todo;rw [htd] at zbf;cases hft:fr.todo with
 | nil=>rw [hft] at zbf; exact zbf.elim
 | cons y k' =>
   rw [hft] at zbf;obtain ⟨hxy,hkk⟩:=zbf;cases y <;> first | exact hxy.elim | skip
   rename_i os' idx;obtain ⟨rfl,hat⟩:=hxy;cases idx with
   | nil=>exact hat.elim
   | cons i0 is0 =>
   obtain ⟨ho,hat⟩:=hat;have zdX:∀ (β':Val) (T':List SV) (v:SV) (x:Value),β.le β'->SV.zal β' T'=some fr.tmps.toList->v.den β'=some x->zar β' ⟨s.fn,zbU T' o.dst v,.ops os' l::k,s.defers,s.roundOf⟩ (fr.finish x)/\(fr.finish x).fn=fr.fn:=by
    intro β' T' v x hle hT' hv;have h1:zar β' ⟨s.fn,T',s.todo,s.defers,s.roundOf⟩ fr:=by
     have:=hF.mono hle;exact ⟨this.fn,hT',this.todo,this.defers,this.mode,this.kind,this.round⟩
    refine qqg h1 hv ?_
    show qwo s.todo _ v=_;rw [htd]; rfl
   unfold opT at hob;rcases jma hF.tmps hob with ⟨hw,T',hT',hob⟩ | ⟨hw,hob⟩
   . have zfx:∀ d:SD,qea B.P H β w H.length ((execOp (Act.eval ⟨fr.tmps,fr.defers⟩) o).run B.P w) (.defer d)->(resD (.defer d) ⟨c,⟨s.fn,T',s.todo,s.defers,s.roundOf⟩,rest,H,os',l,k,o.dst,go⟩).Ob D S->After B go D S (lone fr (frs++B.cs) w):=by
      intro d hr hob;obtain ⟨x,hx,hrun⟩:=hr;replace hob:(zah s.roundOf (go ⟨⟨s.fn,zbU T' o.dst qsa,.ops os' l::k,d::s.defers,s.roundOf⟩::rest,H⟩) fun _=>.stuck 412).Ob D S:=hob;cases hro:s.roundOf with
      | some nm=>rw [hro] at hob; exact hob.elim
      | none =>
        rw [hro] at hob;have zaE:=hF.round;rw [hro] at zaE;have hfr:fr.roundOf=none:=by
         cases hfr:fr.roundOf with
         | none=>rfl
         | some bl=>rw [hfr] at zaE; exact zaE.elim
        have hsg:=stepGR_op (P:=B.P) (b:=fr) (a:=⟨fr.tmps,fr.defers⟩) (k:=k') (cs:=frs++B.cs) (w:=w) (rest:=is0) ho hw;rw [hfr,Oper.semAt_none,← hft,← qvb hF.mode] at hsg;have hF1:zar β ⟨s.fn,T',s.todo,d::s.defers,s.roundOf⟩ { fr with defers:=x::fr.defers } :=
         ⟨hF.fn,hT',hF.todo,by simp only [SD.zal,hx,hF.defers,Option.bind_some,Option.map_some],hF.mode,hF.kind,hF.round⟩
        obtain ⟨h1,h2⟩:=qqg hF1 (v:=qsa) (x:=undef) (s':=⟨s.fn,zbU T' o.dst qsa,.ops os' l::k,d::s.defers,s.roundOf⟩) (by simp [qsa,SV.den,SV.zal,undef]) (by show qwo s.todo _ _=_; rw [htd]; rfl)
        rw [hro] at h1;refine ⟨_,.one (step_lone_go ?_),.inl ⟨_,hob,⟨β,({ fr with defers:=x::fr.defers }:Frame).finish undef,frs,w,rfl,⟨h1,hR⟩,hH,hG,by rw [qac h2]; exact (qac (f:=fr) (f':={ fr with defers:=x::fr.defers }) (frs:=frs) rfl).trans hl⟩⟩⟩
        rw [hsg];simp [stepG.apply,Sem.runT_eq,hrun,GStep.bare_after]
     by_cases hd:∃ cc,o.op=.defer cc
     . obtain ⟨cc,hd⟩:=hd;rw [qha] at hob;have hev:∀ x∈o.op.operands,(evS c.glob T' x).den β=some (Act.eval ⟨fr.tmps,fr.defers⟩ x):=fun x _=>qne (a:=⟨fr.tmps,fr.defers⟩) hT' (hgl▸hG.glob) x;have hsat:=qdf (hP▸hH.toHeapRel0) o hev (base:=H.length);have hdef:=qfi (P:=c.P) (ev:=evS c.glob T') (H:=H) (base:=H.length) hd;rcases hdef with ⟨n,hn⟩ | ⟨d,hdd⟩
       . rw [hn] at hob; exact hob.elim
       rw [hdd] at hsat hob;have hr:=hsat;replace hr:qea c.P H β w H.length _ (.defer d):=hr;rw [← hP] at hr;exact zfx d hr hob
     . have hnd:∀ cc,o.op≠.defer cc:=fun cc h=>hd ⟨cc,h⟩;have hsg:=q7f (P:=B.P) hF.mode hft ho hw hnd (cs:=frs++B.cs) (w:=w);rw [qha] at hob;have hev:∀ x∈o.op.operands,(evS c.glob T' x).den β=some (Act.eval ⟨fr.tmps,fr.defers⟩ x):=fun x _=>qne (a:=⟨fr.tmps,fr.defers⟩) hT' (hgl▸hG.glob) x;obtain ⟨r,hr,hob⟩:=R.zc7 (qdf (hP▸hH.toHeapRel0) o hev) hob;rw [← hP] at hr;cases r with
       | val v sets news =>
         obtain ⟨nx,x,w',β',hrun,hnx,hv,hE,hown⟩:=hr fun i _=>hH.bound _ (Nat.le_add_right _ _);obtain ⟨h1,h2⟩:=zdX β' T' v x hE.le (SV.zan hE.le _ hT') hv;exact ⟨_,.one (qrd hsg hrun hnx),.inl ⟨_,hob,⟨β',_,frs,w',rfl,⟨h1,hR.mono hE.le⟩,hH.apply hE hown,hG.mono hE.le,by rw [qac h2]; exact hl⟩⟩⟩
       | enter f args =>
         obtain ⟨vs,ha,hrun⟩:=hr;have hF':zar β ⟨s.fn,T',s.todo,s.defers,s.roundOf⟩ fr:=⟨hF.fn,hT',hF.todo,hF.defers,hF.mode,hF.kind,hF.round⟩;refine qvn hc hP hgl hF' hR hH hG hl ha hob (fun he => ?_) fun v w' he => ?_
         . exact .one (q7l (by rw [hft]; intros; simp) hsg (hrun.trans he))
         . exact .one (qrd hsg (hrun.trans he) rfl)
       | round nm args =>
         obtain ⟨ll,vs,hb,ha,hrun⟩:=hr;replace hob:(qzw nm args ⟨s.fn,T',s.todo,s.defers,s.roundOf⟩ rest H go).Ob D S:=hob;unfold qzw at hob;split at hob
         . rename_i st p f T ps a b d hloop;split at hob
           . rename_i hlen;obtain ⟨l',r',hb',hh,_,_,hfn,hTT,hps,hass,hbod,_,_⟩:=q0h hH (qpf hloop);rw [hb] at hb'; cases hb';have hsz:vs.toArray.size=r'.params.size:=by
              rw [qha,qha] at hlen;rw [hps]; have:=qra ha; simp at hlen ⊢; omega
             have hy:=run_yield (P:=B.P) (args:=vs.toArray) hh hsz;have hF':zar β ⟨s.fn,T',s.todo,s.defers,s.roundOf⟩ fr:=⟨hF.fn,hT',hF.todo,hF.defers,hF.mode,hF.kind,hF.round⟩;refine ⟨_,.one (q34 hsg (hrun.trans hy)),.inl ⟨_,hob,⟨β,_,fr::frs,w,rfl,⟨⟨hfn,?_,?_,rfl,rfl,rfl,⟨ll,hb,rfl⟩⟩,hF',hR⟩,hH,hG,by rw [q2e]; exact hl⟩⟩⟩
             . have e:((r'.params.zip vs.toArray).foldl (fun (ts:Array Value) (x:Tmp × Value)=>ts.setIfInBounds x.1 x.2) r'.tmps)=(ps.toList.zip vs).foldl (fun (ts:Array Value) (x:Tmp × Value)=>ts.setIfInBounds x.1 x.2) r'.tmps:=by
                rw [← Array.foldl_toList,Array.toList_zip,hps]
               exact (qz7 ps.toList T args r'.tmps vs hTT ha).trans (congrArg (fun z:Array Value=>some z.toList) e.symm)
             . show za0 β [.code a,.beginRound,.code b] [.code r'.assign,.beginRound,.code r'.body];rw [hass,hbod]; exact ⟨rfl,trivial,rfl,trivial⟩
           . exact hob.elim
         . exact hob.elim
       | defer d=>exact zfx d hr hob
       | panic v =>
         obtain ⟨x,hx,hrun⟩:=hr;have hF':zar β ⟨s.fn,T',s.todo,s.defers,s.roundOf⟩ fr:=⟨hF.fn,hT',hF.todo,hF.defers,hF.mode,hF.kind,hF.round⟩;refine .step (m1:=lone { fr with mode:=.panicking [{ v:=x,recovered:=false }] } (frs++B.cs) w) (step_lone_go ?_) (qyn hc hP hgl hx hH hG hF' hR hl hob)
         rw [hsg];have:=Frame.raise_mode fr [{ v:=x,recovered:=false }];rw [hF.mode] at this;simp [stepG.apply,Sem.runT_eq,hrun,GStep.bare_after,this,raised]
       | touch v nm =>
         obtain ⟨nx,x,w',e,hrun,hnx,hv,he,heo,hE⟩:=hr;obtain ⟨h1,h2⟩:=zdX β T' v x (Val.le_refl β) hT' hv;have hH':zac B.P B.O B.w0 β H w':=by
          have:=hH.apply (hE.zcf (b:=H.length)) (by intro n e' hn; simp at hn; obtain ⟨rfl,rfl⟩:=hn; exact ⟨e',he,heo,.refl _⟩)
          rwa [qoc,List.append_nil,qei he] at this
         exact ⟨_,.one (qrd hsg hrun hnx),.inl ⟨_,hob,⟨β,_,frs,w',rfl,⟨h1,hR⟩,hH',hG,by rw [qac h2]; exact hl⟩⟩⟩
   ·
    obtain ⟨h1,h2⟩:=zdX β s.tmps qsa undef (Val.le_refl β) hF.tmps (by simp [qsa,SV.den,SV.zal,undef])
    refine ⟨_,.one (step_lone_go ?_),.inl ⟨_,hob,⟨β,fr.finish undef,frs,w,rfl,⟨h1,hR⟩,hH,hG,by rw [qac h2]; exact hl⟩⟩⟩
    have hg:((os'[i0]?).map (Region.wanted · (yielded os' fr.tmps))).getD false=false:=by rw [ho]; exact hw
    simp [stepG,stepG.exec,hft,hF.mode,hg]
end
end
noncomputable section
variable {α:Type}
def R.Leaf (r:R α) (a:α):Prop :=
 match r with
 | .ok b=>a=b
 | .need p r=>p/\r.Leaf a
 | .fork b t f=>(b=true/\t.Leaf a)\/(b=false/\f.Leaf a)
 | .stuck _=>False
 | .any _=>False
theorem R.zbE {r:R α} {k:α->Tree} {D:SV->List SO->Prop} {S:SS->Prop} (ho:(r.zdM k).Ob D S):∃ a,r.Leaf a/\(k a).Ob D S:=by
 induction r with
 | ok a=>exact ⟨a,rfl,ho⟩
 | need p r ih=>obtain ⟨a,h1,h2⟩:=ih ho.2; exact ⟨a,⟨ho.1,h1⟩,h2⟩
 | fork b t f iht ihf =>
   cases b with
   | true=>obtain ⟨a,h1,h2⟩:=iht (ho.1 rfl); exact ⟨a,.inl ⟨rfl,h1⟩,h2⟩
   | false=>obtain ⟨a,h1,h2⟩:=ihf (ho.2 rfl); exact ⟨a,.inr ⟨rfl,h1⟩,h2⟩
 | stuck n=>exact ho.elim
 | any k ih=>exact ho.elim
theorem R.zbr {r:R α} {φ:α->Prop} {a:α} (h:r.Sat φ) (hl:r.Leaf a):φ a:=by
 induction r with
 | ok b=>rw [show a=b from hl]; exact h
 | need p r ih=>exact ih (h hl.1) hl.2
 | fork b t f iht ihf =>
   rcases hl with ⟨hb,hl⟩ | ⟨hb,hl⟩
   . exact iht (h.1 hb) hl
   . exact ihf (h.2 hb) hl
 | stuck n=>exact hl.elim
 | any k ih=>exact hl.elim
def zbg (T:List SV) (t:Nat):SV:=(nth T t).getD qsa
structure AgreeOn (β:Val) (T:List SV) (ts:Array Value) (l:List Nat):Prop where
 size:ts.size=T.length
 at_:∀ t∈l,(zbg T t).den β=some (ts.getD t undef)
structure zce (T T':List SV):Prop where
 len:T'.length=T.length
 den:∀ β t,(zbg T' t).den β=(zbg T t).den β
theorem zce.refl (T:List SV):zce T T:=⟨rfl,fun _ _=>rfl⟩
theorem q8l (T:List SV) (d t:Nat) (v:SV):zbg (zbv T d v) t=if t=d/\d<T.length then v else zbg T t:=by
 unfold zbg;rw [qda,qda,quc,List.getElem?_set];by_cases h:t=d
 . subst h;by_cases h2:t<T.length
   . simp [h2]
   . simp [h2]
 . simp [h,Ne.symm h]
theorem q7s {l r:List Nat} {x:Nat}:x∈app l r↔x∈l\/x∈r:=by rw [q7a,List.mem_append]
theorem qu0 {os:Array Oper} {o:Oper} {j:Nat} {want:Bool} {d:Nat} (hg:o.guard=some (j,want)) (hd:(os[j]?).bind (·.dst)=some d):d∈qsb os o:=by
 unfold qsb;rw [q7s];left;rw [hg];have:qeh os j=some d:=by
  unfold qeh;rw [qda,show os.toList[j]? = os[j]? from by simp]
  cases h:os[j]? with
  | none=>rw [h] at hd; cases hd
  | some o'=>rw [h] at hd; exact hd
 simp [this]
theorem q9h {os:Array Oper} {o:Oper} {t:Nat} (h:.tmp t∈o.op.operands):t∈qsb os o:=by
 unfold qsb;rw [q7s];right;have h':.tmp t∈o.op.operands.toList:=by simpa using h
 generalize o.op.operands.toList=l at h';induction l with
 | nil=>cases h'
 | cons x l ih =>
   show t∈app (qm1 x) _;rw [q7s];rcases List.mem_cons.1 h' with rfl | h''
   . left; exact List.mem_cons_self
   . right; exact ih h''
theorem q8f {ts:Array Value} {d:Nat} {x:Value} (h:d<ts.size) (hx:ts.getD d undef=x):ts[d]? = some x:=by
 rw [Array.getD_eq_getD_getElem?,Array.getElem?_eq_getElem h] at hx;rw [Array.getElem?_eq_getElem h]; exact congrArg some hx
section
variable {c:Cfg} {D:SV->List SO->Prop} {S:SS->Prop}
theorem q0r {o:Oper} {os:Array Oper} {T:List SV} {yes:List SV->Tree} {no:Tree} (hob:(q6q o.guard os T yes no).Ob D S) :
  (∃ T',zce T T'/\(∀ β ts,AgreeOn β T' ts (qsb os o)->Region.wanted o (yielded os ts)=true)/\(yes T').Ob D S) \/
  ((∀ β ts,AgreeOn β T ts (qsb os o)->Region.wanted o (yielded os ts)=false)/\no.Ob D S):=by
 cases hg:o.guard with
 | none =>
   rw [hg] at hob;exact .inl ⟨T,.refl T,fun β ts _=>by simp [Region.wanted,hg],hob⟩
 | some p =>
   obtain ⟨j,want⟩:=p;rw [hg] at hob;replace hob:(zah (qeh os j) no fun d=>zah (nth T d) (.stuck 410) fun v=>v.asBool (qnk v no) fun b=>q5q b want T d yes no).Ob D S:=hob;have hdst:qeh os j=(os[j]?).bind (·.dst):=by
    unfold qeh;rw [qda,show os.toList[j]? = os[j]? from by simp]
    cases os[j]? <;> rfl
   rw [hdst] at hob;have hw:∀ ts,Region.wanted o (yielded os ts)=(yielded os ts j == some want):=fun ts=>by simp [Region.wanted,hg]
   cases hd:(os[j]?).bind (·.dst) with
   | none =>
     rw [hd] at hob;exact .inr ⟨fun β ts _=>by rw [hw]; simp [yielded,hd],hob⟩
   | some d =>
     have hmem:=qu0 hg hd;rw [hd] at hob;simp only [zao] at hob;cases hv:nth T d with
     | none=>rw [hv] at hob; exact hob.elim
     | some v =>
       rw [hv] at hob;simp only [zao] at hob;have hdlt:d<T.length:=by
        rw [qda] at hv; exact (List.getElem?_eq_some_iff.1 hv).1
       have hgv:zbg T d=v:=by unfold zbg; rw [hv]; rfl
       have zgt:∀ β ts (T':List SV) (x:Value),AgreeOn β T' ts (qsb os o)->T'.length=T.length->(zbg T' d).den β=some x->ts[d]? = some x:=by
        intro β ts T' x ha hl hx;have:=ha.at_ d hmem;rw [hx] at this;exact q8f (by rw [ha.size,hl]; exact hdlt) (Option.some.inj this).symm
       rcases qbj v with ⟨b,rfl⟩ | hnb
       . replace hob:(q5q b want T d yes no).Ob D S:=hob;have hy:∀ β ts (T':List SV) (q:Bool),AgreeOn β T' ts (qsb os o)->T'.length=T.length->(zbg T' d).den β=some (.bool q)->yielded os ts j=some q:=by
          intro β ts T' q ha hl hx;have:=zgt β ts T' _ ha hl hx;simp [yielded,hd,this]
         cases b with
         | lit b =>
           have hyl:∀ β ts,AgreeOn β T ts (qsb os o)->yielded os ts j=some b:=fun β ts ha=>hy β ts T b ha rfl (by rw [hgv]; rfl)
           cases b <;> cases want <;> first
            | exact .inl ⟨T,.refl T,fun β ts ha=>by rw [hw,hyl β ts ha]; rfl,hob⟩
            | exact .inr ⟨fun β ts ha=>by rw [hw,hyl β ts ha]; rfl,hob⟩
         | sym b =>
           have hsd:∀ q:Bool,b=q->zce T (zbv T d (.bool (.lit q))):=by
            intro q hq;refine ⟨by rw [quc]; simp,fun β t => ?_⟩
            rw [q8l];split
            . rename_i h; rw [h.1,hgv,hq]; rfl
            . rfl
           have hyq:∀ q:Bool,b=q->∀ β ts,AgreeOn β (zbv T d (.bool (.lit q))) ts (qsb os o)->yielded os ts j=some q:=fun q hq β ts ha =>
            hy β ts _ q ha (hsd q hq).len (by rw [q8l,if_pos ⟨rfl,hdlt⟩]; rfl)
           have hyl:∀ q:Bool,b=q->∀ β ts,AgreeOn β T ts (qsb os o)->yielded os ts j=some q:=fun q hq β ts ha=>hy β ts T q ha rfl (by rw [hgv,← hq]; rfl)
           cases b with
           | true =>
             have:=hob.1 rfl;cases want
             . exact .inr ⟨fun β ts ha=>by rw [hw,hyl true rfl β ts ha]; rfl,this⟩
             . exact .inl ⟨_,hsd true rfl,fun β ts ha=>by rw [hw,hyq true rfl β ts ha]; rfl,this⟩
           | false =>
             have:=hob.2 rfl;cases want
             . exact .inl ⟨_,hsd false rfl,fun β ts ha=>by rw [hw,hyq false rfl β ts ha]; rfl,this⟩
             . exact .inr ⟨fun β ts ha=>by rw [hw,hyl false rfl β ts ha]; rfl,this⟩
       . rw [hnb] at hob;rcases qxm v with ⟨l,rfl⟩ | hnt
         . cases l with
           | cons=>exact hob.elim
           | nil =>
             refine .inr ⟨fun β ts ha => ?_,hob⟩;have:=zgt β ts T (.tuple #[]) ha rfl (by rw [hgv]; rfl)
             rw [hw]; simp [yielded,hd,this]
         . unfold qnk at hob;rw [hnt] at hob;exact hob.elim
inductive Fct where
 | skip
 | run (v:SV) (N:List SO) (base:Nat) (sets:List (Nat × SO))
 | touch (v:SV) (nm:Nat)
def Fct.val:Fct->SV
 | .skip=>qsa
 | .run v _ _ _=>v
 | .touch v _=>v
def Fct.news:Fct->List SO
 | .skip=>[]
 | .run _ N _ _=>N
 | .touch _ _=>[]
def Fct.sets:Fct->List (Nat × SO)
 | .skip=>[]
 | .run _ _ _ s=>s
 | .touch _ _=>[]
def qcj (P:Program) (glob:Nat->Option Nat) (H:List SO) (os:Array Oper) (o:Oper) (T:List SV):Fct->Prop
 | .skip=>∀ β ts,AgreeOn β T ts (qsb os o)->Region.wanted o (yielded os ts)=false
 | .run v N base sets=>∀ β ts,AgreeOn β T ts (qsb os o)->Region.wanted o (yielded os ts)=true /\
   ∀ (O:Nat->Prop) (w0 w:World),HeapRel0 P O w0 β H w->zaD glob β->Free β base N ->
     ∀ (f:Frame) (cs:List Frame) (i:Nat) (rest:List Nat) (k:List Item),f.mode=.run->f.todo=.inRegion os (i::rest)::k->os[i]? = some o->f.tmps=ts ->
       ∃ x w' β',v.den β'=some x/\Eff P β w base sets N β' w'/\(∀ n e,(n,e)∈sets->qhh H n e)/\Steps P (lone f cs w) (lone (f.finish x) cs w')
 | .touch v nm=>∀ β ts,AgreeOn β T ts (qsb os o)->Region.wanted o (yielded os ts)=true /\
   ∀ (O:Nat->Prop) (w0 w:World),HeapRel0 P O w0 β H w->zaD glob β ->
     ∀ (f:Frame) (cs:List Frame) (i:Nat) (rest:List Nat) (k:List Item),f.mode=.run->f.todo=.inRegion os (i::rest)::k->os[i]? = some o->f.tmps=ts ->
       ∃ x w' e,v.den β=some x/\H[nm]? = some e/\e.owned=true/\Eff P β w 0 [(nm,e)] [] β w'/\Steps P (lone f cs w) (lone (f.finish x) cs w')
theorem q17 {v:SV} {news:List SO} {p:zeo} {dst:Option Tmp} {T:List SV} {N:List (Nat × SO)} {next:List SV->List (Nat × SO)->Tree} (h:(q1w v news p dst T N next).Ob D S):news.length<=1/\(next (zbU T dst v) (N++news.map fun e=>(p.i,e))).Ob D S:=by
 unfold q1w at h;split at h
 . exact ⟨by simp,by rw [List.map_nil,List.append_nil]; exact h⟩
 . exact ⟨by simp,by rw [← q7a]; exact h⟩
 . exact h.elim
theorem qwf {α:Type} {p:α->Bool} {l:List α} (h:zaO p l=true):∀ x∈l,p x=true:=by
 induction l with
 | nil=>intro x hx; cases hx
 | cons a r ih =>
   obtain ⟨h1,h2⟩:p a=true/\zaO p r=true:=by
    replace h:zab (p a) (zaO p r) false=true:=h;cases hp:p a with
    | true=>rw [hp] at h; exact ⟨rfl,h⟩
    | false=>rw [hp] at h; cases h
   intro x hx;rcases List.mem_cons.1 hx with rfl | hx
   . exact h1
   . exact ih h2 x hx
def q1o (x:zcn) (m last:Nat) (L:List (Nat × SO)) (n:Nat):Prop :=
 x.H.length<=n/\∃ j e0,L[n - x.H.length]? = some (j,e0)/\m.testBit j=true/\∀ i,i<last->m.testBit i=true\/(((qca x.os.toList [])[i]?).getD 0).testBit j=false
structure zeg (x:zcn) (p:zeo) (N:List (Nat × SO)) (sets:List (Nat × SO)):Prop where
 last:p.last=true
 mL:x.mL=some p.m
 hid:∀ n e,(n,e)∈sets->ze2 x.H n=true\/q1o x p.m p.i N n
theorem qv0 {x:zcn} {p:zeo} {N:List (Nat × SO)} {n:Nat} (h:qok x p N n=true):q1o x p.m p.i N n:=by
 unfold qok at h;rw [qha] at h;cases hb:Nat.ble x.H.length n with
 | false=>rw [hb] at h; cases h
 | true =>
   rw [hb,zak,qda] at h;have hle:=Nat.le_of_ble_eq_true hb;have h:(zah N[n - x.H.length]? false fun q=>q7q (qca x.os.toList []) p.m p.i q.1)=true:=h;cases hN:N[n - x.H.length]? with
   | none=>rw [hN] at h; cases h
   | some q =>
     rw [hN] at h;have h:q7q (qca x.os.toList []) p.m p.i q.1=true:=h;unfold q7q at h;cases hj:zbH p.m q.1 with
     | false=>rw [hj] at h; cases h
     | true =>
       rw [hj,zak] at h;refine ⟨hle,q.1,q.2,hN,hj,fun i hi => ?_⟩;have:=qwf h i (by rw [qpd,List.mem_range'_1]; omega)
       have this:zab (zbH p.m i) true (zab (zbH (zah (nth (qca x.os.toList []) i) 0 fun k=>k) q.1) false true)=true:=this;cases hi':zbH p.m i with
       | true=>exact .inl hi'
       | false =>
         right;rw [hi',zam,qda] at this;have e:(zah (qca x.os.toList [])[i]? 0 fun k=>k)=((qca x.os.toList [])[i]?).getD 0:=by cases (qca x.os.toList [])[i]? <;> rfl
         rw [e] at this;cases hk:zbH (((qca x.os.toList [])[i]?).getD 0) q.1 with
         | false=>exact hk
         | true=>rw [hk] at this; cases this
theorem qbq {v:SV} {sets:List (Nat × SO)} {news:List SO} {x:zcn} {p:zeo} {dst:Option Tmp} {T:List SV} {N:List (Nat × SO)} {next:List SV->List (Nat × SO)->Tree} (h:(qml v sets news x p dst T N next).Ob D S) :
  (sets=[]/\news.length<=1/\(next (zbU T dst v) (N++news.map fun e=>(p.i,e))).Ob D S)\/(sets≠[]/\news=[]/\zeg x p N sets/\(x.fin (zbU T dst v) (N.map (·.2)) sets).Ob D S):=by
 unfold qml at h;split at h
 . exact .inl ⟨rfl,q17 h⟩
 . rename_i hne;right;unfold qu6 at h;split at h
   . cases hl:p.last with
     | false=>rw [hl] at h; exact h.elim
     | true =>
       rw [hl] at h;cases hm:x.mL with
       | none=>rw [hm] at h; exact h.elim
       | some m =>
         rw [hm] at h;replace h:(zab (Nat.beq m p.m) (zab (zaO (fun q=>zab (ze2 x.H q.1) true (qok x p N q.1)) sets) (x.fin (zbU T dst v) (zas (fun p=>p.2) N) sets) (.stuck 436)) (.stuck 437)).Ob D S:=h;cases hb:Nat.beq m p.m with
         | false=>rw [hb] at h; exact h.elim
         | true =>
           rw [hb] at h;cases ha:zaO (fun q=>zab (ze2 x.H q.1) true (qok x p N q.1)) sets with
           | false=>rw [ha] at h; exact h.elim
           | true =>
             rw [ha] at h;replace h:(x.fin (zbU T dst v) (zas (fun p=>p.2) N) sets).Ob D S:=h;rw [qxa] at h;refine ⟨fun he=>hne he,rfl,⟨hl,by rw [Nat.eq_of_beq_eq_true hb] at hm; exact hm,fun n e hn => ?_⟩,h⟩
             have:=qwf ha _ hn;have this:zab (ze2 x.H n) true (qok x p N n)=true:=this;cases hh:ze2 x.H n with
             | true=>exact .inl rfl
             | false=>rw [hh,zam] at this; exact .inr (qv0 this)
   . exact h.elim
theorem jna (H:List SO) (m:Nat) (N:List (Nat × SO)):qzo H m N=H++q1v m N:=by
 cases N with
 | nil=>show H=H++[]; rw [List.append_nil]
 | cons a r=>show app H (q1v m (a::r))=_; rw [q7a]
theorem j4e {x:zcn} (hc:zaC x.c) {o:Oper} {p:zeo} {T:List SV} {N:List (Nat × SO)} {next:List SV->List (Nat × SO)->Tree} (h:(zhO o x p T N next).Ob D S) :
  ∃ T' f,zce T T'/\qcj x.c.P x.c.glob (qzo (x.atI p.i p.last) p.m N) x.os o T' f/\((f.sets=[]/\(next (zbU T' o.dst f.val) (N++f.news.map fun e=>(p.i,e))).Ob D S)\/(f.sets≠[]/\f.news=[]/\zeg x p N f.sets/\(x.fin (zbU T' o.dst f.val) (N.map (·.2)) f.sets).Ob D S))/\f.news.length<=1/\∀ v M b s,f=.run v M b s->b=x.H.length+N.length:=by
 unfold zhO at h;rcases q0r h with ⟨T',hsd,hwant,h⟩ | ⟨hwant,h⟩
 . obtain ⟨r,zbs,h⟩:=R.zbE h;have hnd:∀ cc,o.op≠.defer cc:=by
    intro cc hd;rcases qfi (P:=x.c.P) hd with ⟨n,hn⟩ | ⟨d,hn⟩
    . rw [hn] at zbs; exact zbs
    . rw [hn] at zbs;obtain rfl:r=.defer d:=zbs;exact (show False from h)
   have hbase:Nat.add (zay x.H) (zay N)=x.H.length+N.length:=by rw [qha,qha]; rfl
   rw [hbase] at zbs;have hev:∀ (β:Val) (ts:Array Value) (ds:List Deferred),AgreeOn β T' ts (qsb x.os o)->zaD x.c.glob β->∀ y∈o.op.operands,(evS x.c.glob T' y).den β=some (Act.eval ⟨ts,ds⟩ y):=by
    intro β ts ds ha hG y hy;cases y with
    | tmp t =>
      have h1:=ha.at_ t (q9h hy);have e:evS x.c.glob T' (.tmp t)=zbg T' t:=by
       show zah (nth T' t) qsa (fun v=>v)=_;unfold zbg; cases nth T' t <;> rfl
      rw [e]; exact h1
    | const v=>exact qog β v
    | global g =>
      show (qjg g x.c.glob T').den β=_;unfold qjg;split
      . rename_i nm h;obtain ⟨l,h1,h2,h3⟩:=hG g nm h;simp [SV.den,SA.den,h1,h2,h3,SN.den,Act.eval]
      . rfl
    | func f=>rfl
   cases r with
   | val v sets news =>
     have hor:=qbq (x:=x) (D:=D) (S:=S) (show (qml v sets news x p o.dst T' N next).Ob D S from h)
     have hn:news.length<=1:=by rcases hor with ⟨_,hn,_⟩ | ⟨_,hn,_⟩ <;> first | exact hn | (have hn:news=[]:=hn; simp [hn])
     refine ⟨T',.run v news (x.H.length+N.length) sets,hsd,?_,hor.imp (fun h=>⟨h.1,h.2.2⟩) id,hn,fun _ _ _ _ e=>by cases e; rfl⟩
     intro β ts ha;refine ⟨hwant β ts ha,fun O w0 w hH hG hfree f cs i rest k hm htd ho hts => ?_⟩;subst hts;have hsg:=q7f (P:=x.c.P) hm htd ho (hwant β f.tmps ha) hnd (cs:=cs) (w:=w);obtain ⟨nx,y,w',β',hrun,hnx,hv,hE,hso⟩:=R.zbr (qdf hH o (hev β f.tmps f.defers ha hG)) zbs hfree;exact ⟨y,w',β',hv,hE,hso,.one (qrd hsg hrun hnx)⟩
   | enter g args =>
     replace h:(qws g args x p o.dst T' N next).Ob D S:=h
     unfold qws at h;split at h
     . rename_i sm hsm;obtain ⟨r,zdv,h⟩:=R.zbE h;rw [hbase] at zdv;obtain ⟨v,sets,news⟩:=r;have hor:=qbq (x:=x) (D:=D) (S:=S) h;have hn:news.length<=1:=by rcases hor with ⟨_,hn,_⟩ | ⟨_,hn,_⟩ <;> first | exact hn | (have hn:news=[]:=hn; simp [hn])
       refine ⟨T',.run v news (x.H.length+N.length) sets,hsd,?_,hor.imp (fun h=>⟨h.1,h.2.2⟩) id,hn,fun _ _ _ _ e=>by cases e; rfl⟩
       intro β ts ha;refine ⟨hwant β ts ha,fun O w0 w hH hG hfree f cs i rest k hm htd ho hts => ?_⟩;subst hts;have hsg:=q7f (P:=x.c.P) hm htd ho (hwant β f.tmps ha) hnd (cs:=cs) (w:=w);obtain ⟨vs,hvs,hrun⟩:=R.zbr (qdf hH o (hev β f.tmps f.defers ha hG)) zbs;obtain ⟨hso,hcall⟩:=R.zbr (hc.sums g sm hsm O w0 β (qzo (x.atI p.i p.last) p.m N) w _ args vs hH hG hvs) zdv hfree;rcases hcall with ⟨⟨fn,hfn,hb⟩,hcall⟩ | ⟨v',w',β',zfX,hv,hE⟩
       . obtain ⟨e,w',fr',⟨v',β',rfl,hv,hE⟩,hcomes,_,hleave⟩:=hcall (f::cs);exact ⟨v',w',β',hv,hE,hso,.trans (.one (q7l (by rw [htd]; intros; simp) hsg (hrun.trans (qjd hc.prog hfn hb _ _)))) (.trans hcomes (.one (step_leave_returned hleave)))⟩
       . exact ⟨v',w',β',hv,hE,hso,.one (qrd hsg (hrun.trans zfX) rfl)⟩
     . exact h.elim
   | round nm args=>exact h.elim
   | defer d=>exact h.elim
   | panic v=>exact h.elim
   | touch v nm =>
     have hor:=qbq (x:=x) (D:=D) (S:=S) (show (qml v [] [] x p o.dst T' N next).Ob D S from h)
     refine ⟨T',.touch v nm,hsd,?_,hor.imp (fun h=>⟨h.1,h.2.2⟩) (fun h=>absurd rfl h.1),by simp [Fct.news],fun _ _ _ _ e=>by cases e⟩
     intro β ts ha;refine ⟨hwant β ts ha,fun O w0 w hH hG f cs i rest k hm htd ho hts => ?_⟩;subst hts;have hsg:=q7f (P:=x.c.P) hm htd ho (hwant β f.tmps ha) hnd (cs:=cs) (w:=w);obtain ⟨nx,y,w',e,hrun,hnx,hv,he,heo,hE⟩:=R.zbr (qdf (base:=x.H.length+N.length) hH o (hev β f.tmps f.defers ha hG)) zbs;exact ⟨y,w',e,hv,he,heo,hE.zcf,.one (qrd hsg hrun hnx)⟩
 . exact ⟨T,.skip,.refl T,hwant,.inl ⟨rfl,by rw [show Fct.news .skip=[] from rfl,List.map_nil,List.append_nil]; exact h⟩,by simp [Fct.news],fun _ _ _ _ e=>by cases e⟩
end
end
noncomputable section
variable {α:Type}
theorem qzn (acc:List Nat) (es:List Edge) (j:Nat) (h:(qhd acc es).testBit j=true):∃ e∈es,Region.binds .any e=true/\(j=e.on\/∃ m,acc[e.on]? = some m/\m.testBit j=true):=by
 induction es with
 | nil=>simp [qhd] at h
 | cons e es ih =>
   replace h:(zab (Region.binds .any e) (Nat.lor (Nat.lor (Nat.pow 2 e.on) (zah (nth acc e.on) 0 fun m=>m)) (qhd acc es)) (qhd acc es)).testBit j=true:=h;cases hb:Region.binds .any e with
   | false =>
     rw [hb,zam] at h;obtain ⟨e',h1,h2⟩:=ih h;exact ⟨e',List.mem_cons_of_mem _ h1,h2⟩
   | true =>
     rw [hb,zak] at h;replace h:(2 ^ e.on ||| (zah (nth acc e.on) 0 fun m=>m) ||| qhd acc es).testBit j=true:=h;rw [Nat.testBit_or,Nat.testBit_or,Bool.or_eq_true,Bool.or_eq_true] at h;rcases h with (h | h) | h
     . rw [Nat.testBit_two_pow] at h;exact ⟨e,List.mem_cons_self,hb,.inl (by simpa using (of_decide_eq_true h).symm)⟩
     . refine ⟨e,List.mem_cons_self,hb,.inr ?_⟩;rw [qda] at h;cases hm:acc[e.on]? with
       | none=>rw [hm] at h; simp [zah] at h
       | some m=>rw [hm] at h; exact ⟨m,rfl,h⟩
     . obtain ⟨e',h1,h2⟩:=ih h;exact ⟨e',List.mem_cons_of_mem _ h1,h2⟩
theorem qcd:∀ (ops:List Oper) (acc:List Nat),(qca ops acc).take acc.length=acc/\(qca ops acc).length=acc.length+ops.length /\
  ∀ (i:Nat) (o:Oper),ops[i]? = some o->(qca ops acc)[acc.length+i]? = some (qhd ((qca ops acc).take (acc.length+i)) o.after.toList):=by
 intro ops;induction ops with
 | nil=>intro acc; exact ⟨List.take_length,rfl,by simp⟩
 | cons o r ih =>
   intro acc;have e:qca (o::r) acc=qca r (acc++[qhd acc o.after.toList]):=by
    show qca r (app acc _)=_;rw [q7a]
   rw [e];obtain ⟨h1,h2,h3⟩:=ih (acc++[qhd acc o.after.toList]);have h1':(qca r (acc++[qhd acc o.after.toList])).take acc.length=acc:=by
    have:=congrArg (List.take acc.length) h1;rw [List.take_take,List.take_left] at this;rw [show min acc.length (acc++[qhd acc o.after.toList]).length=acc.length from by simp] at this
    exact this
   refine ⟨h1',by rw [h2]; simp; omega,fun i o' ho => ?_⟩
   cases i with
   | zero =>
     simp at ho; subst ho;rw [Nat.add_zero,h1'];have:((qca r (acc++[qhd acc o.after.toList])).take (acc++[qhd acc o.after.toList]).length)[acc.length]? = (acc++[qhd acc o.after.toList])[acc.length]? := by rw [h1]
     rw [List.getElem?_take,if_pos (by simp)] at this
     rw [this]; simp
   | succ i =>
     have:=h3 i o' (by simpa using ho)
     rw [show acc.length+(i+1)=(acc++[qhd acc o.after.toList]).length+i from by simp; omega]
     exact this
theorem qef {m i:Nat} (h:q2f m i=true) {j:Nat} (hj:j<i):m.testBit j=true:=by
 have h':m &&& (2 ^ i - 1)=2 ^ i - 1:=Nat.eq_of_beq_eq_true h;have:=congrArg (fun x=>x.testBit j) h';simp only [Nat.testBit_and,Nat.testBit_two_pow_sub_one,hj,decide_true,Bool.and_true] at this;exact this
theorem qhb {a b:Bool} (h:zab a b false=true):a=true/\b=true:=by cases a <;> cases b <;> simp_all
theorem qai:∀ (ops:List Oper) (k:Nat),qmb ops k=true->∀ (i:Nat) (o:Oper),ops[i]? = some o->∀ e∈o.after.toList,Region.binds .any e=true->e.on<k+i:=by
 intro ops;induction ops with
 | nil=>intro k _ i o h; simp at h
 | cons a r ih =>
   intro k h i o ho e he hb;obtain ⟨h1,h2⟩:=qhb (show zab (qn1 k a.after.toList) (qmb r (k+1)) false=true from h)
   cases i with
   | zero =>
     simp at ho; subst ho;have:=qxe _ _ h1 e he;rw [hb,zak] at this;have:=Nat.le_of_ble_eq_true this;omega
   | succ i =>
     have:=ih (k+1) h2 i o (by simpa using ho) e he hb
     omega
theorem qdk:∀ (ms:List Nat) (k:Nat),qwe ms k=true->∀ (i m:Nat),ms[i]? = some m->q2f m (k+i)=true:=by
 intro ms;induction ms with
 | nil=>intro k _ i m h; simp at h
 | cons a r ih =>
   intro k h i m hm;obtain ⟨h1,h2⟩:=qhb (show zab (q2f a k) (qwe r (k+1)) false=true from h)
   cases i with
   | zero=>simp at hm; subst hm; exact h1
   | succ i =>
     have:=ih (k+1) h2 i m (by simpa using hm)
     rw [show k+(i+1)=k+1+i from by omega]; exact this
theorem q9f {n:Nat} {l:List Nat} (h:n∈l):zbD n l=true:=by
 induction l with
 | nil=>cases h
 | cons a l ih =>
   show zab (Nat.beq a n) true (zbD n l)=true;by_cases ha:a=n
   . subst ha; rw [show Nat.beq a a=true from Nat.beq_refl a]; rfl
   . rw [show Nat.beq a n=false from Bool.eq_false_iff.2 fun h=>ha (Nat.eq_of_beq_eq_true h)]
     exact ih ((List.mem_cons.1 h).resolve_left fun e=>ha e.symm)
theorem q8s (m:Nat) (reads:List Nat):∀ (ops:List Oper) (k:Nat),qvj m reads ops k=true->∀ (j:Nat) (o:Oper) (d:Nat),ops[j]? = some o->o.dst=some d->d∈reads->m.testBit (k+j)=true:=by
 intro ops;induction ops with
 | nil=>intro k _ j o d h; simp at h
 | cons a r ih =>
   intro k h j o d ho hd hr;obtain ⟨h1,h2⟩:=qhb (show zab (zah a.dst true fun d=>zab (zbD d reads) (zbH m k) true) (qvj m reads r (k+1)) false=true from h)
   cases j with
   | zero =>
     simp at ho; subst ho;rw [hd,zao,q9f hr,zak] at h1;exact h1
   | succ j =>
     have:=ih (k+1) h2 j o d (by simpa using ho) hd hr
     rw [show k+(j+1)=k+1+j from by omega]; exact this
theorem q9x {d:Tmp} {ops:List Oper} (h:qvs (some d) ops=true) {o:Oper} (ho:o∈ops):o.dst≠some d:=by
 intro hd;have:=qxe _ _ (show zaO (fun o:Oper=>zah o.dst true fun e=>zab (Nat.beq e d) false true) ops=true from h) o ho
 rw [hd,zao,show Nat.beq d d=true from Nat.beq_refl d] at this
 cases this
theorem qlh (os:Array Oper) (hd0:List Oper):∀ (ops:List Oper) (ms:List Nat) (k:Nat),qid os hd0 ops ms k=true->∀ (i:Nat) (o:Oper),ops[i]? = some o ->
  (∀ (j:Nat) (o':Oper) (d:Nat),hd0[j]? = some o'->o'.dst=some d->d∈qsb os o->∃ m:Nat,ms[i]? = some m/\m.testBit j=true)/\(∀ d,o.dst=some d->∀ (j:Nat) (o':Oper),i<j->ops[j]? = some o'->o'.dst≠some d):=by
 intro ops;induction ops with
 | nil=>intro ms k _ i o h; simp at h
 | cons a r ih =>
   intro ms k h i o ho;have h':zab (qvj (List.rec (motive:=fun _=>Nat) 0 (fun m _ _=>m) ms) (qsb os a) hd0 0) (zab (qvs a.dst r) (qid os hd0 r (List.rec (motive:=fun _=>List Nat) [] (fun _ r _=>r) ms) (k+1)) false) false=true:=h;obtain ⟨h1,h2⟩:=qhb h';obtain ⟨h2,h3⟩:=qhb h2;cases i with
   | zero =>
     simp at ho; subst ho;refine ⟨fun j o' d hj hd hr => ?_,fun d hd j o' hj ho' => ?_⟩
     . have:=q8s _ _ hd0 0 h1 j o' d hj hd hr;rw [Nat.zero_add] at this;cases ms with
       | nil=>simp at this
       | cons m ms=>exact ⟨m,rfl,this⟩
     . cases j with
       | zero=>omega
       | succ j =>
         rw [hd] at h2;exact q9x h2 (List.mem_of_getElem? (by simpa using ho'))
   | succ i =>
     obtain ⟨h4,h5⟩:=ih _ _ h3 i o (by simpa using ho)
     refine ⟨fun j o' d hj hd hr => ?_,fun d hd j o' hj ho' => ?_⟩
     . obtain ⟨m,hm,hb⟩:=h4 j o' d hj hd hr;cases ms with
       | nil=>simp at hm
       | cons m0 ms=>exact ⟨m,by simpa using hm,hb⟩
     . cases j with
       | zero=>omega
       | succ j=>exact h5 d hd j o' (by omega) (by simpa using ho')
section
variable {c:Cfg} {D:SV->List SO->Prop} {S:SS->Prop}
structure zfH (slots:List (Nat × SO)) (i:Nat) (n0:Nat) (f:Fct):Prop where
 ex:(f.news=[]/\∀ e,(i,e) ∉ slots)\/∃ (e:SO) (p:Nat) (v:SV) (q:List (Nat × SO)),f=.run v [e] (n0+p) q/\slots[p]? = some (i,e)/\∀ (q:Nat) (e':SO),slots[q]? = some (i,e')->q=p
def q27 (H:List SO) (slots:List (Nat × SO)) (m:Nat) (G:List SO):Prop :=
 ∀ n e,G[n]? = some e->e=.gone\/H[n]? = some e\/(H.length<=n/\∃ j,slots[n - H.length]? = some (j,e)/\m.testBit j=true)
theorem qw1 (H:List SO) (m:Nat) (N R:List (Nat × SO)):q27 H (N++R) m (qzo H m N):=by
 intro n e hn;rw [jna] at hn;rcases Nat.lt_or_ge n H.length with h | h
 . rw [List.getElem?_append_left h] at hn; exact .inr (.inl hn)
 . rw [List.getElem?_append_right h] at hn;unfold q1v at hn;rw [qxa,List.getElem?_map] at hn;cases hx:N[n - H.length]? with
   | none=>rw [hx] at hn; cases hn
   | some p =>
     rw [hx] at hn;have hn:zab (zbH m p.1) p.2 .gone=e:=Option.some.inj hn;cases hb:zbH m p.1 with
     | false=>rw [hb] at hn; exact .inl hn.symm
     | true =>
       rw [hb] at hn;refine .inr (.inr ⟨h,p.1,?_,hb⟩);rw [List.getElem?_append_left (List.getElem?_eq_some_iff.1 hx).1,hx,← hn]; rfl
structure Facts (x:zcn) (ops:List Oper) (ms:List Nat) (T:List SV) (i0:Nat) (N:List (Nat × SO)) (TF:List SV) (Fs:List Fct) (slots:List (Nat × SO)) (sets:List (Nat × SO)):Prop where
 len:Fs.length=ops.length
 zdn:TF.length=T.length
 ge:∀ j e,(j,e)∈slots->i0<=j/\j<i0+ops.length
 same:∀ t,(∀ o∈ops,o.dst≠some t)->∀ β,(zbg TF t).den β=(zbg T t).den β
 none:ops=[]->sets=[]
 last:sets=[]\/(x.mL=some ((ms[ops.length - 1]?).getD 0)/\∀ n e,(n,e)∈sets->ze2 x.H n=true\/q1o x ((ms[ops.length - 1]?).getD 0) (i0+ops.length - 1) (N++slots) n)
 good:∀ (i:Nat) (o:Oper) (f:Fct),ops[i]? = some o->Fs[i]? = some f->zfH slots (i0+i) (x.H.length+N.length) f /\
  (∀ d,o.dst=some d->d<T.length->(∀ (k:Nat) (o':Oper),i<k->ops[k]? = some o'->o'.dst≠some d)->∀ β,(zbg TF d).den β=f.val.den β) /\
  (f.sets=(if i+1=ops.length then sets else [])/\(f.sets≠[]->f.news=[])) /\
  ∃ T' G,qcj x.c.P x.c.glob G x.os o T' f/\q27 (x.atI (i0+i) (decide (i+1=ops.length))) (N++slots) ((ms[i]?).getD 0) G/\T'.length=T.length/\∀ t,(∀ (k:Nat) (o':Oper),i<=k->ops[k]? = some o'->o'.dst≠some t)->∀ β,(zbg TF t).den β=(zbg T' t).den β
theorem qmh (T:List SV) (dst:Option Tmp) (v:SV):(zbU T dst v).length=T.length:=by
 cases dst with
 | none=>rfl
 | some d=>show (zbv T d v).length=_; rw [quc]; simp
theorem qsd {T:List SV} {dst:Option Tmp} {v:SV} {t:Nat} (h:dst≠some t):zbg (zbU T dst v) t=zbg T t:=by
 cases dst with
 | none=>rfl
 | some d =>
   show zbg (zbv T d v) t=_;rw [q8l,if_neg];rintro ⟨rfl,_⟩; exact h rfl
theorem qnh {T:List SV} {v:SV} {d:Nat} (h:d<T.length):zbg (zbU T (some d) v) d=v:=by
 show zbg (zbv T d v) d=_;rw [q8l,if_pos ⟨rfl,h⟩]
theorem qw0 {f:Fct} (h:f.news.length<=1):f.news=[]\/∃ e v b q,f=.run v [e] b q:=by
 cases f with
 | skip=>exact .inl rfl
 | touch=>exact .inl rfl
 | run v N b q =>
   cases N with
   | nil=>exact .inl rfl
   | cons e r =>
     cases r with
     | nil=>exact .inr ⟨e,v,b,q,rfl⟩
     | cons=>simp [Fct.news] at h
theorem qgi (x:zcn) (i:Nat) (l:Bool):(x.atI i l).length=x.H.length:=by
 unfold zcn.atI;cases x.mL with
 | none=>rfl
 | some m =>
   show (zab l x.H (zab (zbH m i) x.H (zas qkg x.H))).length=_;cases l with
   | true=>rfl
   | false =>
     cases zbH m i with
     | true=>rfl
     | false=>show (zas qkg x.H).length=_; rw [qxa,List.length_map]
theorem qup {x:zcn} (hc:zaC x.c):∀ (ops:List Oper) (ms:List Nat) (T:List SV) (N:List (Nat × SO)) (i0:Nat),(q2v ops x ms i0 T N).Ob D S ->
  ∃ TF Fs slots sets,Facts x ops ms T i0 N TF Fs slots sets/\(x.fin TF ((N++slots).map (·.2)) sets).Ob D S:=by
 intro ops;induction ops with
 | nil =>
   intro ms T N i0 h;have h:(x.fin T (zas (fun p=>p.2) N) []).Ob D S:=h;rw [qxa] at h;exact ⟨T,[],[],[],⟨rfl,rfl,by simp,fun _ _ _=>rfl,fun _=>rfl,.inl rfl,by simp⟩,by rw [List.append_nil]; exact h⟩
 | cons o r ih =>
   intro ms T N i0 h;obtain ⟨T',f,hsd,hgood,hor,hn1,hbase⟩:=j4e hc (show (zhO o x ⟨i0,qsf ms,List.rec (motive:=fun _=>Bool) true (fun _ _ _=>false) r⟩ T N (q2v r x (qxd ms) (i0+1))).Ob D S from h)
   have hlast:(List.rec (motive:=fun _=>Bool) true (fun _ _ _=>false) r:Bool)=decide (0+1=(o::r).length):=by cases r <;> simp
   rw [hlast] at hgood hor;have hm0:qsf ms=(ms[0]?).getD 0:=by cases ms <;> rfl
   have hms:∀ i:Nat,(qxd ms)[i]? = ms[i+1]? := by intro i; cases ms <;> simp [qxd]
   have hlen:T'.length=T.length:=hsd.len;have zdu:(zbU T' o.dst f.val).length=T.length:=by rw [qmh,hlen]
   rcases hor with ⟨hs0,h⟩ | ⟨hs1,hnn,hsl,hfin⟩
   case inr =>
    have hr:r=[]:=by
     have:=of_decide_eq_true hsl.last;cases r with
     | nil=>rfl
     | cons=>simp at this
    subst hr;refine ⟨zbU T' o.dst f.val,[f],[],f.sets,⟨rfl,zdu,by simp,?_,by simp,.inr ⟨?_,fun n e hn => ?_⟩,?_⟩,by rw [List.append_nil]; exact hfin⟩
    . intro t ht β;rw [qsd (ht o List.mem_cons_self),hsd.den β t]
    . rw [hsl.mL]; exact congrArg some hm0
    . rw [List.append_nil];show _\/q1o x ((ms[0]?).getD 0) i0 N n;rw [← hm0];exact hsl.hid n e hn
    . intro i o' f' ho' hf';cases i with
      | succ i=>simp at ho'
      | zero =>
        simp at ho' hf'; subst ho'; subst hf';refine ⟨⟨.inl ⟨hnn,by simp⟩⟩,fun d hd hdl _ β => ?_,⟨by simp,fun _=>hnn⟩,T',_,hgood,?_,hlen,fun t ht β => ?_⟩
        . rw [hd,qnh (Nat.lt_of_lt_of_eq hdl hlen.symm)]
        . rw [← hm0]; exact qw1 _ _ _ _
        . rw [qsd (ht 0 o (Nat.le_refl _) rfl)]
   case inl =>
   obtain ⟨TF,Fs,slots,sets,hF,hfin⟩:=ih _ _ _ (i0+1) h;have key:∀ (head:List (Nat × SO)),head=f.news.map (fun e=>(i0,e))->(∀ j e,(j,e)∈head->j=i0)->zfH (head++slots) i0 (x.H.length+N.length) f ->
     ∃ TF Fs slots sets,Facts x (o::r) ms T i0 N TF Fs slots sets/\(x.fin TF ((N++slots).map (·.2)) sets).Ob D S:=by
    intro head hmap hge zcA;have hhl:head.length=f.news.length:=by rw [hmap]; simp
    have hall:N++(head++slots)=N++f.news.map (fun e=>(i0,e))++slots:=by rw [hmap,List.append_assoc]
    refine ⟨TF,f::Fs,head++slots,sets,⟨by simp [hF.len],hF.zdn.trans zdu,?_,?_,by simp,?_,?_⟩,by rw [hall]; exact hfin⟩
    . intro j e hj;rw [List.length_cons];rcases List.mem_append.1 hj with hj | hj
      . have:=hge j e hj; omega
      . have:=hF.ge j e hj; omega
    . intro t ht β;rw [hF.same t (fun o' ho'=>ht o' (List.mem_cons_of_mem _ ho')) β,qsd (ht o List.mem_cons_self),hsd.den β t]
    . rcases hF.last with h | ⟨h1,h2⟩
      . exact .inl h
      . cases hr:r with
        | nil=>exact .inl (hF.none hr)
        | cons a r' =>
          have hmm:((qxd ms)[r.length - 1]?).getD 0=(ms[(o::r).length - 1]?).getD 0:=by rw [hms,hr]; rfl
          rw [← hr];refine .inr ⟨by rw [h1,hmm],fun n e hn=>(h2 n e hn).imp id fun h => ?_⟩
          rw [hmm,show i0+1+r.length - 1=i0+(o::r).length - 1 from by rw [List.length_cons]; omega,← hall] at h
          exact h
    . intro i o' f' ho' hf';cases i with
      | zero =>
        simp at ho' hf'; subst ho'; subst hf';refine ⟨by rw [Nat.add_zero]; exact zcA,fun d hd hdl zdV β => ?_,⟨?_,fun h=>absurd hs0 h⟩,T',_,hgood,by rw [← hm0]; exact qw1 _ _ _ _,hlen,fun t ht β => ?_⟩
        . rw [hF.same d (fun o' ho' => ?_) β,hd,qnh (Nat.lt_of_lt_of_eq hdl hlen.symm)];obtain ⟨k,hk⟩:=List.mem_iff_getElem?.1 ho';exact zdV (k+1) o' (by omega) (by simpa using hk)
        . rw [hs0];split
          . rename_i h1;exact (hF.none (by cases hr:r with
             | nil=>rfl
             | cons a r'=>rw [hr] at h1; simp at h1)).symm
          . rfl
        . rw [hF.same t (fun o' ho' => ?_) β,qsd (ht 0 o (Nat.le_refl _) rfl)];obtain ⟨k,hk⟩:=List.mem_iff_getElem?.1 ho';exact ht (k+1) o' (by omega) (by simpa using hk)
      | succ i =>
        obtain ⟨h1,h2,⟨h6,h7⟩,T2,G,h3,hG,h4,h5⟩:=hF.good i o' f' (by simpa using ho') (by simpa using hf')
        have hii:(i+1+1=(o::r).length)↔(i+1=r.length):=by simp
        refine ⟨?_,fun d hd hdl zdV β=>h2 d hd (Nat.lt_of_lt_of_eq hdl zdu.symm) (fun k o'' hk zfZ=>zdV (k+1) o'' (by omega) (by simpa using zfZ)) β,⟨by rw [h6]; simp only [hii],h7⟩,T2,G,h3,?_,h4.trans zdu,fun t ht β=>h5 t (fun k o'' hk zfZ=>ht (k+1) o'' (by omega) (by simpa using zfZ)) β⟩
        . rw [show i0+(i+1)=i0+1+i from by omega]
          rcases h1.ex with ⟨hnil,hno⟩ | ⟨e,p,v,q,hf,hp,zjJ⟩
          . refine ⟨.inl ⟨hnil,fun e he => ?_⟩⟩;rcases List.mem_append.1 he with he | he
            . have:=hge _ _ he; omega
            . exact hno e he
          . refine ⟨.inr ⟨e,head.length+p,v,q,?_,?_,fun q e' hq => ?_⟩⟩
            . rw [hf,List.length_append,hhl,List.length_map]; congr 1; omega
            . rw [List.getElem?_append_right (by omega)]; simpa using hp
            . rcases Nat.lt_or_ge q head.length with hlt | hlt
              . rw [List.getElem?_append_left hlt] at hq;have:=hge _ _ (List.mem_of_getElem? hq); omega
              . rw [List.getElem?_append_right hlt] at hq;have:=zjJ _ _ hq; omega
        . rw [hall,← hms,show i0+(i+1)=i0+1+i from by omega]
          simp only [hii];exact hG
   rcases qw0 hn1 with hnil | ⟨e,v,b,q,rfl⟩
   . refine key [] (by rw [hnil]; rfl) (by simp) ⟨.inl ⟨hnil,fun e he => ?_⟩⟩
     have:=hF.ge _ _ he; omega
   . refine key [(i0,e)] rfl (by simp) ⟨.inr ⟨e,0,v,q,?_,rfl,fun q e' hq => ?_⟩⟩
     . rw [hbase v [e] b q rfl]; rfl
     . cases q with
       | zero=>rfl
       | succ q =>
         have:=hF.ge _ _ (List.mem_of_getElem? (show slots[q]? = some (i0,e') from by simpa using hq)); omega
end
theorem HeapRel0.less {P:Program} {O:Nat->Prop} {w0:World} {β:Val} {H G:List SO} {w:World} (h:HeapRel0 P O w0 β H w) (hin:∀ (n:Nat) (e:SO),G[n]? = some e->H[n]? = some e\/e=SO.gone):HeapRel0 P O w0 β G w:=by
 refine ⟨fun n e hn => ?_,fun n m e e' l l' hn hm ho ho' => ?_,fun n e l hn ho => ?_,h.keep,fun n m hn => ?_,fun n k m m' hn hk => ?_⟩
 . rcases hin n e hn with h' | rfl
   . exact h.entries n e h'
   . trivial
 . rcases hin n e hn with h' | rfl
   . rcases hin m e' hm with h2 | rfl
     . exact h.sep n m e e' l l' h' h2 ho ho'
     . cases ho'
   . cases ho
 . rcases hin n e hn with h' | rfl
   . exact h.fresh n e l h' ho
   . cases ho
 . rcases hin n _ hn with h' | h'
   . refine (h.zcG n m h').names fun b _ h2 k e l hk ho hl => ?_
     rcases hin k e hk with h3 | rfl
     . exact h2 k e l h3 ho hl
     . cases ho
   . cases h'
 . rcases hin n _ hn with h' | h'
   . rcases hin k _ hk with h2 | h2
     . exact h.zbC n k m m' h' h2
     . cases h2
   . cases h'
theorem HeapRel0.lay {P:Program} {O:Nat->Prop} {w0:World} {β β':Val} {G G':List SO} {w w':World} {base:Nat} {news:List SO} (h:HeapRel0 P O w0 β G w) (hE:Eff P β w base [] news β' w')
  (hG:∀ n e,G'[n]? = some e->(G[n]? = some e/\(n<base\/base+news.length<=n))\/(∃ i,n=base+i/\news[i]? = some e)):HeapRel0 P O w0 β' G' w':=by
 have hold:∀ n,(n<base\/base+news.length<=n)->β' n=β n:=fun n hn=>hE.dom n hn;have hlt:∀ n e l,G[n]? = some e->e.owned=true->β n=some l->l.blk<w.heap.size:=by
  intro n e l he ho hl;exact (h.entries n e he).lt ho hl
 have hfr:∀ b,b<w.heap.size->w'.heap[b]? = w.heap[b]? := fun b hb=>hE.frame b hb (by simp) (.nil b)
 have hnew:∀ i e l,news[i]? = some e->β' (base+i)=some l->w.heap.size<=l.blk:=by
  intro i e l hi hl;obtain ⟨_,_,l2,hl2,hor⟩:=hE.made i e hi;rw [hl] at hl2; cases hl2;rcases hor with h | ⟨_,_,hm,_⟩
  . exact h
  . simp at hm
 have hkept:∀ n e,G[n]? = some e->(n<base\/base+news.length<=n)->zbu P O w0 β' w' n e:=by
  intro n e he hnb;have h0:=h.entries n e he;cases e with
  | row c =>
    obtain ⟨l,vs,hl,hc,hx⟩:=h0;exact ⟨l,vs,hE.le _ _ hl,hc.mono hE.le,hx⟩
  | own c wh el=>exact zaz.kept (P:=P) (e:=.own c wh el) h0 hE.le fun hw l hl=>hfr _ (hlt n _ l he hw hl)
  | loop s p f T ps a b d=>exact zaz.kept (P:=P) (e:=.loop s p f T ps a b d) h0 hE.le fun hw l hl=>hfr _ (hlt n _ l he hw hl)
  | deferred ds=>exact zaz.kept (P:=P) (e:=.deferred ds) h0 hE.le fun hw l hl=>hfr _ (hlt n _ l he hw hl)
  | gone=>trivial
  | mem=>exact (hold n hnb).trans h0
  | obj o=>exact zaz.kept (P:=P) (e:=.obj o) h0 hE.le fun hw l hl=>hfr _ (hlt n _ l he hw hl)
 have hnm:∀ i m,news[i]? ≠ some (SO.mem m):=fun i m hi=>by
  obtain ⟨_,h1,l,h2,_⟩:=hE.made i _ hi;have h1:β' (base+i)=none:=h1.1;rw [h2] at h1; cases h1
 refine ⟨fun n e he => ?_,fun n m e e' l l' he he' hw hw' hnm hl hl' => ?_,fun n e l he hw hl => ?_,?_,fun n m he => ?_,fun n k m m' he he' => ?_⟩
 . rcases hG n e he with ⟨h1,h2⟩ | ⟨i,rfl,hi⟩
   . exact hkept n e h1 h2
   . obtain ⟨hw,hr,_⟩:=hE.made i e hi;cases e <;> first | exact hr | exact hr.1 | (cases hw; done)
 . rcases hG n e he with ⟨h1,hn⟩ | ⟨i,rfl,hi⟩ <;> rcases hG m e' he' with ⟨h2,hm⟩ | ⟨j,rfl,hj⟩
   . rw [hold n hn] at hl; rw [hold m hm] at hl';exact h.sep n m e e' l l' h1 h2 hw hw' hnm hl hl'
   . rw [hold n hn] at hl;have:=hlt n e l h1 hw hl;have:=hnew j e' l' hj hl';omega
   . rw [hold m hm] at hl';have:=hlt m e' l' h2 hw' hl';have:=hnew i e l hi hl;omega
   . exact hE.apart i j l l' (by omega) (List.getElem?_eq_some_iff.1 hi).1 (List.getElem?_eq_some_iff.1 hj).1 hl hl'
 . rcases hG n e he with ⟨h1,hn⟩ | ⟨i,rfl,hi⟩
   . rw [hold n hn] at hl;exact h.fresh n e l h1 hw hl
   . left;have:=hnew i e l hi hl;have:=h.keep.size;omega
 . refine ⟨hE.os.trans h.keep.os,hE.tape.trans h.keep.tape,hE.output.trans h.keep.output,Nat.le_trans h.keep.drawn hE.drawn,Nat.le_trans h.keep.size hE.size,fun k hk hO => ?_⟩;rw [hfr k (Nat.lt_of_lt_of_le hk h.keep.size),h.keep.block k hk hO]
 . rcases hG n _ he with ⟨h1,_⟩ | ⟨i,rfl,hi⟩
   . refine (h.zcG n m h1).next fun b _ hb h3=>⟨hfr _ hb,fun k e l hk ho hl => ?_⟩
     rcases hG k e hk with ⟨h4,hn⟩ | ⟨j,rfl,hj⟩
     . rw [hold k hn] at hl;exact h3 k e l h4 ho hl
     . have:=hnew j e l hj hl;omega
   . exact absurd hi (hnm i m)
 . rcases hG n _ he with ⟨h1,_⟩ | ⟨i,rfl,hi⟩
   . rcases hG k _ he' with ⟨h2,_⟩ | ⟨j,rfl,hj⟩
     . exact h.zbC n k m m' h1 h2
     . exact absurd hj (hnm j m')
   . exact absurd hi (hnm i m)
theorem HeapRel0.turn {P:Program} {O:Nat->Prop} {w0:World} {β β':Val} {H:List SO} {w w':World} {base:Nat} {sets:List (Nat × SO)} (h:HeapRel0 P O w0 β H w) (hb:∀ n,H.length<=n->β n=none) (hE:Eff P β w base sets [] β' w')
  (hs:∀ n e,(n,e)∈sets->qhh H n e):HeapRel0 P O w0 β' (qbc H sets) w':=by
 have hE':Eff P β w H.length sets [] β' w':=⟨hE.le,hE.os,hE.tape,hE.output,hE.drawn,hE.size,fun n _=>hE.dom n (by simp; omega),hE.frame,hE.one,hE.turned,(by intro i e h; simp at h),(by intro i j l l' _ h; simp at h)⟩
 have:=(zac.apply ⟨h,hb⟩ hE' hs).toHeapRel0;rw [qoc,List.append_nil] at this;exact this
end
end Go.Sim
